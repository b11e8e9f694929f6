/-
  The functions of the road, for the machine. (Written by a program.)
-/
import Derived.Test.YtbikpdgeldhkoaaDoorGr0
namespace Go.Proofs.YtbikpdgeldhkoaaDoor.Ir
set_option linter.unusedVariables false
set_option maxRecDepth 100000
open Go Go.Proofs.YtbikpdgeldhkoaaDoor
noncomputable def f5 : FnE := .code 157
 (.seq (.reg [o 0 d6 (.q (.mv (.v (.bool false))))])
 (.seq (.reg [o 0 d19 (.call p24 []),
 o 1 d7 (.q (.mv s19))])
 (.seq (.seq (.reg [o 0 d20 (.q (.mv s7)),
 o 1 d21 (.q (.not s20))])
 (.cnd s21 (.seq (.reg [o 0 d6 (.q (.mv (.v (.bool false))))])
 .ret) .skip))
 (.seq (.reg [o 0 d22 (.q (.mv s0)),
 o 1 d23 (.call p25 [s22, (.v (.int .i64 (.ofNat 20)))]),
 o 2 d24 (.q (.bin .add s23 (.v (.int .i64 (.ofNat 1))))),
 o 3 d0 (.q (.mv s24))])
 (.seq (.reg [o 0 d25 (.q (.mv s1)),
 o 1 d26 (.q (.mv s0)),
 o 2 d27 (.call p25 [s25, s26]),
 o 3 d1 (.q (.mv s27))])
 (.seq (.reg [o 0 d28 (.q (.mv s2)),
 o 1 d29 (.q (.bin .rem s28 (.v (.int .u64 (.ofNat 1000000))))),
 o 2 d2 (.q (.mv s29))])
 (.seq (.reg [o 0 d8 (.e (.alo [.nilm, .nilm, (.int .i64 (.ofNat 0)), (.int .i64 (.ofNat 0)), (.int .i64 (.ofNat 0)), (.int .u64 (.ofNat 0))]))])
 (.seq (.reg [o 0 d30 (.q (.bld (zz (.int .u8 (.ofNat 0)) 32) [(0, 1, (.v (.int .u8 (.ofNat 5))))])),
 o 1 d31 (.q (.bld (lapp (zz (.int .u8 (.ofNat 0)) 32) [(.int .u32 (.ofNat 0))]) [(0, 32, s30)])),
 o 2 d9 (.e (.alo (lapp (zz (.int .u8 (.ofNat 0)) 32) [(.int .u32 (.ofNat 0))]))),
 o 3 none (.e (.st s9 s31 33))])
 (.seq (.reg [o 0 d10 (.q (.mv (.v .nils)))])
 (.seq (.reg [o 0 d11 (.q (.mv (.v (.int .i64 (.ofNat 0)))))])
 (.seq (.seq (.reg [o 0 d12 (.q (.mv (.v (.int .i64 (.ofNat 0)))))])
 (.blk 0 (.loop (.seq (.seq (.reg [o 0 d32 (.q (.mv s12)),
 o 1 d33 (.q (.mv s0)),
 o 2 d34 (.q (.bin .lss s32 s33))])
 (.cnd s34 .skip (.exit 0)))
 (.seq (.blk 1 (.seq (.reg [o 0 d37 (.q (.mv s12)),
 o 1 d38 (.q (.cvi .u32 s37)),
 o 2 d39 (.q (.ldn s9 33)),
 o 3 d40 (.q (.bld (lapp (zz (.int .u8 (.ofNat 0)) 32) [(.int .u32 (.ofNat 0)), .nils, (.int .u32 (.ofNat 0))]) [(0, 33, s39)])),
 o 4 d41 (.e (.bsl (lapp (zz (.int .u8 (.ofNat 0)) 32) [(.int .u32 (.ofNat 0)), .nils, (.int .u32 (.ofNat 0))]) [(0, 35, s40)] 1 35)),
 o 5 d42 (.q (.bld (lapp [(.int .u64 (.ofNat 0))] (zz (.int .u8 (.ofNat 0)) 32)) [])),
 o 6 d43 (.e (.bsl (lapp [(.int .u64 (.ofNat 0))] (zz (.int .u8 (.ofNat 0)) 32)) [(0, 33, s42)] 1 33)),
 o 7 d44 (.q (.bld [(.int .u32 (.ofNat 0)), .nils, .nils, (.int .u32 (.ofNat 0))] [(0, 1, s38), (1, 1, s41), (2, 1, s43)])),
 o 8 d13 (.e (.alo [(.int .u32 (.ofNat 0)), .nils, .nils, (.int .u32 (.ofNat 0))])),
 o 9 none (.e (.st s13 s44 4))])
 (.seq (.seq (.reg [o 0 d45 (.q (.ldn s13 4)),
 o 1 d46 (.q (.mv s2)),
 o 2 d47 (.q (.mv s12)),
 o 3 d48 (.q (.cvi .u64 s47)),
 o 4 d49 (.q (.bin .add s46 s48)),
 o 5 d50 (.call p26 [s8, s45, s49]),
 o 6 d51 (.q (.eqp (.iface true) true s50 (.v .nili)))])
 (.cnd s51 (.seq (.reg [o 0 d6 (.q (.mv (.v (.bool false))))])
 .ret) .skip))
 (.seq (.reg [o 0 d52 (.q (.ldn s13 4)),
 o 1 d53 (.call p27 [s52]),
 o 2 d11 (.q (.mv s53))])
 (.seq (.reg [o 0 d54 (.q (.mv s10)),
 o 1 d55 (.q (.ldn s13 4)),
 o 2 d56 (.call p11 [s55]),
 o 3 d57 (.e (.bsl (zz (.int .u8 (.ofNat 0)) 32) [(0, 32, s56)] 1 32)),
 o 4 d58 (.e (.app s54 s57 32 32 false)),
 o 5 d10 (.q (.mv s58))])
 (.reg [o 0 d59 (.q (.mv s10)),
 o 1 d60 (.q (.mv s12)),
 o 2 d61 (.q (.iadr s59 s60 32)),
 o 3 d62 (.q (.ldn s61 32)),
 o 4 d63 (.q (.bld (lapp (zz (.int .u8 (.ofNat 0)) 32) [(.int .u32 (.ofNat 0))]) [(0, 32, s62)])),
 o 5 none (.e (.st s9 s63 33))]))))))
 (.reg [o 0 d35 (.q (.mv s12)),
 o 1 d36 (.q (.bin .add s35 (.v (.int .i64 (.ofNat 1))))),
 o 2 d12 (.q (.mv s36))]))))))
 (.seq (.reg [o 0 d64 (.q (.mv s10)),
 o 1 d65 (.q (.mv s1)),
 o 2 d66 (.q (.iadr s64 s65 32)),
 o 3 d67 (.q (.ldn s66 32)),
 o 4 d68 (.call p28 [s8, s67]),
 o 5 d14 (.e (.alo [(.int .i64 (.ofNat 0)), (.int .i64 (.ofNat 0)), (.int .u64 (.ofNat 0))])),
 o 6 none (.e (.st s14 s68 3))])
 (.seq (.reg [o 0 d69 (.q (.mv s10)),
 o 1 d70 (.q (.mv s1)),
 o 2 d71 (.q (.iadr s69 s70 32)),
 o 3 d72 (.q (.ldn s71 32)),
 o 4 d73 (.call p29 [s8, s72]),
 o 5 d15 (.e (.alo [(.int .i64 (.ofNat 0)), (.int .i64 (.ofNat 0)), (.int .u64 (.ofNat 0))])),
 o 6 none (.e (.st s15 s73 3))])
 (.seq (.reg [o 0 d16 (.q (.mv (.v (.int .u64 (.ofNat 0)))))])
 (.seq (.reg [o 0 d17 (.q (.mv (.v (.int .u64 (.ofNat 0)))))])
 (.seq (.seq (.reg [o 0 d18 (.q (.mv (.v (.int .i64 (.ofNat 0)))))])
 (.blk 2 (.loop (.seq (.seq (.reg [o 0 d74 (.q (.mv s18)),
 o 1 d75 (.q (.mv s0)),
 o 2 d76 (.q (.bin .lss s74 s75))])
 (.cnd s76 .skip (.exit 2)))
 (.seq (.blk 3 (.seq (.seq (.reg [o 0 d79 (.q (.mv s18)),
 o 1 d80 (.q (.mv s1)),
 o 2 d81 (.q (.bin .leq s79 s80))])
 (.cnd s81 (.reg [o 0 d82 (.q (.mv s16)),
 o 1 d83 (.q (.mv s2)),
 o 2 d84 (.q (.bin .add s82 s83)),
 o 3 d85 (.q (.mv s18)),
 o 4 d86 (.q (.cvi .u64 s85)),
 o 5 d87 (.q (.bin .add s84 s86)),
 o 6 d16 (.q (.mv s87))]) .skip))
 (.seq (.reg [o 0 d88 (.q (.mv s18)),
 o 1 d89 (.q (.mv s1)),
 o 2 d90 (.q (.bin .geq s88 s89))])
 (.cnd s90 (.reg [o 0 d91 (.q (.mv s17)),
 o 1 d92 (.q (.mv s2)),
 o 2 d93 (.q (.bin .add s91 s92)),
 o 3 d94 (.q (.mv s18)),
 o 4 d95 (.q (.cvi .u64 s94)),
 o 5 d96 (.q (.bin .add s93 s95)),
 o 6 d17 (.q (.mv s96))]) .skip))))
 (.reg [o 0 d77 (.q (.mv s18)),
 o 1 d78 (.q (.bin .add s77 (.v (.int .i64 (.ofNat 1))))),
 o 2 d18 (.q (.mv s78))]))))))
 (.seq (.rgd 1 [o 0 d97 (.q (.mv s7)),
 o 1 d98 (.q (.mv s97)),
 ⟨2, d99, (.q (.fadr s14 0)), (some (p98, true)), []⟩,
 ⟨3, d100, (.q (.ld1 s99)), (some (p98, true)), []⟩,
 ⟨4, d101, (.q (.mv s1)), (some (p98, true)), []⟩,
 ⟨5, d102, (.q (.bin .add s101 (.v (.int .i64 (.ofNat 1))))), (some (p98, true)), []⟩,
 ⟨6, d103, (.q (.bin .eql s100 s102)), (some (p98, true)), []⟩,
 o 7 d104 (.q (.pick s98 s103 (.v (.bool false)))),
 o 8 d105 (.q (.mv s104)),
 ⟨9, d106, (.q (.fadr s15 0)), (some (p105, true)), []⟩,
 ⟨10, d107, (.q (.ld1 s106)), (some (p105, true)), []⟩,
 ⟨11, d108, (.q (.mv s0)), (some (p105, true)), []⟩,
 ⟨12, d109, (.q (.mv s1)), (some (p105, true)), []⟩,
 ⟨13, d110, (.q (.bin .sub s108 s109)), (some (p105, true)), []⟩,
 ⟨14, d111, (.q (.bin .eql s107 s110)), (some (p105, true)), []⟩,
 o 15 d112 (.q (.pick s105 s111 (.v (.bool false)))),
 o 16 d113 (.q (.mv s112)),
 ⟨17, d114, (.q (.fadr s14 1)), (some (p113, true)), []⟩,
 ⟨18, d115, (.q (.ld1 s114)), (some (p113, true)), []⟩,
 ⟨19, d116, (.q (.mv s11)), (some (p113, true)), []⟩,
 ⟨20, d117, (.q (.mv s1)), (some (p113, true)), []⟩,
 ⟨21, d118, (.q (.bin .add s117 (.v (.int .i64 (.ofNat 1))))), (some (p113, true)), []⟩,
 ⟨22, d119, (.q (.bin .mul s116 s118)), (some (p113, true)), []⟩,
 ⟨23, d120, (.q (.bin .eql s115 s119)), (some (p113, true)), []⟩,
 o 24 d121 (.q (.pick s113 s120 (.v (.bool false)))),
 o 25 d122 (.q (.mv s121)),
 ⟨26, d123, (.q (.fadr s15 1)), (some (p122, true)), []⟩,
 ⟨27, d124, (.q (.ld1 s123)), (some (p122, true)), []⟩,
 ⟨28, d125, (.q (.mv s11)), (some (p122, true)), []⟩,
 ⟨29, d126, (.q (.mv s0)), (some (p122, true)), []⟩,
 ⟨30, d127, (.q (.mv s1)), (some (p122, true)), []⟩,
 ⟨31, d128, (.q (.bin .sub s126 s127)), (some (p122, true)), []⟩,
 ⟨32, d129, (.q (.bin .mul s125 s128)), (some (p122, true)), []⟩,
 ⟨33, d130, (.q (.bin .eql s124 s129)), (some (p122, true)), []⟩,
 o 34 d131 (.q (.pick s122 s130 (.v (.bool false)))),
 o 35 d132 (.q (.mv s131)),
 ⟨36, d133, (.q (.fadr s14 2)), (some (p132, true)), []⟩,
 ⟨37, d134, (.q (.ld1 s133)), (some (p132, true)), []⟩,
 ⟨38, d135, (.q (.mv s16)), (some (p132, true)), []⟩,
 ⟨39, d136, (.q (.bin .eql s134 s135)), (some (p132, true)), []⟩,
 o 40 d137 (.q (.pick s132 s136 (.v (.bool false)))),
 o 41 d138 (.q (.mv s137)),
 ⟨42, d139, (.q (.fadr s15 2)), (some (p138, true)), []⟩,
 ⟨43, d140, (.q (.ld1 s139)), (some (p138, true)), []⟩,
 ⟨44, d141, (.q (.mv s17)), (some (p138, true)), []⟩,
 ⟨45, d142, (.q (.bin .eql s140 s141)), (some (p138, true)), []⟩,
 o 46 d143 (.q (.pick s138 s142 (.v (.bool false)))),
 o 47 d144 (.q (.mv s143)),
 ⟨48, d145, (.q (.mv s10)), (some (p144, true)), []⟩,
 ⟨49, d146, (.q (.mv s1)), (some (p144, true)), []⟩,
 ⟨50, d147, (.q (.iadr s145 s146 32)), (some (p144, true)), []⟩,
 ⟨51, d148, (.q (.ldn s147 32)), (some (p144, true)), []⟩,
 ⟨54, d151, (.q (.mv s1)), (some (p144, true)), []⟩,
 ⟨55, d152, (.q (.mnx false s151 (.v (.int .i64 (.ofNat 1))))), (some (p144, true)), []⟩,
 ⟨52, d149, (.call p30 [s8, s148]), (some (p144, true)), []⟩,
 ⟨53, d150, (.l (.bsl [(.int .i64 (.ofNat 0)), (.int .i64 (.ofNat 0))] [(0, 1, (.v (.int .i64 (.ofNat 0)))), (1, 1, (.v (.int .i64 (.ofNat 102))))] 2 1) 0), (some (p144, true)), [(p148, .ldn s147 32, (some (p144, true)))]⟩,
 ⟨56, d153, (.q (.iadr s150 s152 1)), (some (p144, true)), []⟩,
 ⟨57, d154, (.l (.prd s153) 0), (some (p144, true)), [(p148, .ldn s147 32, (some (p144, true)))]⟩,
 ⟨58, d155, (.call p15 [s149, s154]), (some (p144, true)), []⟩,
 o 59 d156 (.q (.pick s144 s155 (.v (.bool false)))),
 o 60 d6 (.q (.mv s156))])
 .ret)))))))))))))))))
 [.t p6]

noncomputable def f11 : FnE := .code 6
 (.seq (.reg [o 0 d1 (.e (.box s0 4)),
 o 1 d2 (.e (.alo (zz (.int .u8 (.ofNat 0)) 32)))])
 (.seq (.reg [o 0 d3 (.q (.ldn s1 4)),
 o 1 d4 (.call p38 [s3]),
 o 2 d5 (.call p37 [s4]),
 o 3 none (.e (.st s2 s5 32))])
 .ret))
 [.cn p2 32]

noncomputable def f15 : FnE := .code 9
 (.seq (.reg [o 0 d4 (.q (.mv (.v (.bool false))))])
 (.seq (.reg [o 0 d5 (.q (.mv s0)),
 o 1 d6 (.q (.mv s1)),
 o 2 d7 (.call p40 [s6]),
 o 3 d8 (.call p39 [s5, s7]),
 o 4 d4 (.q (.mv s8))])
 .ret))
 [.t p4]

noncomputable def f24 : FnE := .code 18
 (.seq (.reg [o 0 d0 (.q (.mv (.v (.bool false))))])
 (.seq (.reg [o 0 d1 (.e (.alo [.nilm, .nilm, (.int .i64 (.ofNat 0)), (.int .i64 (.ofNat 0)), (.int .i64 (.ofNat 0)), (.int .u64 (.ofNat 0))]))])
 (.seq (.reg [o 0 d5 (.q (.bld [(.int .u32 (.ofNat 0)), .nils, .nils, (.int .u32 (.ofNat 0))] [(0, 1, (.v (.int .u32 (.ofNat 5))))])),
 o 1 d2 (.e (.alo [(.int .u32 (.ofNat 0)), .nils, .nils, (.int .u32 (.ofNat 0))])),
 o 2 none (.e (.st s2 s5 4))])
 (.seq (.reg [o 0 d6 (.q (.ldn s2 4)),
 o 1 d7 (.call p26 [s1, s6, (.v (.int .u64 (.ofNat 3)))]),
 o 2 d3 (.q (.mv s7))])
 (.seq (.reg [o 0 d8 (.q (.ldn s2 4)),
 o 1 d9 (.call p11 [s8]),
 o 2 d10 (.call p47 [s1, s9]),
 o 3 d4 (.q (.mv s10))])
 (.seq (.reg [o 0 d11 (.q (.mv s3)),
 o 1 d12 (.q (.eqp (.iface true) false s11 (.v .nili))),
 o 2 d13 (.q (.mv s12)),
 ⟨3, d14, (.q (.mv s4)), (some (p13, true)), []⟩,
 ⟨4, d15, (.q (.lenv s14)), (some (p13, true)), []⟩,
 ⟨5, d16, (.q (.bin .eql s15 (.v (.int .i64 (.ofNat 1))))), (some (p13, true)), []⟩,
 o 6 d17 (.q (.pick s13 s16 (.v (.bool false)))),
 o 7 d0 (.q (.mv s17))])
 .ret))))))
 [.t p0]

noncomputable def f25 : FnE := .code 15
 (.seq (.reg [o 0 d4 (.q (.mv (.v (.int .i64 (.ofNat 0)))))])
 (.seq (.reg [o 0 d6 (.q (.mv s0)),
 o 1 d7 (.q (.mv s1)),
 o 2 d8 (.q (.bin .rem s6 s7)),
 o 3 d5 (.q (.mv s8))])
 (.seq (.seq (.reg [o 0 d9 (.q (.mv s5)),
 o 1 d10 (.q (.bin .lss s9 (.v (.int .i64 (.ofNat 0)))))])
 (.cnd s10 (.reg [o 0 d11 (.q (.mv s5)),
 o 1 d12 (.q (.mv s1)),
 o 2 d13 (.q (.bin .add s11 s12)),
 o 3 d5 (.q (.mv s13))]) .skip))
 (.seq (.reg [o 0 d14 (.q (.mv s5)),
 o 1 d4 (.q (.mv s14))])
 .ret))))
 [.t p4]

noncomputable def f26 : FnE := .code 129
 (.seq (.reg [o 0 d4 (.e (.box s1 4)),
 o 1 d6 (.q (.mv (.v .nili)))])
 (.seq (.reg [o 0 d20 (.q (.ldn s4 4)),
 o 1 d21 (.call p34 [s20]),
 o 2 d7 (.e (.alo (zz (.int .u8 (.ofNat 0)) 32))),
 o 3 none (.e (.st s7 s21 32))])
 (.seq (.seq (.rgd 0 [o 0 d23 (.q (.mv s0)),
 o 1 d24 (.q (.nck s23)),
 o 2 d25 (.q (.fadr s24 0)),
 o 3 d26 (.q (.ld1 s25)),
 o 4 d27 (.q (.ldn s7 32)),
 o 5 d28 (.q (.lkp s26 s27 (.cells (kk .u8 32)) (.agg [(.int .u32 (.ofNat 0)), .nils, .nils, (.int .u32 (.ofNat 0)), (.int .u64 (.ofNat 0)), (.int .i64 (.ofNat 0)), (.int .i64 (.ofNat 0))]) true)),
 o 6 d22 (.q (.mv s28)),
 o 7 d29 (.q (.ext s22 0)),
 o 8 d30 (.q (.ext s22 1)),
 ⟨9, d8, (.e (.alo [(.int .u32 (.ofNat 0)), .nils, .nils, (.int .u32 (.ofNat 0)), (.int .u64 (.ofNat 0)), (.int .i64 (.ofNat 0)), (.int .i64 (.ofNat 0))])), none, [(p26, .ld1 s25, none), (p27, .ldn s7 32, none), (p28, .lkp s26 s27 (.cells (kk .u8 32)) (.agg [(.int .u32 (.ofNat 0)), .nils, .nils, (.int .u32 (.ofNat 0)), (.int .u64 (.ofNat 0)), (.int .i64 (.ofNat 0)), (.int .i64 (.ofNat 0))]) true, none)]⟩,
 o 10 none (.e (.st s8 s29 7)),
 o 11 d9 (.q (.mv s30))])
 (.seq (.reg [o 0 d31 (.q (.mv s9))])
 (.cnd s31 (.seq (.reg [o 0 d32 (.q (.ld1 (.g p4))),
 o 1 d6 (.q (.mv s32))])
 .ret) .skip)))
 (.seq (.seq (.reg [o 0 d33 (.q (.fadr s4 1)),
 o 1 d34 (.q (.ld1 s33)),
 o 2 d35 (.q (.lenv s34)),
 o 3 d36 (.q (.mv (.v (.int .i64 (.ofNat 0)))))])
 (.blk 0 (.loop (.seq (.reg [o 0 d37 (.q (.bin .lss s36 s35))])
 (.seq (.cnd s37 .skip (.exit 0))
 (.seq (.blk 1 (.seq (.reg [o 0 d38 (.q (.iadr s34 s36 35)),
 o 1 d39 (.q (.ldn s38 35)),
 o 2 d11 (.e (.alo (lapp (zz (.int .u8 (.ofNat 0)) 32) [(.int .u32 (.ofNat 0)), .nils, (.int .u32 (.ofNat 0))]))),
 o 3 none (.e (.st s11 s39 35))])
 (.seq (.rgd 0 [o 0 d41 (.q (.mv s0)),
 o 1 d42 (.q (.nck s41)),
 o 2 d43 (.q (.fadr s42 1)),
 o 3 d44 (.q (.ld1 s43)),
 o 4 d45 (.q (.fadr s11 0)),
 o 5 d46 (.q (.ldn s45 33)),
 o 6 d47 (.q (.lkp s44 s46 (.cells [.u8, .u8, .u8, .u8, .u8, .u8, .u8, .u8, .u8, .u8, .u8, .u8, .u8, .u8, .u8, .u8, .u8, .u8, .u8, .u8, .u8, .u8, .u8, .u8, .u8, .u8, .u8, .u8, .u8, .u8, .u8, .u8, .u32]) (.agg (zz (.int .u8 (.ofNat 0)) 32)) true)),
 o 7 d40 (.q (.mv s47)),
 o 8 d48 (.q (.ext s40 0)),
 o 9 d49 (.q (.ext s40 1)),
 ⟨10, d12, (.e (.alo (zz (.int .u8 (.ofNat 0)) 32))), none, [(p44, .ld1 s43, none), (p46, .ldn s45 33, none), (p47, .lkp s44 s46 (.cells [.u8, .u8, .u8, .u8, .u8, .u8, .u8, .u8, .u8, .u8, .u8, .u8, .u8, .u8, .u8, .u8, .u8, .u8, .u8, .u8, .u8, .u8, .u8, .u8, .u8, .u8, .u8, .u8, .u8, .u8, .u8, .u8, .u32]) (.agg (zz (.int .u8 (.ofNat 0)) 32)) true, none)]⟩,
 o 11 none (.e (.st s12 s48 32)),
 o 12 d13 (.q (.mv s49))])
 (.seq (.reg [o 0 d50 (.q (.mv s13))])
 (.cnd s50 (.seq (.reg [o 0 d51 (.q (.ld1 (.g p5))),
 o 1 d6 (.q (.mv s51))])
 .ret) .skip)))))
 (.reg [o 0 d52 (.q (.bin .add s36 (.v (.int .i64 (.ofNat 1))))),
 o 1 d36 (.q (.mv s52))])))))))
 (.seq (.seq (.reg [o 0 d53 (.q (.fadr s4 2)),
 o 1 d54 (.q (.ld1 s53)),
 o 2 d55 (.q (.lenv s54)),
 o 3 d56 (.q (.mv (.v (.int .i64 (.ofNat 0)))))])
 (.blk 2 (.loop (.seq (.reg [o 0 d57 (.q (.bin .lss s56 s55))])
 (.seq (.cnd s57 .skip (.exit 2))
 (.seq (.blk 3 (.seq (.reg [o 0 d58 (.q (.mv s56)),
 o 1 d14 (.q (.mv s58))])
 (.seq (.reg [o 0 d60 (.q (.mv s0)),
 o 1 d61 (.q (.ldn s7 32)),
 o 2 d62 (.q (.mv s14)),
 o 3 d63 (.call p48 [s60, s61, s62]),
 o 4 d59 (.q (.mv s63)),
 o 5 d64 (.q (.ext s59 0)),
 o 6 d65 (.q (.ext s59 1)),
 o 7 d15 (.e (.alo (zz (.int .u8 (.ofNat 0)) 32))),
 o 8 none (.e (.st s15 s64 32)),
 o 9 d16 (.q (.mv s65))])
 (.seq (.reg [o 0 d66 (.q (.mv s16))])
 (.cnd s66 (.seq (.reg [o 0 d67 (.q (.ld1 (.g p6))),
 o 1 d6 (.q (.mv s67))])
 .ret) .skip)))))
 (.reg [o 0 d68 (.q (.bin .add s56 (.v (.int .i64 (.ofNat 1))))),
 o 1 d56 (.q (.mv s68))])))))))
 (.seq (.seq (.reg [o 0 d69 (.q (.mv s0)),
 o 1 d70 (.q (.nck s69)),
 o 2 d71 (.q (.fadr s70 0)),
 o 3 d72 (.q (.ld1 s71)),
 o 4 d73 (.q (.eqp .map false s72 (.v .nilm)))])
 (.cnd s73 (.reg [o 0 d74 (.q (.mv s0)),
 o 1 d75 (.q (.mv s0)),
 o 2 d76 (.e (.mkm (.cells (kk .u8 32)))),
 o 3 d77 (.e (.mkm (.cells [.u8, .u8, .u8, .u8, .u8, .u8, .u8, .u8, .u8, .u8, .u8, .u8, .u8, .u8, .u8, .u8, .u8, .u8, .u8, .u8, .u8, .u8, .u8, .u8, .u8, .u8, .u8, .u8, .u8, .u8, .u8, .u8, .u32]))),
 o 4 d78 (.q (.nck s74)),
 o 5 d79 (.q (.fadr s78 0)),
 o 6 none (.e (.st s79 s76 1)),
 o 7 d80 (.q (.nck s75)),
 o 8 d81 (.q (.fadr s80 1)),
 o 9 none (.e (.st s81 s77 1))]) .skip))
 (.seq (.rgd 1 [o 0 d82 (.q (.ldn s4 4)),
 o 2 d84 (.q (.mv s2)),
 o 3 d85 (.q (.ldn s4 4)),
 o 5 d87 (.q (.mv s0)),
 o 6 d88 (.q (.nck s87)),
 o 7 d89 (.q (.fadr s88 2)),
 o 8 d90 (.q (.ld1 s89)),
 ⟨1, d83, (.call p36 [s82]), none, [(p85, .ldn s4 4, none), (p90, .ld1 s89, none)]⟩,
 ⟨4, d86, (.call p49 [s85]), none, [(p90, .ld1 s89, none)]⟩,
 o 9 d91 (.q (.bld [(.int .u32 (.ofNat 0)), .nils, .nils, (.int .u32 (.ofNat 0)), (.int .u64 (.ofNat 0)), (.int .i64 (.ofNat 0)), (.int .i64 (.ofNat 0))] [(0, 4, s83), (4, 1, s84), (5, 1, s86), (6, 1, s90)])),
 ⟨10, d17, (.l (.alo [(.int .u32 (.ofNat 0)), .nils, .nils, (.int .u32 (.ofNat 0)), (.int .u64 (.ofNat 0)), (.int .i64 (.ofNat 0)), (.int .i64 (.ofNat 0))]) 0), none, [(p82, .ldn s4 4, none), (p85, .ldn s4 4, none), (p90, .ld1 s89, none)]⟩,
 o 11 none (.e (.st s17 s91 7))])
 (.seq (.rgd 0 [o 0 d92 (.q (.mv s0)),
 o 1 d93 (.q (.nck s92)),
 o 2 d94 (.q (.fadr s93 0)),
 o 3 d95 (.q (.ld1 s94)),
 o 4 d96 (.q (.ldn s7 32)),
 o 5 d97 (.q (.ldn s17 7)),
 o 6 none (.e (.mup s95 s96 s97 (.cells (kk .u8 32))))])
 (.seq (.reg [o 0 d98 (.q (.mv s0)),
 o 1 d99 (.q (.nck s98)),
 o 2 d100 (.q (.fadr s99 2)),
 o 3 d101 (.q (.ld1 s100)),
 o 4 d102 (.q (.bin .add s101 (.v (.int .i64 (.ofNat 1))))),
 o 5 d103 (.q (.nck s98)),
 o 6 d104 (.q (.fadr s103 2)),
 o 7 none (.e (.st s104 s102 1))])
 (.seq (.seq (.reg [o 0 d105 (.q (.fadr s4 1)),
 o 1 d106 (.q (.ld1 s105)),
 o 2 d107 (.q (.lenv s106)),
 o 3 d108 (.q (.mv (.v (.int .i64 (.ofNat 0)))))])
 (.blk 4 (.loop (.seq (.reg [o 0 d109 (.q (.bin .lss s108 s107))])
 (.seq (.cnd s109 .skip (.exit 4))
 (.seq (.blk 5 (.seq (.reg [o 0 d110 (.q (.iadr s106 s108 35)),
 o 1 d111 (.q (.ldn s110 35)),
 o 2 d19 (.e (.alo (lapp (zz (.int .u8 (.ofNat 0)) 32) [(.int .u32 (.ofNat 0)), .nils, (.int .u32 (.ofNat 0))]))),
 o 3 none (.e (.st s19 s111 35))])
 (.rgd 0 [o 0 d112 (.q (.mv s0)),
 o 1 d113 (.q (.nck s112)),
 o 2 d114 (.q (.fadr s113 1)),
 o 3 d115 (.q (.ld1 s114)),
 o 4 d116 (.q (.fadr s19 0)),
 o 5 d117 (.q (.ldn s116 33)),
 o 6 d118 (.q (.ldn s7 32)),
 o 7 none (.e (.mup s115 s117 s118 (.cells [.u8, .u8, .u8, .u8, .u8, .u8, .u8, .u8, .u8, .u8, .u8, .u8, .u8, .u8, .u8, .u8, .u8, .u8, .u8, .u8, .u8, .u8, .u8, .u8, .u8, .u8, .u8, .u8, .u8, .u8, .u8, .u8, .u32])))])))
 (.reg [o 0 d119 (.q (.bin .add s108 (.v (.int .i64 (.ofNat 1))))),
 o 1 d108 (.q (.mv s119))])))))))
 (.seq (.rgd 0 [o 0 d120 (.q (.mv s0)),
 o 1 d121 (.q (.mv s0)),
 o 2 d122 (.q (.nck s121)),
 o 3 d123 (.q (.fadr s122 3)),
 o 4 d124 (.q (.ldn s123 3)),
 o 5 d125 (.q (.ldn s17 7)),
 o 6 d126 (.call p50 [s124, s125, (.v (.int .i64 (.ofNat 1)))]),
 o 7 d127 (.q (.nck s120)),
 o 8 d128 (.q (.fadr s127 3)),
 o 9 none (.e (.st s128 s126 3))])
 (.seq (.reg [o 0 d6 (.q (.mv (.v .nili)))])
 .ret))))))))))))
 [.t p6]

noncomputable def f27 : FnE := .code 6
 (.seq (.reg [o 0 d1 (.e (.box s0 4)),
 o 1 d2 (.q (.mv (.v (.int .i64 (.ofNat 0)))))])
 (.seq (.reg [o 0 d3 (.q (.ldn s1 4)),
 o 1 d4 (.call p38 [s3]),
 o 2 d5 (.q (.lenv s4)),
 o 3 d2 (.q (.mv s5))])
 .ret))
 [.t p2]

noncomputable def f28 : FnE := .code 10
 (.seq (.reg [o 0 d3 (.e (.box s1 32)),
 o 1 d4 (.e (.alo [(.int .i64 (.ofNat 0)), (.int .i64 (.ofNat 0)), (.int .u64 (.ofNat 0))]))])
 (.seq (.reg [o 0 d5 (.q (.mv s0)),
 o 1 d6 (.q (.mv s0)),
 o 2 d7 (.q (.ldn s3 32)),
 o 3 d8 (.call p47 [s6, s7]),
 o 4 d9 (.call p51 [s5, s8]),
 o 5 none (.e (.st s4 s9 3))])
 .ret))
 [.cn p4 3]

noncomputable def f29 : FnE := .code 10
 (.seq (.reg [o 0 d3 (.e (.box s1 32)),
 o 1 d4 (.e (.alo [(.int .i64 (.ofNat 0)), (.int .i64 (.ofNat 0)), (.int .u64 (.ofNat 0))]))])
 (.seq (.reg [o 0 d5 (.q (.mv s0)),
 o 1 d6 (.q (.mv s0)),
 o 2 d7 (.q (.ldn s3 32)),
 o 3 d8 (.call p52 [s6, s7]),
 o 4 d9 (.call p51 [s5, s8]),
 o 5 none (.e (.st s4 s9 3))])
 .ret))
 [.cn p4 3]

noncomputable def f30 : FnE := .code 28
 (.seq (.reg [o 0 d3 (.e (.box s1 32)),
 o 1 d4 (.q (.mv (.v .nili)))])
 (.seq (.seq (.rgd 0 [o 0 d8 (.q (.mv s0)),
 o 1 d9 (.q (.nck s8)),
 o 2 d10 (.q (.fadr s9 0)),
 o 3 d11 (.q (.ld1 s10)),
 o 4 d12 (.q (.ldn s3 32)),
 o 5 d13 (.q (.lkp s11 s12 (.cells (kk .u8 32)) (.agg [(.int .u32 (.ofNat 0)), .nils, .nils, (.int .u32 (.ofNat 0)), (.int .u64 (.ofNat 0)), (.int .i64 (.ofNat 0)), (.int .i64 (.ofNat 0))]) true)),
 o 6 d7 (.q (.mv s13)),
 o 7 d14 (.q (.ext s7 0)),
 o 8 d15 (.q (.ext s7 1)),
 ⟨9, d5, (.e (.alo [(.int .u32 (.ofNat 0)), .nils, .nils, (.int .u32 (.ofNat 0)), (.int .u64 (.ofNat 0)), (.int .i64 (.ofNat 0)), (.int .i64 (.ofNat 0))])), none, [(p11, .ld1 s10, none), (p12, .ldn s3 32, none), (p13, .lkp s11 s12 (.cells (kk .u8 32)) (.agg [(.int .u32 (.ofNat 0)), .nils, .nils, (.int .u32 (.ofNat 0)), (.int .u64 (.ofNat 0)), (.int .i64 (.ofNat 0)), (.int .i64 (.ofNat 0))]) true, none)]⟩,
 o 10 none (.e (.st s5 s14 7)),
 o 11 d6 (.q (.mv s15))])
 (.seq (.reg [o 0 d16 (.q (.mv s6)),
 o 1 d17 (.q (.not s16))])
 (.cnd s17 (.seq (.reg [o 0 d18 (.q (.ld1 (.g p3))),
 o 1 d4 (.q (.mv s18))])
 .ret) .skip)))
 (.seq (.seq (.reg [o 0 d19 (.q (.mv s0)),
 o 1 d20 (.q (.ldn s3 32)),
 o 2 d21 (.call p53 [s19, s20]),
 o 3 d22 (.q (.lenv s21)),
 o 4 d23 (.q (.bin .gtr s22 (.v (.int .i64 (.ofNat 0)))))])
 (.cnd s23 (.seq (.reg [o 0 d24 (.q (.ld1 (.g p6))),
 o 1 d4 (.q (.mv s24))])
 .ret) .skip))
 (.seq (.reg [o 0 d25 (.q (.mv s0)),
 o 1 d26 (.q (.ldn s3 32)),
 o 2 d27 (.call p54 [s25, s26])])
 (.seq (.reg [o 0 d4 (.q (.mv (.v .nili)))])
 .ret)))))
 [.t p4]

noncomputable def f34 : FnE := .code 6
 (.seq (.reg [o 0 d1 (.e (.box s0 4)),
 o 1 d2 (.e (.alo (zz (.int .u8 (.ofNat 0)) 32)))])
 (.seq (.reg [o 0 d3 (.q (.ldn s1 4)),
 o 1 d4 (.call p58 [s3]),
 o 2 d5 (.call p57 [s4]),
 o 3 none (.e (.st s2 s5 32))])
 .ret))
 [.cn p2 32]

noncomputable def f36 : FnE := .code 32
 (.seq (.reg [o 0 d1 (.e (.box s0 4)),
 o 1 d2 (.e (.alo [(.int .u32 (.ofNat 0)), .nils, .nils, (.int .u32 (.ofNat 0))]))])
 (.seq (.rgd 0 [o 0 d4 (.q (.fadr s1 1)),
 o 1 d5 (.q (.ld1 s4)),
 o 3 d7 (.q (.fadr s1 2)),
 o 4 d8 (.q (.ld1 s7)),
 ⟨2, d6, (.call p59 [s5]), none, [(p8, .ld1 s7, none)]⟩,
 o 5 d9 (.call p60 [s8]),
 o 6 d10 (.q (.fadr s1 1)),
 o 7 none (.e (.st s10 s6 1)),
 o 8 d11 (.q (.fadr s1 2)),
 o 9 none (.e (.st s11 s9 1))])
 (.seq (.seq (.reg [o 0 d12 (.q (.fadr s1 1)),
 o 1 d13 (.q (.ld1 s12)),
 o 2 d14 (.q (.lenv s13)),
 o 3 d15 (.q (.mv (.v (.int .i64 (.ofNat 0)))))])
 (.blk 0 (.loop (.seq (.reg [o 0 d16 (.q (.bin .lss s15 s14))])
 (.seq (.cnd s16 .skip (.exit 0))
 (.seq (.blk 1 (.seq (.reg [o 0 d17 (.q (.mv s15)),
 o 1 d3 (.q (.mv s17))])
 (.rgd 0 [o 0 d18 (.q (.fadr s1 1)),
 o 1 d19 (.q (.ld1 s18)),
 o 2 d20 (.q (.mv s3)),
 o 3 d21 (.q (.fadr s1 1)),
 o 4 d22 (.q (.ld1 s21)),
 o 5 d23 (.q (.mv s3)),
 o 6 d24 (.q (.iadr s22 s23 35)),
 o 7 d25 (.q (.fadr s24 33)),
 o 8 d26 (.q (.ld1 s25)),
 ⟨9, d27, (.call p61 [s26]), none, [(p19, .ld1 s18, none)]⟩,
 o 10 d28 (.q (.iadr s19 s20 35)),
 o 11 d29 (.q (.fadr s28 33)),
 o 12 none (.e (.st s29 s27 1))])))
 (.reg [o 0 d30 (.q (.bin .add s15 (.v (.int .i64 (.ofNat 1))))),
 o 1 d15 (.q (.mv s30))])))))))
 (.seq (.reg [o 0 d31 (.q (.ldn s1 4)),
 o 1 none (.e (.st s2 s31 4))])
 .ret))))
 [.cn p2 4]

noncomputable def f37 : FnE := .code 8
 (.seq (.reg [o 0 d2 (.e (.alo (zz (.int .u8 (.ofNat 0)) 32)))])
 (.seq (.reg [o 0 d4 (.q (.mv s0)),
 o 1 d5 (.call p62 [s4]),
 o 2 d3 (.e (.alo (zz (.int .u8 (.ofNat 0)) 32))),
 o 3 none (.e (.st s3 s5 32))])
 (.seq (.reg [o 0 d6 (.q (.slca s3 none none 1 32)),
 o 1 d7 (.call p62 [s6]),
 o 2 none (.e (.st s2 s7 32))])
 .ret)))
 [.cn p2 32]

noncomputable def f38 : FnE := .code 81
 (.seq (.reg [o 0 d1 (.e (.box s0 4)),
 o 1 d2 (.q (.mv (.v .nils)))])
 (.seq (.rgd 0 [o 0 d7 (.q (.fadr s1 0)),
 o 1 d8 (.q (.ld1 s7)),
 o 3 d10 (.q (.fadr s1 1)),
 o 4 d11 (.q (.ld1 s10)),
 o 5 d12 (.q (.lenv s11)),
 o 6 d13 (.q (.cvi .u64 s12)),
 ⟨2, d9, (.call p64 [(.v .nils), s8]), none, [(p11, .ld1 s10, none)]⟩,
 o 7 d14 (.call p63 [s9, s13]),
 o 8 d3 (.q (.mv s14))])
 (.seq (.seq (.reg [o 0 d4 (.q (.mv (.v (.int .i64 (.ofNat 0)))))])
 (.blk 0 (.loop (.seq (.seq (.reg [o 0 d15 (.q (.mv s4)),
 o 1 d16 (.q (.fadr s1 1)),
 o 2 d17 (.q (.ld1 s16)),
 o 3 d18 (.q (.lenv s17)),
 o 4 d19 (.q (.bin .lss s15 s18))])
 (.cnd s19 .skip (.exit 0)))
 (.seq (.blk 1 (.seq (.reg [o 0 d22 (.q (.fadr s1 1)),
 o 1 d23 (.q (.ld1 s22)),
 o 2 d24 (.q (.mv s4)),
 o 3 d25 (.q (.iadr s23 s24 35)),
 o 4 d26 (.q (.ldn s25 35)),
 o 5 d5 (.e (.alo (lapp (zz (.int .u8 (.ofNat 0)) 32) [(.int .u32 (.ofNat 0)), .nils, (.int .u32 (.ofNat 0))]))),
 o 6 none (.e (.st s5 s26 35))])
 (.seq (.reg [o 0 d27 (.q (.mv s3)),
 o 1 d28 (.q (.fadr s5 0)),
 o 2 d29 (.q (.fadr s28 0)),
 o 3 d30 (.q (.slca s29 none none 1 32)),
 o 4 d31 (.e (.app s27 s30 1 1 false)),
 o 5 d3 (.q (.mv s31))])
 (.seq (.rgd 0 [o 0 d32 (.q (.mv s3)),
 o 1 d33 (.q (.fadr s5 0)),
 o 2 d34 (.q (.fadr s33 32)),
 o 3 d35 (.q (.ld1 s34)),
 o 5 d37 (.q (.fadr s5 33)),
 o 6 d38 (.q (.ld1 s37)),
 o 7 d39 (.q (.lenv s38)),
 o 8 d40 (.q (.cvi .u64 s39)),
 ⟨4, d36, (.call p64 [s32, s35]), none, [(p38, .ld1 s37, none)]⟩,
 o 9 d41 (.call p63 [s36, s40]),
 o 10 d3 (.q (.mv s41))])
 (.rgd 0 [o 0 d42 (.q (.mv s3)),
 o 1 d43 (.q (.fadr s5 33)),
 o 2 d44 (.q (.ld1 s43)),
 o 4 d46 (.q (.fadr s5 34)),
 o 5 d47 (.q (.ld1 s46)),
 ⟨3, d45, (.e (.app s42 s44 1 1 false)), none, [(p47, .ld1 s46, none)]⟩,
 o 6 d48 (.call p64 [s45, s47]),
 o 7 d3 (.q (.mv s48))])))))
 (.reg [o 0 d20 (.q (.mv s4)),
 o 1 d21 (.q (.bin .add s20 (.v (.int .i64 (.ofNat 1))))),
 o 2 d4 (.q (.mv s21))]))))))
 (.seq (.reg [o 0 d49 (.q (.mv s3)),
 o 1 d50 (.q (.fadr s1 2)),
 o 2 d51 (.q (.ld1 s50)),
 o 3 d52 (.q (.lenv s51)),
 o 4 d53 (.q (.cvi .u64 s52)),
 o 5 d54 (.call p63 [s49, s53]),
 o 6 d3 (.q (.mv s54))])
 (.seq (.seq (.reg [o 0 d6 (.q (.mv (.v (.int .i64 (.ofNat 0)))))])
 (.blk 2 (.loop (.seq (.seq (.reg [o 0 d55 (.q (.mv s6)),
 o 1 d56 (.q (.fadr s1 2)),
 o 2 d57 (.q (.ld1 s56)),
 o 3 d58 (.q (.lenv s57)),
 o 4 d59 (.q (.bin .lss s55 s58))])
 (.cnd s59 .skip (.exit 2)))
 (.seq (.blk 3 (.rgd 0 [o 0 d62 (.q (.mv s3)),
 o 1 d63 (.q (.fadr s1 2)),
 o 2 d64 (.q (.ld1 s63)),
 o 3 d65 (.q (.mv s6)),
 o 4 d66 (.q (.iadr s64 s65 33)),
 o 5 d67 (.q (.fadr s66 0)),
 o 6 d68 (.q (.ld1 s67)),
 o 8 d70 (.q (.fadr s1 2)),
 o 9 d71 (.q (.ld1 s70)),
 o 10 d72 (.q (.mv s6)),
 o 11 d73 (.q (.iadr s71 s72 33)),
 o 12 d74 (.q (.fadr s73 1)),
 o 13 d75 (.q (.slca s74 none none 1 32)),
 ⟨7, d69, (.call p65 [s62, s68]), none, [(p71, .ld1 s70, none), (p75, .slca s74 none none 1 32, none)]⟩,
 o 14 d76 (.e (.app s69 s75 1 1 false)),
 o 15 d3 (.q (.mv s76))]))
 (.reg [o 0 d60 (.q (.mv s6)),
 o 1 d61 (.q (.bin .add s60 (.v (.int .i64 (.ofNat 1))))),
 o 2 d6 (.q (.mv s61))]))))))
 (.seq (.reg [o 0 d77 (.q (.mv s3)),
 o 1 d78 (.q (.fadr s1 3)),
 o 2 d79 (.q (.ld1 s78)),
 o 3 d80 (.call p64 [s77, s79]),
 o 4 d2 (.q (.mv s80))])
 .ret))))))
 [.t p2]

noncomputable def f39 : FnE := .code 9
 (.seq (.reg [o 0 d3 (.e (.box s1 5)),
 o 1 d4 (.q (.mv (.v (.bool false))))])
 (.seq (.rgd 0 [o 0 d5 (.q (.mv s0)),
 o 2 d7 (.q (.ldn s3 5)),
 ⟨1, d6, (.call p67 [s5]), none, [(p7, .ldn s3 5, none)]⟩,
 o 3 d8 (.call p66 [s6, s7]),
 o 4 d4 (.q (.mv s8))])
 .ret))
 [.t p4]

noncomputable def f40 : FnE := .code 5
 (.seq (.reg [o 0 d2 (.e (.alo [(.int .i64 (.ofNat 0)), (.bool false), (.int .i64 (.ofNat 0)), (.bool false), (.int .i64 (.ofNat 0))]))])
 (.seq (.reg [o 0 d3 (.q (.mv s0)),
 o 1 d4 (.q (.bld [(.int .i64 (.ofNat 0)), (.bool false), (.int .i64 (.ofNat 0)), (.bool false), (.int .i64 (.ofNat 0))] [(0, 1, s3)])),
 o 2 none (.e (.st s2 s4 5))])
 .ret))
 [.cn p2 5]

noncomputable def f44 : FnE := .code 60
 (.seq (.reg [o 0 d6 (.q (.mv s0)),
 o 1 d7 (.call p72 [s6]),
 o 2 d4 (.e (.alo (zz (.int .u32 (.ofNat 0)) 8))),
 o 3 none (.e (.st s4 s7 8))])
 (.seq (.reg [o 0 d8 (.q (.mv s0)),
 o 1 d9 (.q (.nck s8)),
 o 2 d10 (.q (.fadr s9 9)),
 o 3 d11 (.q (.ld1 s10)),
 o 4 d12 (.q (.mv s1)),
 o 5 d13 (.q (.lenv s12)),
 o 6 d14 (.q (.bin .add s11 s13)),
 o 7 d15 (.q (.nck s8)),
 o 8 d16 (.q (.fadr s15 9)),
 o 9 none (.e (.st s16 s14 1))])
 (.seq (.reg [o 0 d17 (.q (.mv s0)),
 o 1 d18 (.q (.mv s0)),
 o 2 d19 (.q (.nck s18)),
 o 3 d20 (.q (.fadr s19 8)),
 o 4 d21 (.q (.ld1 s20)),
 o 5 d22 (.q (.mv s1)),
 o 6 d23 (.e (.app s21 s22 1 1 false)),
 o 7 d24 (.q (.nck s17)),
 o 8 d25 (.q (.fadr s24 8)),
 o 9 none (.e (.st s25 s23 1))])
 (.seq (.reg [o 0 d5 (.q (.mv (.v (.int .i64 (.ofNat 0)))))])
 (.seq (.blk 0 (.loop (.seq (.seq (.reg [o 0 d26 (.q (.mv s5)),
 o 1 d27 (.q (.bin .add s26 (.v (.int .i64 (.ofNat 64))))),
 o 2 d28 (.q (.mv s0)),
 o 3 d29 (.q (.nck s28)),
 o 4 d30 (.q (.fadr s29 8)),
 o 5 d31 (.q (.ld1 s30)),
 o 6 d32 (.q (.lenv s31)),
 o 7 d33 (.q (.bin .leq s27 s32))])
 (.cnd s33 .skip (.exit 0)))
 (.seq (.blk 1 (.rgd 0 [o 0 d36 (.q (.ldn s4 8)),
 o 1 d37 (.q (.mv s0)),
 o 2 d38 (.q (.nck s37)),
 o 3 d39 (.q (.fadr s38 8)),
 o 4 d40 (.q (.ld1 s39)),
 o 5 d41 (.q (.mv s5)),
 o 6 d42 (.q (.mv s5)),
 o 7 d43 (.q (.bin .add s42 (.v (.int .i64 (.ofNat 64))))),
 o 8 d44 (.q (.slc s40 (some s41) (some s43) 1)),
 o 9 d45 (.call p73 [s36, s44]),
 o 10 none (.e (.st s4 s45 8))]))
 (.reg [o 0 d34 (.q (.mv s5)),
 o 1 d35 (.q (.bin .add s34 (.v (.int .i64 (.ofNat 64))))),
 o 2 d5 (.q (.mv s35))])))))
 (.rgd 0 [o 0 d46 (.q (.mv s0)),
 o 1 d47 (.q (.mv s0)),
 o 2 d48 (.q (.ldn s4 8)),
 o 3 d49 (.q (.mv s0)),
 o 4 d50 (.q (.nck s49)),
 o 5 d51 (.q (.fadr s50 8)),
 o 6 d52 (.q (.ld1 s51)),
 o 7 d53 (.q (.mv s5)),
 o 8 d54 (.q (.slc s52 (some s53) none 1)),
 ⟨9, d55, (.call p61 [s54]), none, [(p48, .ldn s4 8, none)]⟩,
 o 10 d56 (.q (.nck s46)),
 o 11 d57 (.q (.fadr s56 0)),
 o 12 none (.e (.st s57 s48 8)),
 o 13 d58 (.q (.nck s47)),
 o 14 d59 (.q (.fadr s58 8)),
 o 15 none (.e (.st s59 s55 1))]))))))
 []

noncomputable def f46 : FnE := .code 79
 (.seq (.reg [o 0 d2 (.e (.alo (zz (.int .u8 (.ofNat 0)) 32)))])
 (.seq (.reg [o 0 d11 (.q (.mv s0)),
 o 1 d12 (.q (.nck s11)),
 o 2 d13 (.q (.fadr s12 8)),
 o 3 d14 (.q (.ld1 s13)),
 o 4 d15 (.call p61 [s14]),
 o 5 d16 (.e (.bsl [(.int .u8 (.ofNat 0))] [(0, 1, (.v (.int .u8 (.ofNat 128))))] 1 1)),
 o 6 d17 (.e (.app s15 s16 1 1 false)),
 o 7 d3 (.q (.mv s17))])
 (.seq (.blk 0 (.loop (.seq (.seq (.reg [o 0 d18 (.q (.mv s3)),
 o 1 d19 (.q (.lenv s18)),
 o 2 d20 (.q (.bin .rem s19 (.v (.int .i64 (.ofNat 64))))),
 o 3 d21 (.q (.bin .neq s20 (.v (.int .i64 (.ofNat 56)))))])
 (.cnd s21 .skip (.exit 0)))
 (.blk 1 (.reg [o 0 d22 (.q (.mv s3)),
 o 1 d23 (.e (.bsl [(.int .u8 (.ofNat 0))] [(0, 1, (.v (.int .u8 (.ofNat 0))))] 1 1)),
 o 2 d24 (.e (.app s22 s23 1 1 false)),
 o 3 d3 (.q (.mv s24))])))))
 (.seq (.seq (.reg [o 0 d4 (.q (.mv (.v (.int .i64 (.ofNat 7)))))])
 (.blk 2 (.loop (.seq (.seq (.reg [o 0 d25 (.q (.mv s4)),
 o 1 d26 (.q (.bin .geq s25 (.v (.int .i64 (.ofNat 0)))))])
 (.cnd s26 .skip (.exit 2)))
 (.seq (.blk 3 (.reg [o 0 d29 (.q (.mv s3)),
 o 1 d30 (.q (.mv s0)),
 o 2 d31 (.q (.nck s30)),
 o 3 d32 (.q (.fadr s31 9)),
 o 4 d33 (.q (.ld1 s32)),
 o 5 d34 (.q (.cvi .u64 s33)),
 o 6 d35 (.q (.shf true s34 (.v (.int .u64 (.ofNat 3))))),
 o 7 d36 (.q (.mv s4)),
 o 8 d37 (.q (.bin .mul (.v (.int .i64 (.ofNat 8))) s36)),
 o 9 d38 (.q (.shf false s35 s37)),
 o 10 d39 (.q (.cvi .u8 s38)),
 o 11 d40 (.e (.bsl [(.int .u8 (.ofNat 0))] [(0, 1, s39)] 1 1)),
 o 12 d41 (.e (.app s29 s40 1 1 false)),
 o 13 d3 (.q (.mv s41))]))
 (.reg [o 0 d27 (.q (.mv s4)),
 o 1 d28 (.q (.bin .sub s27 (.v (.int .i64 (.ofNat 1))))),
 o 2 d4 (.q (.mv s28))]))))))
 (.seq (.reg [o 0 d42 (.q (.mv s0)),
 o 1 d43 (.call p72 [s42]),
 o 2 d5 (.e (.alo (zz (.int .u32 (.ofNat 0)) 8))),
 o 3 none (.e (.st s5 s43 8))])
 (.seq (.seq (.reg [o 0 d6 (.q (.mv (.v (.int .i64 (.ofNat 0)))))])
 (.blk 4 (.loop (.seq (.seq (.reg [o 0 d44 (.q (.mv s6)),
 o 1 d45 (.q (.mv s3)),
 o 2 d46 (.q (.lenv s45)),
 o 3 d47 (.q (.bin .lss s44 s46))])
 (.cnd s47 .skip (.exit 4)))
 (.seq (.blk 5 (.rgd 0 [o 0 d50 (.q (.ldn s5 8)),
 o 1 d51 (.q (.mv s3)),
 o 2 d52 (.q (.mv s6)),
 o 3 d53 (.q (.mv s6)),
 o 4 d54 (.q (.bin .add s53 (.v (.int .i64 (.ofNat 64))))),
 o 5 d55 (.q (.slc s51 (some s52) (some s54) 1)),
 o 6 d56 (.call p73 [s50, s55]),
 o 7 none (.e (.st s5 s56 8))]))
 (.reg [o 0 d48 (.q (.mv s6)),
 o 1 d49 (.q (.bin .add s48 (.v (.int .i64 (.ofNat 64))))),
 o 2 d6 (.q (.mv s49))]))))))
 (.seq (.reg [o 0 d7 (.e (.alo (zz (.int .u8 (.ofNat 0)) 32)))])
 (.seq (.seq (.reg [o 0 d57 (.q (.ldn s5 8)),
 o 1 d58 (.q (.mv (.v (.int .i64 (.ofNat 0)))))])
 (.blk 6 (.loop (.seq (.reg [o 0 d59 (.q (.bin .lss s58 (.v (.int .i64 (.ofNat 8)))))])
 (.seq (.cnd s59 .skip (.exit 6))
 (.seq (.blk 7 (.seq (.reg [o 0 d60 (.q (.mv s58)),
 o 1 d61 (.q (.idxa s57 s58 1 8 false)),
 o 2 d8 (.q (.mv s60)),
 o 3 d9 (.q (.mv s61))])
 (.seq (.reg [o 0 d62 (.q (.mv (.v (.int .i64 (.ofNat 0)))))])
 (.blk 8 (.loop (.seq (.reg [o 0 d63 (.q (.bin .lss s62 (.v (.int .i64 (.ofNat 4)))))])
 (.seq (.cnd s63 .skip (.exit 8))
 (.seq (.blk 9 (.seq (.reg [o 0 d64 (.q (.mv s62)),
 o 1 d10 (.q (.mv s64))])
 (.reg [o 0 d65 (.q (.mv s8)),
 o 1 d66 (.q (.bin .mul (.v (.int .i64 (.ofNat 4))) s65)),
 o 2 d67 (.q (.mv s10)),
 o 3 d68 (.q (.bin .add s66 s67)),
 o 4 d69 (.q (.mv s9)),
 o 5 d70 (.q (.mv s10)),
 o 6 d71 (.q (.bin .mul (.v (.int .i64 (.ofNat 8))) s70)),
 o 7 d72 (.q (.bin .sub (.v (.int .i64 (.ofNat 24))) s71)),
 o 8 d73 (.q (.shf false s69 s72)),
 o 9 d74 (.q (.cvi .u8 s73)),
 o 10 d75 (.q (.iada s7 s68 1 32)),
 o 11 none (.e (.st s75 s74 1))])))
 (.reg [o 0 d76 (.q (.bin .add s62 (.v (.int .i64 (.ofNat 1))))),
 o 1 d62 (.q (.mv s76))])))))))))
 (.reg [o 0 d77 (.q (.bin .add s58 (.v (.int .i64 (.ofNat 1))))),
 o 1 d58 (.q (.mv s77))])))))))
 (.seq (.reg [o 0 d78 (.q (.ldn s7 32)),
 o 1 none (.e (.st s2 s78 32))])
 .ret)))))))))
 [.cn p2 32]

noncomputable def f47 : FnE := .code 10
 (.seq (.reg [o 0 d3 (.e (.box s1 32)),
 o 1 d4 (.q (.mv (.v .nils)))])
 (.seq (.reg [o 0 d5 (.q (.mv s0)),
 o 1 d6 (.q (.ldn s3 32)),
 o 2 d7 (.q (.mv s0)),
 o 3 d8 (.q (.mkf 53 [s7] [])),
 o 4 d9 (.call p76 [s5, s6, s8]),
 o 5 d4 (.q (.mv s9))])
 .ret))
 [.t p4]

noncomputable def f48 : FnE := .code 24
 (.seq (.reg [o 0 d4 (.e (.box s1 32)),
 o 1 d6 (.e (.alo (zz (.int .u8 (.ofNat 0)) 32))),
 o 2 d7 (.q (.mv (.v (.bool false))))])
 (.seq (.rgd 0 [o 0 d11 (.q (.mv s0)),
 o 1 d12 (.q (.nck s11)),
 o 2 d13 (.q (.fadr s12 1)),
 o 3 d14 (.q (.ld1 s13)),
 o 4 d15 (.q (.ldn s4 32)),
 o 5 d16 (.q (.mv s2)),
 o 6 d17 (.q (.cvi .u32 s16)),
 o 7 d18 (.q (.bld (lapp (zz (.int .u8 (.ofNat 0)) 32) [(.int .u32 (.ofNat 0))]) [(0, 32, s15), (32, 1, s17)])),
 o 8 d19 (.q (.lkp s14 s18 (.cells [.u8, .u8, .u8, .u8, .u8, .u8, .u8, .u8, .u8, .u8, .u8, .u8, .u8, .u8, .u8, .u8, .u8, .u8, .u8, .u8, .u8, .u8, .u8, .u8, .u8, .u8, .u8, .u8, .u8, .u8, .u8, .u8, .u32]) (.agg (zz (.int .u8 (.ofNat 0)) 32)) true)),
 o 9 d10 (.q (.mv s19)),
 o 10 d20 (.q (.ext s10 0)),
 o 11 d21 (.q (.ext s10 1)),
 ⟨12, d8, (.e (.alo (zz (.int .u8 (.ofNat 0)) 32))), none, [(p14, .ld1 s13, none), (p15, .ldn s4 32, none), (p19, .lkp s14 s18 (.cells [.u8, .u8, .u8, .u8, .u8, .u8, .u8, .u8, .u8, .u8, .u8, .u8, .u8, .u8, .u8, .u8, .u8, .u8, .u8, .u8, .u8, .u8, .u8, .u8, .u8, .u8, .u8, .u8, .u8, .u8, .u8, .u8, .u32]) (.agg (zz (.int .u8 (.ofNat 0)) 32)) true, none)]⟩,
 o 13 none (.e (.st s8 s20 32)),
 o 14 d9 (.q (.mv s21))])
 (.seq (.reg [o 0 d22 (.q (.ldn s8 32)),
 o 1 d23 (.q (.mv s9)),
 o 2 none (.e (.st s6 s22 32)),
 o 3 d7 (.q (.mv s23))])
 .ret)))
 [.cn p6 32, .t p7]

noncomputable def f49 : FnE := .code 6
 (.seq (.reg [o 0 d1 (.e (.box s0 4)),
 o 1 d2 (.q (.mv (.v (.int .i64 (.ofNat 0)))))])
 (.seq (.reg [o 0 d3 (.q (.ldn s1 4)),
 o 1 d4 (.call p58 [s3]),
 o 2 d5 (.q (.lenv s4)),
 o 3 d2 (.q (.mv s5))])
 .ret))
 [.t p2]

noncomputable def f50 : FnE := .code 27
 (.seq (.reg [o 0 d3 (.e (.box s0 3)),
 o 1 d4 (.e (.box s1 7)),
 o 2 d6 (.e (.alo [(.int .i64 (.ofNat 0)), (.int .i64 (.ofNat 0)), (.int .u64 (.ofNat 0))]))])
 (.seq (.reg [o 0 d7 (.q (.fadr s3 0)),
 o 1 d8 (.q (.ld1 s7)),
 o 2 d9 (.q (.mv s2)),
 o 3 d10 (.q (.bin .add s8 s9)),
 o 4 d11 (.q (.fadr s3 1)),
 o 5 d12 (.q (.ld1 s11)),
 o 6 d13 (.q (.mv s2)),
 o 7 d14 (.q (.fadr s4 5)),
 o 8 d15 (.q (.ld1 s14)),
 o 9 d16 (.q (.bin .mul s13 s15)),
 o 10 d17 (.q (.bin .add s12 s16)),
 o 11 d18 (.q (.fadr s3 2)),
 o 12 d19 (.q (.ld1 s18)),
 o 13 d20 (.q (.mv s2)),
 o 14 d21 (.q (.cvi .u64 s20)),
 o 15 d22 (.q (.fadr s4 4)),
 o 16 d23 (.q (.ld1 s22)),
 o 17 d24 (.q (.bin .mul s21 s23)),
 o 18 d25 (.q (.bin .add s19 s24)),
 o 19 d26 (.q (.bld [(.int .i64 (.ofNat 0)), (.int .i64 (.ofNat 0)), (.int .u64 (.ofNat 0))] [(0, 1, s10), (1, 1, s17), (2, 1, s25)])),
 o 20 none (.e (.st s6 s26 3))])
 .ret))
 [.cn p6 3]

noncomputable def f51 : FnE := .code 24
 (.seq (.reg [o 0 d4 (.e (.alo [(.int .i64 (.ofNat 0)), (.int .i64 (.ofNat 0)), (.int .u64 (.ofNat 0))]))])
 (.seq (.reg [o 0 d5 (.e (.alo [(.int .i64 (.ofNat 0)), (.int .i64 (.ofNat 0)), (.int .u64 (.ofNat 0))]))])
 (.seq (.seq (.reg [o 0 d8 (.q (.mv s1)),
 o 1 d9 (.q (.lenv s8)),
 o 2 d10 (.q (.mv (.v (.int .i64 (.ofNat 0)))))])
 (.blk 0 (.loop (.seq (.reg [o 0 d11 (.q (.bin .lss s10 s9))])
 (.seq (.cnd s11 .skip (.exit 0))
 (.seq (.blk 1 (.seq (.reg [o 0 d12 (.q (.iadr s8 s10 32)),
 o 1 d13 (.q (.ldn s12 32)),
 o 2 d7 (.e (.alo (zz (.int .u8 (.ofNat 0)) 32))),
 o 3 none (.e (.st s7 s13 32))])
 (.rgd 0 [o 0 d14 (.q (.ldn s5 3)),
 o 1 d15 (.q (.mv s0)),
 o 2 d16 (.q (.nck s15)),
 o 3 d17 (.q (.fadr s16 0)),
 o 4 d18 (.q (.ld1 s17)),
 o 5 d19 (.q (.ldn s7 32)),
 o 6 d20 (.q (.lkp s18 s19 (.cells (kk .u8 32)) (.agg [(.int .u32 (.ofNat 0)), .nils, .nils, (.int .u32 (.ofNat 0)), (.int .u64 (.ofNat 0)), (.int .i64 (.ofNat 0)), (.int .i64 (.ofNat 0))]) false)),
 o 7 d21 (.call p50 [s14, s20, (.v (.int .i64 (.ofNat 1)))]),
 o 8 none (.e (.st s5 s21 3))])))
 (.reg [o 0 d22 (.q (.bin .add s10 (.v (.int .i64 (.ofNat 1))))),
 o 1 d10 (.q (.mv s22))])))))))
 (.seq (.reg [o 0 d23 (.q (.ldn s5 3)),
 o 1 none (.e (.st s4 s23 3))])
 .ret))))
 [.cn p4 3]

noncomputable def f52 : FnE := .code 10
 (.seq (.reg [o 0 d3 (.e (.box s1 32)),
 o 1 d4 (.q (.mv (.v .nils)))])
 (.seq (.reg [o 0 d5 (.q (.mv s0)),
 o 1 d6 (.q (.ldn s3 32)),
 o 2 d7 (.q (.mv s0)),
 o 3 d8 (.q (.mkf 77 [s7] [])),
 o 4 d9 (.call p76 [s5, s6, s8]),
 o 5 d4 (.q (.mv s9))])
 .ret))
 [.t p4]

noncomputable def f53 : FnE := .code 14
 (.seq (.reg [o 0 d3 (.e (.box s1 32)),
 o 1 d4 (.q (.mv (.v .nils)))])
 (.seq (.rgd 0 [o 0 d5 (.q (.mv s0)),
 o 1 d6 (.q (.mv s0)),
 o 2 d7 (.q (.nck s6)),
 o 3 d8 (.q (.fadr s7 0)),
 o 4 d9 (.q (.ld1 s8)),
 o 5 d10 (.q (.ldn s3 32)),
 o 6 d11 (.q (.lkp s9 s10 (.cells (kk .u8 32)) (.agg [(.int .u32 (.ofNat 0)), .nils, .nils, (.int .u32 (.ofNat 0)), (.int .u64 (.ofNat 0)), (.int .i64 (.ofNat 0)), (.int .i64 (.ofNat 0))]) false)),
 o 7 d12 (.q (.fld s11 0 4 true)),
 o 8 d13 (.call p78 [s5, s12]),
 o 9 d4 (.q (.mv s13))])
 .ret))
 [.t p4]

noncomputable def f54 : FnE := .code 42
 (.seq (.reg [o 0 d3 (.e (.box s1 32))])
 (.seq (.rgd 0 [o 0 d7 (.q (.mv s0)),
 o 1 d8 (.q (.nck s7)),
 o 2 d9 (.q (.fadr s8 0)),
 o 3 d10 (.q (.ld1 s9)),
 o 4 d11 (.q (.ldn s3 32)),
 o 5 d12 (.q (.lkp s10 s11 (.cells (kk .u8 32)) (.agg [(.int .u32 (.ofNat 0)), .nils, .nils, (.int .u32 (.ofNat 0)), (.int .u64 (.ofNat 0)), (.int .i64 (.ofNat 0)), (.int .i64 (.ofNat 0))]) false)),
 ⟨6, d4, (.e (.alo [(.int .u32 (.ofNat 0)), .nils, .nils, (.int .u32 (.ofNat 0)), (.int .u64 (.ofNat 0)), (.int .i64 (.ofNat 0)), (.int .i64 (.ofNat 0))])), none, [(p10, .ld1 s9, none), (p11, .ldn s3 32, none), (p12, .lkp s10 s11 (.cells (kk .u8 32)) (.agg [(.int .u32 (.ofNat 0)), .nils, .nils, (.int .u32 (.ofNat 0)), (.int .u64 (.ofNat 0)), (.int .i64 (.ofNat 0)), (.int .i64 (.ofNat 0))]) false, none)]⟩,
 o 7 none (.e (.st s4 s12 7))])
 (.seq (.rgd 0 [o 0 d13 (.q (.mv s0)),
 o 1 d14 (.q (.nck s13)),
 o 2 d15 (.q (.fadr s14 0)),
 o 3 d16 (.q (.ld1 s15)),
 o 4 d17 (.q (.ldn s3 32)),
 o 5 none (.e (.mdl s16 s17 (.cells (kk .u8 32))))])
 (.seq (.seq (.reg [o 0 d18 (.q (.fadr s4 0)),
 o 1 d19 (.q (.fadr s18 1)),
 o 2 d20 (.q (.ld1 s19)),
 o 3 d21 (.q (.lenv s20)),
 o 4 d22 (.q (.mv (.v (.int .i64 (.ofNat 0)))))])
 (.blk 0 (.loop (.seq (.reg [o 0 d23 (.q (.bin .lss s22 s21))])
 (.seq (.cnd s23 .skip (.exit 0))
 (.seq (.blk 1 (.seq (.reg [o 0 d24 (.q (.iadr s20 s22 35)),
 o 1 d25 (.q (.ldn s24 35)),
 o 2 d6 (.e (.alo (lapp (zz (.int .u8 (.ofNat 0)) 32) [(.int .u32 (.ofNat 0)), .nils, (.int .u32 (.ofNat 0))]))),
 o 3 none (.e (.st s6 s25 35))])
 (.rgd 0 [o 0 d26 (.q (.mv s0)),
 o 1 d27 (.q (.nck s26)),
 o 2 d28 (.q (.fadr s27 1)),
 o 3 d29 (.q (.ld1 s28)),
 o 4 d30 (.q (.fadr s6 0)),
 o 5 d31 (.q (.ldn s30 33)),
 o 6 none (.e (.mdl s29 s31 (.cells [.u8, .u8, .u8, .u8, .u8, .u8, .u8, .u8, .u8, .u8, .u8, .u8, .u8, .u8, .u8, .u8, .u8, .u8, .u8, .u8, .u8, .u8, .u8, .u8, .u8, .u8, .u8, .u8, .u8, .u8, .u8, .u8, .u32])))])))
 (.reg [o 0 d32 (.q (.bin .add s22 (.v (.int .i64 (.ofNat 1))))),
 o 1 d22 (.q (.mv s32))])))))))
 (.rgd 0 [o 0 d33 (.q (.mv s0)),
 o 1 d34 (.q (.mv s0)),
 o 2 d35 (.q (.nck s34)),
 o 3 d36 (.q (.fadr s35 3)),
 o 4 d37 (.q (.ldn s36 3)),
 o 5 d38 (.q (.ldn s4 7)),
 o 6 d39 (.call p50 [s37, s38, (.v (.int .i64 (.negSucc 0)))]),
 o 7 d40 (.q (.nck s33)),
 o 8 d41 (.q (.fadr s40 3)),
 o 9 none (.e (.st s41 s39 3))])))))
 []

noncomputable def f57 : FnE := .code 8
 (.seq (.reg [o 0 d2 (.e (.alo (zz (.int .u8 (.ofNat 0)) 32)))])
 (.seq (.reg [o 0 d4 (.q (.mv s0)),
 o 1 d5 (.call p82 [s4]),
 o 2 d3 (.e (.alo (zz (.int .u8 (.ofNat 0)) 32))),
 o 3 none (.e (.st s3 s5 32))])
 (.seq (.reg [o 0 d6 (.q (.slca s3 none none 1 32)),
 o 1 d7 (.call p82 [s6]),
 o 2 none (.e (.st s2 s7 32))])
 .ret)))
 [.cn p2 32]

noncomputable def f58 : FnE := .code 72
 (.seq (.reg [o 0 d1 (.e (.box s0 4)),
 o 1 d2 (.q (.mv (.v .nils)))])
 (.seq (.reg [o 0 d8 (.q (.fadr s1 0)),
 o 1 d9 (.q (.ld1 s8)),
 o 2 d10 (.call p74 [(.v .nils), s9]),
 o 3 d3 (.q (.mv s10))])
 (.seq (.reg [o 0 d11 (.q (.mv s3)),
 o 1 d12 (.q (.fadr s1 1)),
 o 2 d13 (.q (.ld1 s12)),
 o 3 d14 (.q (.lenv s13)),
 o 4 d15 (.q (.cvi .u64 s14)),
 o 5 d16 (.call p83 [s11, s15]),
 o 6 d3 (.q (.mv s16))])
 (.seq (.seq (.reg [o 0 d17 (.q (.fadr s1 1)),
 o 1 d18 (.q (.ld1 s17)),
 o 2 d19 (.q (.lenv s18)),
 o 3 d20 (.q (.mv (.v (.int .i64 (.ofNat 0)))))])
 (.blk 0 (.loop (.seq (.reg [o 0 d21 (.q (.bin .lss s20 s19))])
 (.seq (.cnd s21 .skip (.exit 0))
 (.seq (.blk 1 (.seq (.reg [o 0 d22 (.q (.iadr s18 s20 35)),
 o 1 d23 (.q (.ldn s22 35)),
 o 2 d5 (.e (.alo (lapp (zz (.int .u8 (.ofNat 0)) 32) [(.int .u32 (.ofNat 0)), .nils, (.int .u32 (.ofNat 0))]))),
 o 3 none (.e (.st s5 s23 35))])
 (.seq (.rgd 0 [o 0 d24 (.q (.mv s3)),
 o 1 d25 (.q (.fadr s5 0)),
 o 2 d26 (.q (.fadr s25 0)),
 o 3 d27 (.q (.slca s26 none none 1 32)),
 o 5 d29 (.q (.fadr s5 0)),
 o 6 d30 (.q (.fadr s29 32)),
 o 7 d31 (.q (.ld1 s30)),
 ⟨4, d28, (.e (.app s24 s27 1 1 false)), none, [(p31, .ld1 s30, none)]⟩,
 o 8 d32 (.call p74 [s28, s31]),
 o 9 d3 (.q (.mv s32))])
 (.seq (.rgd 0 [o 0 d33 (.q (.mv s3)),
 o 1 d34 (.q (.fadr s5 33)),
 o 2 d35 (.q (.ld1 s34)),
 o 3 d36 (.q (.lenv s35)),
 o 4 d37 (.q (.cvi .u64 s36)),
 o 6 d39 (.q (.fadr s5 33)),
 o 7 d40 (.q (.ld1 s39)),
 ⟨5, d38, (.call p83 [s33, s37]), none, [(p40, .ld1 s39, none)]⟩,
 o 8 d41 (.e (.app s38 s40 1 1 false)),
 o 9 d3 (.q (.mv s41))])
 (.reg [o 0 d42 (.q (.mv s3)),
 o 1 d43 (.q (.fadr s5 34)),
 o 2 d44 (.q (.ld1 s43)),
 o 3 d45 (.call p74 [s42, s44]),
 o 4 d3 (.q (.mv s45))])))))
 (.reg [o 0 d46 (.q (.bin .add s20 (.v (.int .i64 (.ofNat 1))))),
 o 1 d20 (.q (.mv s46))])))))))
 (.seq (.reg [o 0 d47 (.q (.mv s3)),
 o 1 d48 (.q (.fadr s1 2)),
 o 2 d49 (.q (.ld1 s48)),
 o 3 d50 (.q (.lenv s49)),
 o 4 d51 (.q (.cvi .u64 s50)),
 o 5 d52 (.call p83 [s47, s51]),
 o 6 d3 (.q (.mv s52))])
 (.seq (.seq (.reg [o 0 d53 (.q (.fadr s1 2)),
 o 1 d54 (.q (.ld1 s53)),
 o 2 d55 (.q (.lenv s54)),
 o 3 d56 (.q (.mv (.v (.int .i64 (.ofNat 0)))))])
 (.blk 2 (.loop (.seq (.reg [o 0 d57 (.q (.bin .lss s56 s55))])
 (.seq (.cnd s57 .skip (.exit 2))
 (.seq (.blk 3 (.seq (.reg [o 0 d58 (.q (.iadr s54 s56 33)),
 o 1 d59 (.q (.ldn s58 33)),
 o 2 d7 (.e (.alo (lapp [(.int .u64 (.ofNat 0))] (zz (.int .u8 (.ofNat 0)) 32)))),
 o 3 none (.e (.st s7 s59 33))])
 (.rgd 0 [o 0 d60 (.q (.mv s3)),
 o 1 d61 (.q (.fadr s7 0)),
 o 2 d62 (.q (.ld1 s61)),
 o 4 d64 (.q (.fadr s7 1)),
 o 5 d65 (.q (.slca s64 none none 1 32)),
 ⟨3, d63, (.call p75 [s60, s62]), none, [(p65, .slca s64 none none 1 32, none)]⟩,
 o 6 d66 (.e (.app s63 s65 1 1 false)),
 o 7 d3 (.q (.mv s66))])))
 (.reg [o 0 d67 (.q (.bin .add s56 (.v (.int .i64 (.ofNat 1))))),
 o 1 d56 (.q (.mv s67))])))))))
 (.seq (.reg [o 0 d68 (.q (.mv s3)),
 o 1 d69 (.q (.fadr s1 3)),
 o 2 d70 (.q (.ld1 s69)),
 o 3 d71 (.call p74 [s68, s70]),
 o 4 d2 (.q (.mv s71))])
 .ret)))))))
 [.t p2]

noncomputable def f59 : FnE := .code 8
 (.seq (.reg [o 0 d2 (.q (.mv (.v .nils)))])
 (.seq (.seq (.reg [o 0 d3 (.q (.mv s0)),
 o 1 d4 (.q (.eqp .slice false s3 (.v .nils)))])
 (.cnd s4 (.seq (.reg [o 0 d2 (.q (.mv (.v .nils)))])
 .ret) .skip))
 (.seq (.reg [o 0 d5 (.e (.bsl [] [] 0 35)),
 o 1 d6 (.q (.mv s0)),
 o 2 d7 (.e (.app s5 s6 35 72 false)),
 o 3 d2 (.q (.mv s7))])
 .ret)))
 [.t p2]

noncomputable def f60 : FnE := .code 8
 (.seq (.reg [o 0 d2 (.q (.mv (.v .nils)))])
 (.seq (.seq (.reg [o 0 d3 (.q (.mv s0)),
 o 1 d4 (.q (.eqp .slice false s3 (.v .nils)))])
 (.cnd s4 (.seq (.reg [o 0 d2 (.q (.mv (.v .nils)))])
 .ret) .skip))
 (.seq (.reg [o 0 d5 (.e (.bsl [] [] 0 33)),
 o 1 d6 (.q (.mv s0)),
 o 2 d7 (.e (.app s5 s6 33 40 false)),
 o 3 d2 (.q (.mv s7))])
 .ret)))
 [.t p2]

noncomputable def f61 : FnE := .code 8
 (.seq (.reg [o 0 d2 (.q (.mv (.v .nils)))])
 (.seq (.seq (.reg [o 0 d3 (.q (.mv s0)),
 o 1 d4 (.q (.eqp .slice false s3 (.v .nils)))])
 (.cnd s4 (.seq (.reg [o 0 d2 (.q (.mv (.v .nils)))])
 .ret) .skip))
 (.seq (.reg [o 0 d5 (.e (.bsl [] [] 0 1)),
 o 1 d6 (.q (.mv s0)),
 o 2 d7 (.e (.app s5 s6 1 1 false)),
 o 3 d2 (.q (.mv s7))])
 .ret)))
 [.t p2]

noncomputable def f62 : FnE := .code 282
 (.seq (.reg [o 0 d2 (.e (.alo (zz (.int .u8 (.ofNat 0)) 32)))])
 (.seq (.reg [o 0 d23 (.e (.bsl (zz (.int .u32 (.ofNat 0)) 8) [(0, 1, (.v (.int .u32 (.ofNat 1779033703)))), (1, 1, (.v (.int .u32 (.ofNat 3144134277)))), (2, 1, (.v (.int .u32 (.ofNat 1013904242)))), (3, 1, (.v (.int .u32 (.ofNat 2773480762)))), (4, 1, (.v (.int .u32 (.ofNat 1359893119)))), (5, 1, (.v (.int .u32 (.ofNat 2600822924)))), (6, 1, (.v (.int .u32 (.ofNat 528734635)))), (7, 1, (.v (.int .u32 (.ofNat 1541459225))))] 8 1)),
 o 1 d3 (.q (.mv s23))])
 (.seq (.reg [o 0 d24 (.q (.mv s0)),
 o 1 d25 (.call p84 [s24]),
 o 2 d26 (.e (.bsl [(.int .u8 (.ofNat 0))] [(0, 1, (.v (.int .u8 (.ofNat 128))))] 1 1)),
 o 3 d27 (.e (.app s25 s26 1 1 false)),
 o 4 d4 (.q (.mv s27))])
 (.seq (.blk 0 (.loop (.seq (.seq (.reg [o 0 d28 (.q (.mv s4)),
 o 1 d29 (.q (.lenv s28)),
 o 2 d30 (.q (.bin .rem s29 (.v (.int .i64 (.ofNat 64))))),
 o 3 d31 (.q (.bin .neq s30 (.v (.int .i64 (.ofNat 56)))))])
 (.cnd s31 .skip (.exit 0)))
 (.blk 1 (.reg [o 0 d32 (.q (.mv s4)),
 o 1 d33 (.e (.bsl [(.int .u8 (.ofNat 0))] [(0, 1, (.v (.int .u8 (.ofNat 0))))] 1 1)),
 o 2 d34 (.e (.app s32 s33 1 1 false)),
 o 3 d4 (.q (.mv s34))])))))
 (.seq (.reg [o 0 d35 (.q (.mv s0)),
 o 1 d36 (.q (.lenv s35)),
 o 2 d37 (.q (.cvi .u64 s36)),
 o 3 d38 (.q (.bin .mul (.v (.int .u64 (.ofNat 8))) s37)),
 o 4 d5 (.q (.mv s38))])
 (.seq (.seq (.reg [o 0 d6 (.q (.mv (.v (.int .i64 (.ofNat 7)))))])
 (.blk 2 (.loop (.seq (.seq (.reg [o 0 d39 (.q (.mv s6)),
 o 1 d40 (.q (.bin .geq s39 (.v (.int .i64 (.ofNat 0)))))])
 (.cnd s40 .skip (.exit 2)))
 (.seq (.blk 3 (.reg [o 0 d43 (.q (.mv s4)),
 o 1 d44 (.q (.mv s5)),
 o 2 d45 (.q (.mv s6)),
 o 3 d46 (.q (.bin .mul (.v (.int .i64 (.ofNat 8))) s45)),
 o 4 d47 (.q (.cvi .u64 s46)),
 o 5 d48 (.q (.shf false s44 s47)),
 o 6 d49 (.q (.cvi .u8 s48)),
 o 7 d50 (.e (.bsl [(.int .u8 (.ofNat 0))] [(0, 1, s49)] 1 1)),
 o 8 d51 (.e (.app s43 s50 1 1 false)),
 o 9 d4 (.q (.mv s51))]))
 (.reg [o 0 d41 (.q (.mv s6)),
 o 1 d42 (.q (.bin .sub s41 (.v (.int .i64 (.ofNat 1))))),
 o 2 d6 (.q (.mv s42))]))))))
 (.seq (.reg [o 0 d52 (.call p85 []),
 o 1 d7 (.q (.mv s52))])
 (.seq (.seq (.reg [o 0 d8 (.q (.mv (.v (.int .i64 (.ofNat 0)))))])
 (.blk 4 (.loop (.seq (.seq (.reg [o 0 d53 (.q (.mv s8)),
 o 1 d54 (.q (.mv s4)),
 o 2 d55 (.q (.lenv s54)),
 o 3 d56 (.q (.bin .lss s53 s55))])
 (.cnd s56 .skip (.exit 4)))
 (.seq (.blk 5 (.seq (.reg [o 0 d59 (.e (.mks (.v (.int .i64 (.ofNat 64))) (.v (.int .i64 (.ofNat 64))) [(.int .u32 (.ofNat 0))] 1 4)),
 o 1 d9 (.q (.mv s59))])
 (.seq (.seq (.reg [o 0 d10 (.q (.mv (.v (.int .i64 (.ofNat 0)))))])
 (.blk 6 (.loop (.seq (.seq (.reg [o 0 d60 (.q (.mv s10)),
 o 1 d61 (.q (.bin .lss s60 (.v (.int .i64 (.ofNat 64)))))])
 (.cnd s61 .skip (.exit 6)))
 (.seq (.blk 7 (.seq (.seq (.reg [o 0 d64 (.q (.mv s10)),
 o 1 d65 (.q (.bin .lss s64 (.v (.int .i64 (.ofNat 16)))))])
 (.cnd s65 (.seq (.reg [o 0 d66 (.q (.mv s8)),
 o 1 d67 (.q (.mv s10)),
 o 2 d68 (.q (.bin .mul (.v (.int .i64 (.ofNat 4))) s67)),
 o 3 d69 (.q (.bin .add s66 s68)),
 o 4 d11 (.q (.mv s69))])
 (.seq (.rgd 0 [o 0 d70 (.q (.mv s9)),
 o 1 d71 (.q (.mv s10)),
 o 2 d72 (.q (.mv s4)),
 o 3 d73 (.q (.mv s11)),
 o 4 d74 (.q (.iadr s72 s73 1)),
 o 5 d75 (.q (.ld1 s74)),
 o 6 d76 (.q (.cvi .u32 s75)),
 o 7 d77 (.q (.shf true s76 (.v (.int .u64 (.ofNat 24))))),
 o 8 d78 (.q (.mv s4)),
 o 9 d79 (.q (.mv s11)),
 o 10 d80 (.q (.bin .add s79 (.v (.int .i64 (.ofNat 1))))),
 o 11 d81 (.q (.iadr s78 s80 1)),
 o 12 d82 (.q (.ld1 s81)),
 o 13 d83 (.q (.cvi .u32 s82)),
 o 14 d84 (.q (.shf true s83 (.v (.int .u64 (.ofNat 16))))),
 o 15 d85 (.q (.bin .or s77 s84)),
 o 16 d86 (.q (.mv s4)),
 o 17 d87 (.q (.mv s11)),
 o 18 d88 (.q (.bin .add s87 (.v (.int .i64 (.ofNat 2))))),
 o 19 d89 (.q (.iadr s86 s88 1)),
 o 20 d90 (.q (.ld1 s89)),
 o 21 d91 (.q (.cvi .u32 s90)),
 o 22 d92 (.q (.shf true s91 (.v (.int .u64 (.ofNat 8))))),
 o 23 d93 (.q (.bin .or s85 s92)),
 o 24 d94 (.q (.mv s4)),
 o 25 d95 (.q (.mv s11)),
 o 26 d96 (.q (.bin .add s95 (.v (.int .i64 (.ofNat 3))))),
 o 27 d97 (.q (.iadr s94 s96 1)),
 o 28 d98 (.q (.ld1 s97)),
 o 29 d99 (.q (.cvi .u32 s98)),
 o 30 d100 (.q (.bin .or s93 s99)),
 o 31 d101 (.q (.iadr s70 s71 1)),
 o 32 none (.e (.st s101 s100 1))])
 (.exit 7))) .skip))
 (.seq (.reg [o 0 d102 (.q (.mv s9)),
 o 1 d103 (.q (.mv s10)),
 o 2 d104 (.q (.bin .sub s103 (.v (.int .i64 (.ofNat 15))))),
 o 3 d105 (.q (.iadr s102 s104 1)),
 o 4 d106 (.q (.ld1 s105)),
 o 5 d12 (.q (.mv s106))])
 (.seq (.reg [o 0 d107 (.q (.mv s9)),
 o 1 d108 (.q (.mv s10)),
 o 2 d109 (.q (.bin .sub s108 (.v (.int .i64 (.ofNat 2))))),
 o 3 d110 (.q (.iadr s107 s109 1)),
 o 4 d111 (.q (.ld1 s110)),
 o 5 d13 (.q (.mv s111))])
 (.rgd 0 [o 0 d112 (.q (.mv s9)),
 o 1 d113 (.q (.mv s10)),
 o 2 d114 (.q (.mv s9)),
 o 3 d115 (.q (.mv s10)),
 o 4 d116 (.q (.bin .sub s115 (.v (.int .i64 (.ofNat 16))))),
 o 5 d117 (.q (.iadr s114 s116 1)),
 o 6 d118 (.q (.ld1 s117)),
 o 7 d119 (.q (.mv s12)),
 o 9 d121 (.q (.mv s12)),
 o 12 d124 (.q (.mv s12)),
 o 13 d125 (.q (.shf false s124 (.v (.int .u64 (.ofNat 3))))),
 o 16 d128 (.q (.mv s9)),
 o 17 d129 (.q (.mv s10)),
 o 18 d130 (.q (.bin .sub s129 (.v (.int .i64 (.ofNat 7))))),
 o 19 d131 (.q (.iadr s128 s130 1)),
 o 20 d132 (.q (.ld1 s131)),
 o 22 d134 (.q (.mv s13)),
 o 24 d136 (.q (.mv s13)),
 o 27 d139 (.q (.mv s13)),
 o 28 d140 (.q (.shf false s139 (.v (.int .u64 (.ofNat 10))))),
 ⟨8, d120, (.call p86 [s119, (.v (.int .u64 (.ofNat 7)))]), none, [(p118, .ld1 s117, none), (p132, .ld1 s131, none)]⟩,
 ⟨10, d122, (.call p86 [s121, (.v (.int .u64 (.ofNat 18)))]), none, [(p118, .ld1 s117, none), (p132, .ld1 s131, none)]⟩,
 o 11 d123 (.q (.bin .xor s120 s122)),
 o 14 d126 (.q (.bin .xor s123 s125)),
 o 15 d127 (.q (.bin .add s118 s126)),
 o 21 d133 (.q (.bin .add s127 s132)),
 ⟨23, d135, (.call p86 [s134, (.v (.int .u64 (.ofNat 17)))]), none, [(p118, .ld1 s117, none), (p132, .ld1 s131, none)]⟩,
 ⟨25, d137, (.call p86 [s136, (.v (.int .u64 (.ofNat 19)))]), none, [(p118, .ld1 s117, none), (p132, .ld1 s131, none)]⟩,
 o 26 d138 (.q (.bin .xor s135 s137)),
 o 29 d141 (.q (.bin .xor s138 s140)),
 o 30 d142 (.q (.bin .add s133 s141)),
 o 31 d143 (.q (.iadr s112 s113 1)),
 o 32 none (.e (.st s143 s142 1))])))))
 (.reg [o 0 d62 (.q (.mv s10)),
 o 1 d63 (.q (.bin .add s62 (.v (.int .i64 (.ofNat 1))))),
 o 2 d10 (.q (.mv s63))]))))))
 (.seq (.reg [o 0 d144 (.e (.bsl [] [] 0 1)),
 o 1 d145 (.q (.mv s3)),
 o 2 d146 (.e (.app s144 s145 1 4 false)),
 o 3 d14 (.q (.mv s146))])
 (.seq (.seq (.reg [o 0 d15 (.q (.mv (.v (.int .i64 (.ofNat 0)))))])
 (.blk 8 (.loop (.seq (.seq (.reg [o 0 d147 (.q (.mv s15)),
 o 1 d148 (.q (.bin .lss s147 (.v (.int .i64 (.ofNat 64)))))])
 (.cnd s148 .skip (.exit 8)))
 (.seq (.blk 9 (.seq (.reg [o 0 d151 (.q (.mv s14)),
 o 1 d152 (.q (.iadr s151 (.v (.int .i64 (.ofNat 4))) 1)),
 o 2 d153 (.q (.ld1 s152)),
 o 3 d16 (.q (.mv s153))])
 (.seq (.reg [o 0 d154 (.q (.mv s14)),
 o 1 d155 (.q (.iadr s154 (.v (.int .i64 (.ofNat 0))) 1)),
 o 2 d156 (.q (.ld1 s155)),
 o 3 d17 (.q (.mv s156))])
 (.seq (.rgd 0 [o 0 d157 (.q (.mv s14)),
 o 1 d158 (.q (.iadr s157 (.v (.int .i64 (.ofNat 7))) 1)),
 o 2 d159 (.q (.ld1 s158)),
 o 3 d160 (.q (.mv s16)),
 o 5 d162 (.q (.mv s16)),
 o 8 d165 (.q (.mv s16)),
 o 12 d169 (.q (.mv s16)),
 o 13 d170 (.q (.mv s14)),
 o 14 d171 (.q (.iadr s170 (.v (.int .i64 (.ofNat 5))) 1)),
 o 15 d172 (.q (.ld1 s171)),
 o 16 d173 (.q (.bin .and s169 s172)),
 o 17 d174 (.q (.mv s16)),
 o 18 d175 (.q (.inv s174)),
 o 19 d176 (.q (.mv s14)),
 o 20 d177 (.q (.iadr s176 (.v (.int .i64 (.ofNat 6))) 1)),
 o 21 d178 (.q (.ld1 s177)),
 o 22 d179 (.q (.bin .and s175 s178)),
 o 23 d180 (.q (.bin .xor s173 s179)),
 o 25 d182 (.q (.mv s7)),
 o 26 d183 (.q (.mv s15)),
 o 27 d184 (.q (.iadr s182 s183 1)),
 o 28 d185 (.q (.ld1 s184)),
 o 30 d187 (.q (.mv s9)),
 o 31 d188 (.q (.mv s15)),
 o 32 d189 (.q (.iadr s187 s188 1)),
 o 33 d190 (.q (.ld1 s189)),
 ⟨4, d161, (.call p86 [s160, (.v (.int .u64 (.ofNat 6)))]), none, [(p159, .ld1 s158, none), (p172, .ld1 s171, none), (p178, .ld1 s177, none), (p185, .ld1 s184, none), (p190, .ld1 s189, none)]⟩,
 ⟨6, d163, (.call p86 [s162, (.v (.int .u64 (.ofNat 11)))]), none, [(p159, .ld1 s158, none), (p172, .ld1 s171, none), (p178, .ld1 s177, none), (p185, .ld1 s184, none), (p190, .ld1 s189, none)]⟩,
 o 7 d164 (.q (.bin .xor s161 s163)),
 ⟨9, d166, (.call p86 [s165, (.v (.int .u64 (.ofNat 25)))]), none, [(p159, .ld1 s158, none), (p172, .ld1 s171, none), (p178, .ld1 s177, none), (p185, .ld1 s184, none), (p190, .ld1 s189, none)]⟩,
 o 10 d167 (.q (.bin .xor s164 s166)),
 o 11 d168 (.q (.bin .add s159 s167)),
 o 24 d181 (.q (.bin .add s168 s180)),
 o 29 d186 (.q (.bin .add s181 s185)),
 o 34 d191 (.q (.bin .add s186 s190)),
 o 35 d18 (.q (.mv s191))])
 (.seq (.rgd 0 [o 0 d192 (.q (.mv s17)),
 o 2 d194 (.q (.mv s17)),
 o 5 d197 (.q (.mv s17)),
 o 8 d200 (.q (.mv s17)),
 o 9 d201 (.q (.mv s14)),
 o 10 d202 (.q (.iadr s201 (.v (.int .i64 (.ofNat 1))) 1)),
 o 11 d203 (.q (.ld1 s202)),
 o 12 d204 (.q (.bin .and s200 s203)),
 o 13 d205 (.q (.mv s17)),
 o 14 d206 (.q (.mv s14)),
 o 15 d207 (.q (.iadr s206 (.v (.int .i64 (.ofNat 2))) 1)),
 o 16 d208 (.q (.ld1 s207)),
 o 17 d209 (.q (.bin .and s205 s208)),
 o 18 d210 (.q (.bin .xor s204 s209)),
 o 19 d211 (.q (.mv s14)),
 o 20 d212 (.q (.iadr s211 (.v (.int .i64 (.ofNat 1))) 1)),
 o 21 d213 (.q (.ld1 s212)),
 o 22 d214 (.q (.mv s14)),
 o 23 d215 (.q (.iadr s214 (.v (.int .i64 (.ofNat 2))) 1)),
 o 24 d216 (.q (.ld1 s215)),
 o 25 d217 (.q (.bin .and s213 s216)),
 o 26 d218 (.q (.bin .xor s210 s217)),
 ⟨1, d193, (.call p86 [s192, (.v (.int .u64 (.ofNat 2)))]), none, [(p203, .ld1 s202, none), (p208, .ld1 s207, none), (p213, .ld1 s212, none), (p216, .ld1 s215, none)]⟩,
 ⟨3, d195, (.call p86 [s194, (.v (.int .u64 (.ofNat 13)))]), none, [(p203, .ld1 s202, none), (p208, .ld1 s207, none), (p213, .ld1 s212, none), (p216, .ld1 s215, none)]⟩,
 o 4 d196 (.q (.bin .xor s193 s195)),
 ⟨6, d198, (.call p86 [s197, (.v (.int .u64 (.ofNat 22)))]), none, [(p203, .ld1 s202, none), (p208, .ld1 s207, none), (p213, .ld1 s212, none), (p216, .ld1 s215, none)]⟩,
 o 7 d199 (.q (.bin .xor s196 s198)),
 o 27 d219 (.q (.bin .add s199 s218)),
 o 28 d19 (.q (.mv s219))])
 (.rgd 0 [o 0 d220 (.q (.mv s18)),
 o 1 d221 (.q (.mv s19)),
 o 2 d222 (.q (.bin .add s220 s221)),
 o 3 d223 (.q (.mv s14)),
 o 4 d224 (.q (.iadr s223 (.v (.int .i64 (.ofNat 0))) 1)),
 o 5 d225 (.q (.ld1 s224)),
 o 6 d226 (.q (.mv s14)),
 o 7 d227 (.q (.iadr s226 (.v (.int .i64 (.ofNat 1))) 1)),
 o 8 d228 (.q (.ld1 s227)),
 o 9 d229 (.q (.mv s14)),
 o 10 d230 (.q (.iadr s229 (.v (.int .i64 (.ofNat 2))) 1)),
 o 11 d231 (.q (.ld1 s230)),
 o 12 d232 (.q (.mv s14)),
 o 13 d233 (.q (.iadr s232 (.v (.int .i64 (.ofNat 3))) 1)),
 o 14 d234 (.q (.ld1 s233)),
 o 15 d235 (.q (.mv s18)),
 o 16 d236 (.q (.bin .add s234 s235)),
 o 17 d237 (.q (.mv s14)),
 o 18 d238 (.q (.iadr s237 (.v (.int .i64 (.ofNat 4))) 1)),
 o 19 d239 (.q (.ld1 s238)),
 o 20 d240 (.q (.mv s14)),
 o 21 d241 (.q (.iadr s240 (.v (.int .i64 (.ofNat 5))) 1)),
 o 22 d242 (.q (.ld1 s241)),
 o 23 d243 (.q (.mv s14)),
 o 24 d244 (.q (.iadr s243 (.v (.int .i64 (.ofNat 6))) 1)),
 o 25 d245 (.q (.ld1 s244)),
 o 26 d246 (.e (.bsl (zz (.int .u32 (.ofNat 0)) 8) [(0, 1, s222), (1, 1, s225), (2, 1, s228), (3, 1, s231), (4, 1, s236), (5, 1, s239), (6, 1, s242), (7, 1, s245)] 8 1)),
 o 27 d14 (.q (.mv s246))]))))))
 (.reg [o 0 d149 (.q (.mv s15)),
 o 1 d150 (.q (.bin .add s149 (.v (.int .i64 (.ofNat 1))))),
 o 2 d15 (.q (.mv s150))]))))))
 (.seq (.reg [o 0 d20 (.q (.mv (.v (.int .i64 (.ofNat 0)))))])
 (.blk 10 (.loop (.seq (.seq (.reg [o 0 d247 (.q (.mv s20)),
 o 1 d248 (.q (.bin .lss s247 (.v (.int .i64 (.ofNat 8)))))])
 (.cnd s248 .skip (.exit 10)))
 (.seq (.blk 11 (.rgd 0 [o 0 d251 (.q (.mv s3)),
 o 1 d252 (.q (.mv s20)),
 o 2 d253 (.q (.mv s3)),
 o 3 d254 (.q (.mv s20)),
 o 4 d255 (.q (.iadr s253 s254 1)),
 o 5 d256 (.q (.ld1 s255)),
 o 6 d257 (.q (.mv s14)),
 o 7 d258 (.q (.mv s20)),
 o 8 d259 (.q (.iadr s257 s258 1)),
 o 9 d260 (.q (.ld1 s259)),
 o 10 d261 (.q (.bin .add s256 s260)),
 o 11 d262 (.q (.iadr s251 s252 1)),
 o 12 none (.e (.st s262 s261 1))]))
 (.reg [o 0 d249 (.q (.mv s20)),
 o 1 d250 (.q (.bin .add s249 (.v (.int .i64 (.ofNat 1))))),
 o 2 d20 (.q (.mv s250))])))))))))))
 (.reg [o 0 d57 (.q (.mv s8)),
 o 1 d58 (.q (.bin .add s57 (.v (.int .i64 (.ofNat 64))))),
 o 2 d8 (.q (.mv s58))]))))))
 (.seq (.reg [o 0 d21 (.e (.alo (zz (.int .u8 (.ofNat 0)) 32)))])
 (.seq (.seq (.reg [o 0 d22 (.q (.mv (.v (.int .i64 (.ofNat 0)))))])
 (.blk 12 (.loop (.seq (.seq (.reg [o 0 d263 (.q (.mv s22)),
 o 1 d264 (.q (.bin .lss s263 (.v (.int .i64 (.ofNat 32)))))])
 (.cnd s264 .skip (.exit 12)))
 (.seq (.blk 13 (.reg [o 0 d267 (.q (.mv s22)),
 o 1 d268 (.q (.mv s3)),
 o 2 d269 (.q (.mv s22)),
 o 3 d270 (.q (.bin .quo s269 (.v (.int .i64 (.ofNat 4))))),
 o 4 d271 (.q (.iadr s268 s270 1)),
 o 5 d272 (.q (.ld1 s271)),
 o 6 d273 (.q (.mv s22)),
 o 7 d274 (.q (.bin .rem s273 (.v (.int .i64 (.ofNat 4))))),
 o 8 d275 (.q (.bin .mul (.v (.int .i64 (.ofNat 8))) s274)),
 o 9 d276 (.q (.bin .sub (.v (.int .i64 (.ofNat 24))) s275)),
 o 10 d277 (.q (.cvi .u64 s276)),
 o 11 d278 (.q (.shf false s272 s277)),
 o 12 d279 (.q (.cvi .u8 s278)),
 o 13 d280 (.q (.iada s21 s267 1 32)),
 o 14 none (.e (.st s280 s279 1))]))
 (.reg [o 0 d265 (.q (.mv s22)),
 o 1 d266 (.q (.bin .add s265 (.v (.int .i64 (.ofNat 1))))),
 o 2 d22 (.q (.mv s266))]))))))
 (.seq (.reg [o 0 d281 (.q (.ldn s21 32)),
 o 1 none (.e (.st s2 s281 32))])
 .ret)))))))))))
 [.cn p2 32]

noncomputable def f63 : FnE := .code 33
 (.seq (.reg [o 0 d4 (.q (.mv (.v .nils)))])
 (.seq (.seq (.reg [o 0 d5 (.q (.mv s1)),
 o 1 d6 (.call p87 [s5])])
 (.blk 0 (.seq (.reg [o 0 d8 (.q (.bin .eql s6 (.v (.int .i64 (.ofNat 1))))),
 o 1 d7 (.q (.mv s8))])
 (.cnd s7 (.seq (.reg [o 0 d9 (.q (.mv s0)),
 o 1 d10 (.q (.mv s1)),
 o 2 d11 (.q (.cvi .u8 s10)),
 o 3 d12 (.e (.bsl [(.int .u8 (.ofNat 0))] [(0, 1, s11)] 1 1)),
 o 4 d13 (.e (.app s9 s12 1 1 false)),
 o 5 d4 (.q (.mv s13))])
 .ret) (.seq (.reg [o 0 d15 (.q (.bin .eql s6 (.v (.int .i64 (.ofNat 3))))),
 o 1 d14 (.q (.mv s15))])
 (.cnd s14 (.seq (.reg [o 0 d16 (.q (.mv s0)),
 o 1 d17 (.e (.bsl [(.int .u8 (.ofNat 0))] [(0, 1, (.v (.int .u8 (.ofNat 253))))] 1 1)),
 o 2 d18 (.e (.app s16 s17 1 1 false)),
 o 3 d19 (.q (.mv s1)),
 o 4 d20 (.call p88 [s18, s19, (.v (.int .i64 (.ofNat 2)))]),
 o 5 d4 (.q (.mv s20))])
 .ret) (.seq (.reg [o 0 d22 (.q (.bin .eql s6 (.v (.int .i64 (.ofNat 5))))),
 o 1 d21 (.q (.mv s22))])
 (.cnd s21 (.seq (.reg [o 0 d23 (.q (.mv s0)),
 o 1 d24 (.e (.bsl [(.int .u8 (.ofNat 0))] [(0, 1, (.v (.int .u8 (.ofNat 254))))] 1 1)),
 o 2 d25 (.e (.app s23 s24 1 1 false)),
 o 3 d26 (.q (.mv s1)),
 o 4 d27 (.call p88 [s25, s26, (.v (.int .i64 (.ofNat 4)))]),
 o 5 d4 (.q (.mv s27))])
 .ret) .skip))))))))
 (.seq (.reg [o 0 d28 (.q (.mv s0)),
 o 1 d29 (.e (.bsl [(.int .u8 (.ofNat 0))] [(0, 1, (.v (.int .u8 (.ofNat 255))))] 1 1)),
 o 2 d30 (.e (.app s28 s29 1 1 false)),
 o 3 d31 (.q (.mv s1)),
 o 4 d32 (.call p88 [s30, s31, (.v (.int .i64 (.ofNat 8)))]),
 o 5 d4 (.q (.mv s32))])
 .ret)))
 [.t p4]

noncomputable def f64 : FnE := .code 9
 (.seq (.reg [o 0 d4 (.q (.mv (.v .nils)))])
 (.seq (.reg [o 0 d5 (.q (.mv s0)),
 o 1 d6 (.q (.mv s1)),
 o 2 d7 (.q (.cvi .u64 s6)),
 o 3 d8 (.call p88 [s5, s7, (.v (.int .i64 (.ofNat 4)))]),
 o 4 d4 (.q (.mv s8))])
 .ret))
 [.t p4]

noncomputable def f65 : FnE := .code 8
 (.seq (.reg [o 0 d4 (.q (.mv (.v .nils)))])
 (.seq (.reg [o 0 d5 (.q (.mv s0)),
 o 1 d6 (.q (.mv s1)),
 o 2 d7 (.call p88 [s5, s6, (.v (.int .i64 (.ofNat 8)))]),
 o 3 d4 (.q (.mv s7))])
 .ret))
 [.t p4]

noncomputable def f66 : FnE := .code 38
 (.seq (.reg [o 0 d2 (.e (.box s0 5)),
 o 1 d3 (.e (.box s1 5)),
 o 2 d4 (.q (.mv (.v (.bool false))))])
 (.seq (.reg [o 0 d5 (.q (.fadr s2 0)),
 o 1 d6 (.q (.ld1 s5)),
 o 2 d7 (.q (.fadr s3 0)),
 o 3 d8 (.q (.ld1 s7)),
 o 4 d9 (.q (.bin .eql s6 s8)),
 o 5 d10 (.q (.mv s9)),
 ⟨6, d11, (.q (.fadr s2 1)), (some (p10, true)), []⟩,
 ⟨7, d12, (.q (.ld1 s11)), (some (p10, true)), []⟩,
 ⟨8, d13, (.q (.fadr s3 1)), (some (p10, true)), []⟩,
 ⟨9, d14, (.q (.ld1 s13)), (some (p10, true)), []⟩,
 ⟨10, d15, (.q (.cmpb false s12 s14)), (some (p10, true)), []⟩,
 o 11 d16 (.q (.pick s10 s15 (.v (.bool false)))),
 o 12 d17 (.q (.mv s16)),
 ⟨13, d18, (.q (.fadr s2 2)), (some (p17, true)), []⟩,
 ⟨14, d19, (.q (.ld1 s18)), (some (p17, true)), []⟩,
 ⟨15, d20, (.q (.fadr s3 2)), (some (p17, true)), []⟩,
 ⟨16, d21, (.q (.ld1 s20)), (some (p17, true)), []⟩,
 ⟨17, d22, (.q (.bin .eql s19 s21)), (some (p17, true)), []⟩,
 o 18 d23 (.q (.pick s17 s22 (.v (.bool false)))),
 o 19 d24 (.q (.mv s23)),
 ⟨20, d25, (.q (.fadr s2 3)), (some (p24, true)), []⟩,
 ⟨21, d26, (.q (.ld1 s25)), (some (p24, true)), []⟩,
 ⟨22, d27, (.q (.fadr s3 3)), (some (p24, true)), []⟩,
 ⟨23, d28, (.q (.ld1 s27)), (some (p24, true)), []⟩,
 ⟨24, d29, (.q (.cmpb false s26 s28)), (some (p24, true)), []⟩,
 o 25 d30 (.q (.pick s24 s29 (.v (.bool false)))),
 o 26 d31 (.q (.mv s30)),
 ⟨27, d32, (.q (.fadr s2 4)), (some (p31, true)), []⟩,
 ⟨28, d33, (.q (.ld1 s32)), (some (p31, true)), []⟩,
 ⟨29, d34, (.q (.fadr s3 4)), (some (p31, true)), []⟩,
 ⟨30, d35, (.q (.ld1 s34)), (some (p31, true)), []⟩,
 ⟨31, d36, (.q (.bin .eql s33 s35)), (some (p31, true)), []⟩,
 o 32 d37 (.q (.pick s31 s36 (.v (.bool false)))),
 o 33 d4 (.q (.mv s37))])
 .ret))
 [.t p4]

noncomputable def f67 : FnE := .code 75
 (.seq (.reg [o 0 d2 (.e (.alo [(.int .i64 (.ofNat 0)), (.bool false), (.int .i64 (.ofNat 0)), (.bool false), (.int .i64 (.ofNat 0))]))])
 (.seq (.seq (.reg [o 0 d7 (.q (.mv s0)),
 o 1 d8 (.q (.eqp (.iface true) false s7 (.v .nili)))])
 (.cnd s8 (.seq (.reg [o 0 d9 (.call p89 []),
 o 1 none (.e (.st s2 s9 5))])
 .ret) .skip))
 (.seq (.reg [o 0 d11 (.q (.mv s0)),
 o 1 d12 (.q (.tas s11 149 .nilp true)),
 o 2 d10 (.q (.mv s12)),
 o 3 d13 (.q (.ext s10 0)),
 o 4 d14 (.q (.ext s10 1)),
 o 5 d3 (.q (.mv s13)),
 o 6 d4 (.q (.mv s14))])
 (.seq (.seq (.reg [o 0 d15 (.q (.mv s4)),
 o 1 d16 (.q (.not s15))])
 (.cnd s16 (.seq (.reg [o 0 d17 (.q (.mv s0)),
 o 1 d18 (.call p90 [s17]),
 o 2 d19 (.call p40 [s18]),
 o 3 none (.e (.st s2 s19 5))])
 .ret) .skip))
 (.seq (.seq (.reg [o 0 d20 (.q (.mv s3)),
 o 1 d21 (.q (.eqp .ptr false s20 (.v .nilp))),
 o 2 d22 (.q (.mv s21)),
 ⟨3, d23, (.q (.mv s3)), (some (p22, false)), []⟩,
 ⟨4, d24, (.q (.nck s23)), (some (p22, false)), []⟩,
 ⟨5, d25, (.q (.fadr s24 1)), (some (p22, false)), []⟩,
 ⟨6, d26, (.q (.ld1 s25)), (some (p22, false)), []⟩,
 ⟨7, d27, (.q (.eqp (.iface true) false s26 (.v .nili))), (some (p22, false)), []⟩,
 o 8 d28 (.q (.pick s22 (.v (.bool true)) s27))])
 (.cnd s28 (.seq (.reg [o 0 d29 (.call p40 [(.v (.int .i64 (.negSucc 0)))]),
 o 1 none (.e (.st s2 s29 5))])
 .ret) .skip))
 (.seq (.reg [o 0 d31 (.q (.mv s3)),
 o 1 d32 (.q (.nck s31)),
 o 2 d33 (.q (.fadr s32 1)),
 o 3 d34 (.q (.ld1 s33)),
 o 4 d35 (.q (.tas s34 149 .nilp true)),
 o 5 d30 (.q (.mv s35)),
 o 6 d36 (.q (.ext s30 0)),
 o 7 d37 (.q (.ext s30 1)),
 o 8 d5 (.q (.mv s36)),
 o 9 d6 (.q (.mv s37))])
 (.seq (.seq (.reg [o 0 d38 (.q (.mv s6)),
 o 1 d39 (.q (.not s38))])
 (.cnd s39 (.seq (.rgd 0 [o 0 d40 (.q (.mv s3)),
 o 1 d41 (.q (.nck s40)),
 o 2 d42 (.q (.fadr s41 1)),
 o 3 d43 (.q (.ld1 s42)),
 o 5 d45 (.q (.mv s3)),
 o 6 d46 (.q (.nck s45)),
 o 7 d47 (.q (.fadr s46 0)),
 o 8 d48 (.q (.ld1 s47)),
 ⟨4, d44, (.call p90 [s43]), none, [(p48, .ld1 s47, none)]⟩,
 o 9 d49 (.call p91 [s44, s48]),
 o 10 none (.e (.st s2 s49 5))])
 .ret) .skip))
 (.seq (.seq (.reg [o 0 d50 (.q (.mv s5)),
 o 1 d51 (.q (.eqp .ptr false s50 (.v .nilp))),
 o 2 d52 (.q (.mv s51)),
 ⟨3, d53, (.q (.mv s5)), (some (p52, false)), []⟩,
 ⟨4, d54, (.q (.nck s53)), (some (p52, false)), []⟩,
 ⟨5, d55, (.q (.fadr s54 1)), (some (p52, false)), []⟩,
 ⟨6, d56, (.q (.ld1 s55)), (some (p52, false)), []⟩,
 ⟨7, d57, (.q (.eqp (.iface true) false s56 (.v .nili))), (some (p52, false)), []⟩,
 o 8 d58 (.q (.pick s52 (.v (.bool true)) s57))])
 (.cnd s58 (.seq (.reg [o 0 d59 (.call p40 [(.v (.int .i64 (.negSucc 0)))]),
 o 1 none (.e (.st s2 s59 5))])
 .ret) .skip))
 (.seq (.rgd 0 [o 0 d60 (.q (.mv s5)),
 o 1 d61 (.q (.nck s60)),
 o 2 d62 (.q (.fadr s61 1)),
 o 3 d63 (.q (.ld1 s62)),
 o 5 d65 (.q (.mv s5)),
 o 6 d66 (.q (.nck s65)),
 o 7 d67 (.q (.fadr s66 0)),
 o 8 d68 (.q (.ld1 s67)),
 o 10 d70 (.q (.mv s3)),
 o 11 d71 (.q (.nck s70)),
 o 12 d72 (.q (.fadr s71 0)),
 o 13 d73 (.q (.ld1 s72)),
 ⟨4, d64, (.call p90 [s63]), none, [(p68, .ld1 s67, none), (p73, .ld1 s72, none)]⟩,
 ⟨9, d69, (.call p91 [s64, s68]), none, [(p73, .ld1 s72, none)]⟩,
 o 14 d74 (.call p92 [s69, s73]),
 o 15 none (.e (.st s2 s74 5))])
 .ret)))))))))
 [.cn p2 5]

noncomputable def f72 : FnE := .code 13
 (.seq (.reg [o 0 d2 (.e (.alo (zz (.int .u32 (.ofNat 0)) 8)))])
 (.seq (.seq (.reg [o 0 d3 (.q (.mv s0)),
 o 1 d4 (.q (.nck s3)),
 o 2 d5 (.q (.fadr s4 9)),
 o 3 d6 (.q (.ld1 s5)),
 o 4 d7 (.q (.bin .lss s6 (.v (.int .i64 (.ofNat 64)))))])
 (.cnd s7 (.seq (.reg [o 0 d8 (.call p97 []),
 o 1 none (.e (.st s2 s8 8))])
 .ret) .skip))
 (.seq (.reg [o 0 d9 (.q (.mv s0)),
 o 1 d10 (.q (.nck s9)),
 o 2 d11 (.q (.fadr s10 0)),
 o 3 d12 (.q (.ldn s11 8)),
 o 4 none (.e (.st s2 s12 8))])
 .ret)))
 [.cn p2 8]

noncomputable def f73 : FnE := .code 111
 (.seq (.reg [o 0 d2 (.e (.box s0 8)),
 o 1 d4 (.e (.alo (zz (.int .u32 (.ofNat 0)) 8)))])
 (.seq (.reg [o 0 d14 (.q (.mv s1)),
 o 1 d15 (.call p98 [s14]),
 o 2 d16 (.call p99 []),
 o 3 d5 (.e (.alo (zz (.int .u32 (.ofNat 0)) 64))),
 o 4 d6 (.e (.alo (zz (.int .u32 (.ofNat 0)) 64))),
 o 5 none (.e (.st s5 s15 64)),
 o 6 none (.e (.st s6 s16 64))])
 (.seq (.reg [o 0 d17 (.q (.ldn s2 8)),
 o 1 d7 (.e (.alo (zz (.int .u32 (.ofNat 0)) 8))),
 o 2 none (.e (.st s7 s17 8))])
 (.seq (.seq (.reg [o 0 d18 (.q (.mv (.v (.int .i64 (.ofNat 0)))))])
 (.blk 0 (.loop (.seq (.reg [o 0 d19 (.q (.bin .lss s18 (.v (.int .i64 (.ofNat 64)))))])
 (.seq (.cnd s19 .skip (.exit 0))
 (.seq (.blk 1 (.seq (.reg [o 0 d20 (.q (.mv s18)),
 o 1 d8 (.q (.mv s20))])
 (.seq (.rgd 0 [o 0 d21 (.q (.iada s7 (.v (.int .i64 (.ofNat 0))) 1 8)),
 o 1 d22 (.q (.ld1 s21)),
 o 2 d23 (.q (.iada s7 (.v (.int .i64 (.ofNat 4))) 1 8)),
 o 3 d24 (.q (.ld1 s23)),
 o 4 d9 (.q (.mv s22)),
 o 5 d10 (.q (.mv s24))])
 (.seq (.rgd 0 [o 0 d25 (.q (.iada s7 (.v (.int .i64 (.ofNat 7))) 1 8)),
 o 1 d26 (.q (.ld1 s25)),
 o 2 d27 (.q (.mv s10)),
 o 4 d29 (.q (.mv s10)),
 o 7 d32 (.q (.mv s10)),
 o 11 d36 (.q (.mv s10)),
 o 12 d37 (.q (.iada s7 (.v (.int .i64 (.ofNat 5))) 1 8)),
 o 13 d38 (.q (.ld1 s37)),
 o 14 d39 (.q (.bin .and s36 s38)),
 o 15 d40 (.q (.mv s10)),
 o 16 d41 (.q (.inv s40)),
 o 17 d42 (.q (.iada s7 (.v (.int .i64 (.ofNat 6))) 1 8)),
 o 18 d43 (.q (.ld1 s42)),
 o 19 d44 (.q (.bin .and s41 s43)),
 o 20 d45 (.q (.bin .xor s39 s44)),
 o 22 d47 (.q (.mv s8)),
 o 23 d48 (.q (.iada s6 s47 1 64)),
 o 24 d49 (.q (.ld1 s48)),
 o 26 d51 (.q (.mv s8)),
 o 27 d52 (.q (.iada s5 s51 1 64)),
 o 28 d53 (.q (.ld1 s52)),
 ⟨3, d28, (.call p100 [s27, (.v (.int .i64 (.ofNat 6)))]), none, [(p26, .ld1 s25, none), (p38, .ld1 s37, none), (p43, .ld1 s42, none), (p49, .ld1 s48, none), (p53, .ld1 s52, none)]⟩,
 ⟨5, d30, (.call p100 [s29, (.v (.int .i64 (.ofNat 11)))]), none, [(p26, .ld1 s25, none), (p38, .ld1 s37, none), (p43, .ld1 s42, none), (p49, .ld1 s48, none), (p53, .ld1 s52, none)]⟩,
 o 6 d31 (.q (.bin .xor s28 s30)),
 ⟨8, d33, (.call p100 [s32, (.v (.int .i64 (.ofNat 25)))]), none, [(p26, .ld1 s25, none), (p38, .ld1 s37, none), (p43, .ld1 s42, none), (p49, .ld1 s48, none), (p53, .ld1 s52, none)]⟩,
 o 9 d34 (.q (.bin .xor s31 s33)),
 o 10 d35 (.q (.bin .add s26 s34)),
 o 21 d46 (.q (.bin .add s35 s45)),
 o 25 d50 (.q (.bin .add s46 s49)),
 o 29 d54 (.q (.bin .add s50 s53)),
 o 30 d11 (.q (.mv s54))])
 (.seq (.rgd 0 [o 0 d55 (.q (.mv s9)),
 o 2 d57 (.q (.mv s9)),
 o 5 d60 (.q (.mv s9)),
 o 8 d63 (.q (.mv s9)),
 o 9 d64 (.q (.iada s7 (.v (.int .i64 (.ofNat 1))) 1 8)),
 o 10 d65 (.q (.ld1 s64)),
 o 11 d66 (.q (.bin .and s63 s65)),
 o 12 d67 (.q (.mv s9)),
 o 13 d68 (.q (.iada s7 (.v (.int .i64 (.ofNat 2))) 1 8)),
 o 14 d69 (.q (.ld1 s68)),
 o 15 d70 (.q (.bin .and s67 s69)),
 o 16 d71 (.q (.bin .xor s66 s70)),
 o 17 d72 (.q (.iada s7 (.v (.int .i64 (.ofNat 1))) 1 8)),
 o 18 d73 (.q (.ld1 s72)),
 o 19 d74 (.q (.iada s7 (.v (.int .i64 (.ofNat 2))) 1 8)),
 o 20 d75 (.q (.ld1 s74)),
 o 21 d76 (.q (.bin .and s73 s75)),
 o 22 d77 (.q (.bin .xor s71 s76)),
 ⟨1, d56, (.call p100 [s55, (.v (.int .i64 (.ofNat 2)))]), none, [(p65, .ld1 s64, none), (p69, .ld1 s68, none), (p73, .ld1 s72, none), (p75, .ld1 s74, none)]⟩,
 ⟨3, d58, (.call p100 [s57, (.v (.int .i64 (.ofNat 13)))]), none, [(p65, .ld1 s64, none), (p69, .ld1 s68, none), (p73, .ld1 s72, none), (p75, .ld1 s74, none)]⟩,
 o 4 d59 (.q (.bin .xor s56 s58)),
 ⟨6, d61, (.call p100 [s60, (.v (.int .i64 (.ofNat 22)))]), none, [(p65, .ld1 s64, none), (p69, .ld1 s68, none), (p73, .ld1 s72, none), (p75, .ld1 s74, none)]⟩,
 o 7 d62 (.q (.bin .xor s59 s61)),
 o 23 d78 (.q (.bin .add s62 s77)),
 o 24 d12 (.q (.mv s78))])
 (.reg [o 0 d79 (.q (.mv s11)),
 o 1 d80 (.q (.mv s12)),
 o 2 d81 (.q (.bin .add s79 s80)),
 o 3 d82 (.q (.mv s9)),
 o 4 d83 (.q (.iada s7 (.v (.int .i64 (.ofNat 1))) 1 8)),
 o 5 d84 (.q (.ld1 s83)),
 o 6 d85 (.q (.iada s7 (.v (.int .i64 (.ofNat 2))) 1 8)),
 o 7 d86 (.q (.ld1 s85)),
 o 8 d87 (.q (.iada s7 (.v (.int .i64 (.ofNat 3))) 1 8)),
 o 9 d88 (.q (.ld1 s87)),
 o 10 d89 (.q (.mv s11)),
 o 11 d90 (.q (.bin .add s88 s89)),
 o 12 d91 (.q (.mv s10)),
 o 13 d92 (.q (.iada s7 (.v (.int .i64 (.ofNat 5))) 1 8)),
 o 14 d93 (.q (.ld1 s92)),
 o 15 d94 (.q (.iada s7 (.v (.int .i64 (.ofNat 6))) 1 8)),
 o 16 d95 (.q (.ld1 s94)),
 o 17 d96 (.q (.bld (zz (.int .u32 (.ofNat 0)) 8) [(0, 1, s81), (1, 1, s82), (2, 1, s84), (3, 1, s86), (4, 1, s90), (5, 1, s91), (6, 1, s93), (7, 1, s95)])),
 o 18 none (.e (.st s7 s96 8))]))))))
 (.reg [o 0 d97 (.q (.bin .add s18 (.v (.int .i64 (.ofNat 1))))),
 o 1 d18 (.q (.mv s97))])))))))
 (.seq (.seq (.reg [o 0 d98 (.q (.mv (.v (.int .i64 (.ofNat 0)))))])
 (.blk 2 (.loop (.seq (.reg [o 0 d99 (.q (.bin .lss s98 (.v (.int .i64 (.ofNat 8)))))])
 (.seq (.cnd s99 .skip (.exit 2))
 (.seq (.blk 3 (.seq (.reg [o 0 d100 (.q (.mv s98)),
 o 1 d13 (.q (.mv s100))])
 (.rgd 0 [o 0 d101 (.q (.mv s13)),
 o 1 d102 (.q (.iada s2 s101 1 8)),
 o 2 d103 (.q (.ld1 s102)),
 o 3 d104 (.q (.mv s13)),
 o 4 d105 (.q (.iada s7 s104 1 8)),
 o 5 d106 (.q (.ld1 s105)),
 o 6 d107 (.q (.bin .add s103 s106)),
 o 7 d108 (.q (.iada s2 s101 1 8)),
 o 8 none (.e (.st s108 s107 1))])))
 (.reg [o 0 d109 (.q (.bin .add s98 (.v (.int .i64 (.ofNat 1))))),
 o 1 d98 (.q (.mv s109))])))))))
 (.seq (.reg [o 0 d110 (.q (.ldn s2 8)),
 o 1 none (.e (.st s4 s110 8))])
 .ret))))))
 [.cn p4 8]

noncomputable def f74 : FnE := .code 10
 (.seq (.reg [o 0 d4 (.q (.mv (.v .nils)))])
 (.seq (.reg [o 0 d5 (.q (.mv s0)),
 o 1 d6 (.call p61 [s5]),
 o 2 d7 (.q (.mv s1)),
 o 3 d8 (.q (.cvi .u64 s7)),
 o 4 d9 (.call p101 [s6, s8, (.v (.int .i64 (.ofNat 4)))]),
 o 5 d4 (.q (.mv s9))])
 .ret))
 [.t p4]

noncomputable def f75 : FnE := .code 9
 (.seq (.reg [o 0 d4 (.q (.mv (.v .nils)))])
 (.seq (.reg [o 0 d5 (.q (.mv s0)),
 o 1 d6 (.call p61 [s5]),
 o 2 d7 (.q (.mv s1)),
 o 3 d8 (.call p101 [s6, s7, (.v (.int .i64 (.ofNat 8)))]),
 o 4 d4 (.q (.mv s8))])
 .ret))
 [.t p4]

noncomputable def f76 : FnE := .code 61
 (.seq (.reg [o 0 d4 (.e (.box s1 32)),
 o 1 d6 (.q (.mv (.v .nils)))])
 (.seq (.seq (.rgd 0 [o 0 d15 (.q (.mv s0)),
 o 1 d16 (.q (.nck s15)),
 o 2 d17 (.q (.fadr s16 0)),
 o 3 d18 (.q (.ld1 s17)),
 o 4 d19 (.q (.ldn s4 32)),
 o 5 d20 (.q (.lkp s18 s19 (.cells (kk .u8 32)) (.agg [(.int .u32 (.ofNat 0)), .nils, .nils, (.int .u32 (.ofNat 0)), (.int .u64 (.ofNat 0)), (.int .i64 (.ofNat 0)), (.int .i64 (.ofNat 0))]) true)),
 o 6 d14 (.q (.mv s20)),
 o 7 d21 (.q (.ext s14 0)),
 o 8 d22 (.q (.ext s14 1)),
 ⟨9, d7, (.e (.alo [(.int .u32 (.ofNat 0)), .nils, .nils, (.int .u32 (.ofNat 0)), (.int .u64 (.ofNat 0)), (.int .i64 (.ofNat 0)), (.int .i64 (.ofNat 0))])), none, [(p18, .ld1 s17, none), (p19, .ldn s4 32, none), (p20, .lkp s18 s19 (.cells (kk .u8 32)) (.agg [(.int .u32 (.ofNat 0)), .nils, .nils, (.int .u32 (.ofNat 0)), (.int .u64 (.ofNat 0)), (.int .i64 (.ofNat 0)), (.int .i64 (.ofNat 0))]) true, none)]⟩,
 o 10 none (.e (.st s7 s21 7)),
 o 11 d8 (.q (.mv s22))])
 (.seq (.reg [o 0 d23 (.q (.mv s8)),
 o 1 d24 (.q (.not s23))])
 (.cnd s24 (.seq (.reg [o 0 d6 (.q (.mv (.v .nils)))])
 .ret) .skip)))
 (.seq (.reg [o 0 d25 (.e (.mkm (.cells (kk .u8 32)))),
 o 1 d26 (.q (.ldn s4 32)),
 o 2 none (.e (.mup s25 s26 (.v (.bool true)) (.cells (kk .u8 32)))),
 o 3 d27 (.q (.mv s25)),
 o 4 d9 (.q (.mv s27))])
 (.seq (.reg [o 0 d28 (.q (.ldn s4 32)),
 o 1 d29 (.e (.bsl (zz (.int .u8 (.ofNat 0)) 32) [(0, 32, s28)] 1 32)),
 o 2 d10 (.q (.mv s29))])
 (.seq (.seq (.reg [o 0 d11 (.q (.mv (.v (.int .i64 (.ofNat 0)))))])
 (.blk 0 (.loop (.seq (.seq (.reg [o 0 d30 (.q (.mv s11)),
 o 1 d31 (.q (.mv s10)),
 o 2 d32 (.q (.lenv s31)),
 o 3 d33 (.q (.bin .lss s30 s32))])
 (.cnd s33 .skip (.exit 0)))
 (.seq (.blk 1 (.seq (.reg [o 0 d36 (.q (.mv s2)),
 o 1 d37 (.q (.mv s10)),
 o 2 d38 (.q (.mv s11)),
 o 3 d39 (.q (.iadr s37 s38 32)),
 o 4 d40 (.q (.ldn s39 32)),
 o 5 d41 (.callv s36 [s40]),
 o 6 d42 (.q (.lenv s41)),
 o 7 d43 (.q (.mv (.v (.int .i64 (.ofNat 0)))))])
 (.blk 2 (.loop (.seq (.reg [o 0 d44 (.q (.bin .lss s43 s42))])
 (.seq (.cnd s44 .skip (.exit 2))
 (.seq (.blk 3 (.seq (.reg [o 0 d45 (.q (.iadr s41 s43 32)),
 o 1 d46 (.q (.ldn s45 32)),
 o 2 d13 (.e (.alo (zz (.int .u8 (.ofNat 0)) 32))),
 o 3 none (.e (.st s13 s46 32))])
 (.seq (.reg [o 0 d47 (.q (.mv s9)),
 o 1 d48 (.q (.ldn s13 32)),
 o 2 d49 (.q (.lkp s47 s48 (.cells (kk .u8 32)) (.bool false) false)),
 o 3 d50 (.q (.not s49))])
 (.cnd s50 (.seq (.reg [o 0 d51 (.q (.mv s9)),
 o 1 d52 (.q (.ldn s13 32)),
 o 2 none (.e (.mup s51 s52 (.v (.bool true)) (.cells (kk .u8 32))))])
 (.reg [o 0 d53 (.q (.mv s10)),
 o 1 d54 (.q (.ldn s13 32)),
 o 2 d55 (.e (.bsl (zz (.int .u8 (.ofNat 0)) 32) [(0, 32, s54)] 1 32)),
 o 3 d56 (.e (.app s53 s55 32 32 false)),
 o 4 d10 (.q (.mv s56))])) .skip))))
 (.reg [o 0 d57 (.q (.bin .add s43 (.v (.int .i64 (.ofNat 1))))),
 o 1 d43 (.q (.mv s57))]))))))))
 (.reg [o 0 d34 (.q (.mv s11)),
 o 1 d35 (.q (.bin .add s34 (.v (.int .i64 (.ofNat 1))))),
 o 2 d11 (.q (.mv s35))]))))))
 (.seq (.reg [o 0 d58 (.q (.mv s10)),
 o 1 d59 (.call p102 [s58, (.f 96)])])
 (.seq (.reg [o 0 d60 (.q (.mv s10)),
 o 1 d6 (.q (.mv s60))])
 .ret)))))))
 [.t p6]

noncomputable def f77 : FnE := .code 35
 (.seq (.reg [o 0 d3 (.e (.box s1 32)),
 o 1 d4 (.q (.mv (.v .nils)))])
 (.seq (.reg [o 0 d5 (.q (.mv (.v .nils)))])
 (.seq (.seq (.rgd 0 [o 0 d9 (.q (.mv s0)),
 o 1 d10 (.q (.nck s9)),
 o 2 d11 (.q (.fadr s10 0)),
 o 3 d12 (.q (.ld1 s11)),
 o 4 d13 (.q (.ldn s3 32)),
 o 5 d14 (.q (.lkp s12 s13 (.cells (kk .u8 32)) (.agg [(.int .u32 (.ofNat 0)), .nils, .nils, (.int .u32 (.ofNat 0)), (.int .u64 (.ofNat 0)), (.int .i64 (.ofNat 0)), (.int .i64 (.ofNat 0))]) false)),
 o 6 d15 (.q (.fld s14 0 4 true)),
 o 7 d16 (.q (.fld s15 2 1 false)),
 o 8 d17 (.q (.lenv s16)),
 o 9 d18 (.q (.mv (.v (.int .i64 (.ofNat 0)))))])
 (.blk 0 (.loop (.seq (.reg [o 0 d19 (.q (.bin .lss s18 s17))])
 (.seq (.cnd s19 .skip (.exit 0))
 (.seq (.blk 1 (.seq (.reg [o 0 d20 (.q (.mv s18)),
 o 1 d6 (.q (.mv s20))])
 (.seq (.reg [o 0 d22 (.q (.mv s0)),
 o 1 d23 (.q (.ldn s3 32)),
 o 2 d24 (.q (.mv s6)),
 o 3 d25 (.call p48 [s22, s23, s24]),
 o 4 d21 (.q (.mv s25)),
 o 5 d26 (.q (.ext s21 0)),
 o 6 d27 (.q (.ext s21 1)),
 o 7 d7 (.e (.alo (zz (.int .u8 (.ofNat 0)) 32))),
 o 8 none (.e (.st s7 s26 32)),
 o 9 d8 (.q (.mv s27))])
 (.seq (.reg [o 0 d28 (.q (.mv s8))])
 (.cnd s28 (.reg [o 0 d29 (.q (.mv s5)),
 o 1 d30 (.q (.ldn s7 32)),
 o 2 d31 (.e (.bsl (zz (.int .u8 (.ofNat 0)) 32) [(0, 32, s30)] 1 32)),
 o 3 d32 (.e (.app s29 s31 32 32 false)),
 o 4 d5 (.q (.mv s32))]) .skip)))))
 (.reg [o 0 d33 (.q (.bin .add s18 (.v (.int .i64 (.ofNat 1))))),
 o 1 d18 (.q (.mv s33))])))))))
 (.seq (.reg [o 0 d34 (.q (.mv s5)),
 o 1 d4 (.q (.mv s34))])
 .ret))))
 [.t p4]

noncomputable def f78 : FnE := .code 48
 (.seq (.reg [o 0 d3 (.e (.box s1 4)),
 o 1 d4 (.q (.mv (.v .nils)))])
 (.seq (.reg [o 0 d5 (.q (.mv (.v .nils)))])
 (.seq (.seq (.reg [o 0 d10 (.q (.fadr s3 1)),
 o 1 d11 (.q (.ld1 s10)),
 o 2 d12 (.q (.lenv s11)),
 o 3 d13 (.q (.mv (.v (.int .i64 (.ofNat 0)))))])
 (.blk 0 (.loop (.seq (.reg [o 0 d14 (.q (.bin .lss s13 s12))])
 (.seq (.cnd s14 .skip (.exit 0))
 (.seq (.blk 1 (.seq (.reg [o 0 d15 (.q (.iadr s11 s13 35)),
 o 1 d16 (.q (.ldn s15 35)),
 o 2 d7 (.e (.alo (lapp (zz (.int .u8 (.ofNat 0)) 32) [(.int .u32 (.ofNat 0)), .nils, (.int .u32 (.ofNat 0))]))),
 o 3 none (.e (.st s7 s16 35))])
 (.seq (.rgd 0 [o 0 d18 (.q (.mv s0)),
 o 1 d19 (.q (.nck s18)),
 o 2 d20 (.q (.fadr s19 0)),
 o 3 d21 (.q (.ld1 s20)),
 o 4 d22 (.q (.fadr s7 0)),
 o 5 d23 (.q (.fadr s22 0)),
 o 6 d24 (.q (.ldn s23 32)),
 o 7 d25 (.q (.lkp s21 s24 (.cells (kk .u8 32)) (.agg [(.int .u32 (.ofNat 0)), .nils, .nils, (.int .u32 (.ofNat 0)), (.int .u64 (.ofNat 0)), (.int .i64 (.ofNat 0)), (.int .i64 (.ofNat 0))]) true)),
 o 8 d17 (.q (.mv s25)),
 o 9 d26 (.q (.ext s17 0)),
 o 10 d27 (.q (.ext s17 1)),
 ⟨11, d8, (.e (.alo [(.int .u32 (.ofNat 0)), .nils, .nils, (.int .u32 (.ofNat 0)), (.int .u64 (.ofNat 0)), (.int .i64 (.ofNat 0)), (.int .i64 (.ofNat 0))])), none, [(p21, .ld1 s20, none), (p24, .ldn s23 32, none), (p25, .lkp s21 s24 (.cells (kk .u8 32)) (.agg [(.int .u32 (.ofNat 0)), .nils, .nils, (.int .u32 (.ofNat 0)), (.int .u64 (.ofNat 0)), (.int .i64 (.ofNat 0)), (.int .i64 (.ofNat 0))]) true, none)]⟩,
 o 12 none (.e (.st s8 s26 7)),
 o 13 d9 (.q (.mv s27))])
 (.seq (.reg [o 0 d28 (.q (.mv s9)),
 o 1 d29 (.q (.mv s28)),
 ⟨2, d30, (.q (.fadr s7 0)), (some (p29, true)), []⟩,
 ⟨3, d31, (.q (.fadr s30 32)), (some (p29, true)), []⟩,
 ⟨4, d32, (.q (.ld1 s31)), (some (p29, true)), []⟩,
 ⟨5, d33, (.q (.cvi .i64 s32)), (some (p29, true)), []⟩,
 ⟨6, d34, (.q (.fadr s8 0)), (some (p29, true)), []⟩,
 ⟨7, d35, (.q (.fadr s34 2)), (some (p29, true)), []⟩,
 ⟨8, d36, (.q (.ld1 s35)), (some (p29, true)), []⟩,
 ⟨9, d37, (.q (.lenv s36)), (some (p29, true)), []⟩,
 ⟨10, d38, (.q (.bin .lss s33 s37)), (some (p29, true)), []⟩,
 o 11 d39 (.q (.pick s29 s38 (.v (.bool false))))])
 (.cnd s39 (.reg [o 0 d40 (.q (.mv s5)),
 o 1 d41 (.q (.fadr s7 0)),
 o 2 d42 (.q (.fadr s41 0)),
 o 3 d43 (.q (.ldn s42 32)),
 o 4 d44 (.e (.bsl (zz (.int .u8 (.ofNat 0)) 32) [(0, 32, s43)] 1 32)),
 o 5 d45 (.e (.app s40 s44 32 32 false)),
 o 6 d5 (.q (.mv s45))]) .skip)))))
 (.reg [o 0 d46 (.q (.bin .add s13 (.v (.int .i64 (.ofNat 1))))),
 o 1 d13 (.q (.mv s46))])))))))
 (.seq (.reg [o 0 d47 (.q (.mv s5)),
 o 1 d4 (.q (.mv s47))])
 .ret))))
 [.t p4]

noncomputable def f82 : FnE := .code 7
 (.seq (.reg [o 0 d2 (.e (.alo (zz (.int .u8 (.ofNat 0)) 32)))])
 (.seq (.reg [o 0 d3 (.e (.alo [(.int .u32 (.ofNat 0)), (.int .u32 (.ofNat 0)), (.int .u32 (.ofNat 0)), (.int .u32 (.ofNat 0)), (.int .u32 (.ofNat 0)), (.int .u32 (.ofNat 0)), (.int .u32 (.ofNat 0)), (.int .u32 (.ofNat 0)), .nils, (.int .i64 (.ofNat 0))]))])
 (.seq (.reg [o 0 d4 (.q (.mv s0)),
 o 1 d5 (.call p44 [s3, s4])])
 (.seq (.reg [o 0 d6 (.call p46 [s3]),
 o 1 none (.e (.st s2 s6 32))])
 .ret))))
 [.cn p2 32]

noncomputable def f83 : FnE := .code 38
 (.seq (.reg [o 0 d4 (.q (.mv (.v .nils)))])
 (.seq (.reg [o 0 d7 (.q (.mv s0)),
 o 1 d8 (.call p61 [s7]),
 o 2 d5 (.q (.mv s8))])
 (.seq (.seq (.reg [o 0 d9 (.q (.mv s1)),
 o 1 d10 (.call p105 [s9]),
 o 2 d6 (.q (.mv s10))])
 (.seq (.reg [o 0 d11 (.q (.mv s6))])
 (.blk 0 (.seq (.reg [o 0 d13 (.q (.bin .eql s11 (.v (.int .i64 (.ofNat 1))))),
 o 1 d12 (.q (.mv s13))])
 (.cnd s12 (.seq (.reg [o 0 d14 (.q (.mv s5)),
 o 1 d15 (.q (.mv s1)),
 o 2 d16 (.q (.cvi .u8 s15)),
 o 3 d17 (.e (.bsl [(.int .u8 (.ofNat 0))] [(0, 1, s16)] 1 1)),
 o 4 d18 (.e (.app s14 s17 1 1 false)),
 o 5 d4 (.q (.mv s18))])
 .ret) (.seq (.reg [o 0 d20 (.q (.bin .eql s11 (.v (.int .i64 (.ofNat 3))))),
 o 1 d19 (.q (.mv s20))])
 (.cnd s19 (.seq (.reg [o 0 d21 (.q (.mv s5)),
 o 1 d22 (.e (.bsl [(.int .u8 (.ofNat 0))] [(0, 1, (.v (.int .u8 (.ofNat 253))))] 1 1)),
 o 2 d23 (.e (.app s21 s22 1 1 false)),
 o 3 d24 (.q (.mv s1)),
 o 4 d25 (.call p101 [s23, s24, (.v (.int .i64 (.ofNat 2)))]),
 o 5 d4 (.q (.mv s25))])
 .ret) (.seq (.reg [o 0 d27 (.q (.bin .eql s11 (.v (.int .i64 (.ofNat 5))))),
 o 1 d26 (.q (.mv s27))])
 (.cnd s26 (.seq (.reg [o 0 d28 (.q (.mv s5)),
 o 1 d29 (.e (.bsl [(.int .u8 (.ofNat 0))] [(0, 1, (.v (.int .u8 (.ofNat 254))))] 1 1)),
 o 2 d30 (.e (.app s28 s29 1 1 false)),
 o 3 d31 (.q (.mv s1)),
 o 4 d32 (.call p101 [s30, s31, (.v (.int .i64 (.ofNat 4)))]),
 o 5 d4 (.q (.mv s32))])
 .ret) .skip)))))))))
 (.seq (.reg [o 0 d33 (.q (.mv s5)),
 o 1 d34 (.e (.bsl [(.int .u8 (.ofNat 0))] [(0, 1, (.v (.int .u8 (.ofNat 255))))] 1 1)),
 o 2 d35 (.e (.app s33 s34 1 1 false)),
 o 3 d36 (.q (.mv s1)),
 o 4 d37 (.call p101 [s35, s36, (.v (.int .i64 (.ofNat 8)))]),
 o 5 d4 (.q (.mv s37))])
 .ret))))
 [.t p4]

noncomputable def f84 : FnE := .code 22
 (.seq (.reg [o 0 d2 (.q (.mv (.v .nils)))])
 (.seq (.reg [o 0 d5 (.q (.mv s0)),
 o 1 d6 (.q (.lenv s5)),
 o 2 d7 (.e (.mks (.v (.int .i64 (.ofNat 0))) s6 [(.int .u8 (.ofNat 0))] 1 1)),
 o 3 d3 (.q (.mv s7))])
 (.seq (.seq (.reg [o 0 d4 (.q (.mv (.v (.int .i64 (.ofNat 0)))))])
 (.blk 0 (.loop (.seq (.seq (.reg [o 0 d8 (.q (.mv s4)),
 o 1 d9 (.q (.mv s0)),
 o 2 d10 (.q (.lenv s9)),
 o 3 d11 (.q (.bin .lss s8 s10))])
 (.cnd s11 .skip (.exit 0)))
 (.seq (.blk 1 (.reg [o 0 d14 (.q (.mv s3)),
 o 1 d15 (.q (.mv s0)),
 o 2 d16 (.q (.mv s4)),
 o 3 d17 (.q (.iadr s15 s16 1)),
 o 4 d18 (.q (.ld1 s17)),
 o 5 d19 (.e (.bsl [(.int .u8 (.ofNat 0))] [(0, 1, s18)] 1 1)),
 o 6 d20 (.e (.app s14 s19 1 1 false)),
 o 7 d3 (.q (.mv s20))]))
 (.reg [o 0 d12 (.q (.mv s4)),
 o 1 d13 (.q (.bin .add s12 (.v (.int .i64 (.ofNat 1))))),
 o 2 d4 (.q (.mv s13))]))))))
 (.seq (.reg [o 0 d21 (.q (.mv s3)),
 o 1 d2 (.q (.mv s21))])
 .ret))))
 [.t p2]

noncomputable def f85 : FnE := .code 2
 (.seq (.reg [o 0 d0 (.q (.mv (.v .nils)))])
 (.seq (.reg [o 0 d1 (.e (.bsl (zz (.int .u32 (.ofNat 0)) 64) [(0, 1, (.v (.int .u32 (.ofNat 1116352408)))), (1, 1, (.v (.int .u32 (.ofNat 1899447441)))), (2, 1, (.v (.int .u32 (.ofNat 3049323471)))), (3, 1, (.v (.int .u32 (.ofNat 3921009573)))), (4, 1, (.v (.int .u32 (.ofNat 961987163)))), (5, 1, (.v (.int .u32 (.ofNat 1508970993)))), (6, 1, (.v (.int .u32 (.ofNat 2453635748)))), (7, 1, (.v (.int .u32 (.ofNat 2870763221)))), (8, 1, (.v (.int .u32 (.ofNat 3624381080)))), (9, 1, (.v (.int .u32 (.ofNat 310598401)))), (10, 1, (.v (.int .u32 (.ofNat 607225278)))), (11, 1, (.v (.int .u32 (.ofNat 1426881987)))), (12, 1, (.v (.int .u32 (.ofNat 1925078388)))), (13, 1, (.v (.int .u32 (.ofNat 2162078206)))), (14, 1, (.v (.int .u32 (.ofNat 2614888103)))), (15, 1, (.v (.int .u32 (.ofNat 3248222580)))), (16, 1, (.v (.int .u32 (.ofNat 3835390401)))), (17, 1, (.v (.int .u32 (.ofNat 4022224774)))), (18, 1, (.v (.int .u32 (.ofNat 264347078)))), (19, 1, (.v (.int .u32 (.ofNat 604807628)))), (20, 1, (.v (.int .u32 (.ofNat 770255983)))), (21, 1, (.v (.int .u32 (.ofNat 1249150122)))), (22, 1, (.v (.int .u32 (.ofNat 1555081692)))), (23, 1, (.v (.int .u32 (.ofNat 1996064986)))), (24, 1, (.v (.int .u32 (.ofNat 2554220882)))), (25, 1, (.v (.int .u32 (.ofNat 2821834349)))), (26, 1, (.v (.int .u32 (.ofNat 2952996808)))), (27, 1, (.v (.int .u32 (.ofNat 3210313671)))), (28, 1, (.v (.int .u32 (.ofNat 3336571891)))), (29, 1, (.v (.int .u32 (.ofNat 3584528711)))), (30, 1, (.v (.int .u32 (.ofNat 113926993)))), (31, 1, (.v (.int .u32 (.ofNat 338241895)))), (32, 1, (.v (.int .u32 (.ofNat 666307205)))), (33, 1, (.v (.int .u32 (.ofNat 773529912)))), (34, 1, (.v (.int .u32 (.ofNat 1294757372)))), (35, 1, (.v (.int .u32 (.ofNat 1396182291)))), (36, 1, (.v (.int .u32 (.ofNat 1695183700)))), (37, 1, (.v (.int .u32 (.ofNat 1986661051)))), (38, 1, (.v (.int .u32 (.ofNat 2177026350)))), (39, 1, (.v (.int .u32 (.ofNat 2456956037)))), (40, 1, (.v (.int .u32 (.ofNat 2730485921)))), (41, 1, (.v (.int .u32 (.ofNat 2820302411)))), (42, 1, (.v (.int .u32 (.ofNat 3259730800)))), (43, 1, (.v (.int .u32 (.ofNat 3345764771)))), (44, 1, (.v (.int .u32 (.ofNat 3516065817)))), (45, 1, (.v (.int .u32 (.ofNat 3600352804)))), (46, 1, (.v (.int .u32 (.ofNat 4094571909)))), (47, 1, (.v (.int .u32 (.ofNat 275423344)))), (48, 1, (.v (.int .u32 (.ofNat 430227734)))), (49, 1, (.v (.int .u32 (.ofNat 506948616)))), (50, 1, (.v (.int .u32 (.ofNat 659060556)))), (51, 1, (.v (.int .u32 (.ofNat 883997877)))), (52, 1, (.v (.int .u32 (.ofNat 958139571)))), (53, 1, (.v (.int .u32 (.ofNat 1322822218)))), (54, 1, (.v (.int .u32 (.ofNat 1537002063)))), (55, 1, (.v (.int .u32 (.ofNat 1747873779)))), (56, 1, (.v (.int .u32 (.ofNat 1955562222)))), (57, 1, (.v (.int .u32 (.ofNat 2024104815)))), (58, 1, (.v (.int .u32 (.ofNat 2227730452)))), (59, 1, (.v (.int .u32 (.ofNat 2361852424)))), (60, 1, (.v (.int .u32 (.ofNat 2428436474)))), (61, 1, (.v (.int .u32 (.ofNat 2756734187)))), (62, 1, (.v (.int .u32 (.ofNat 3204031479)))), (63, 1, (.v (.int .u32 (.ofNat 3329325298))))] 64 1)),
 o 1 d0 (.q (.mv s1))])
 .ret))
 [.t p0]

noncomputable def f86 : FnE := .code 13
 (.seq (.reg [o 0 d4 (.q (.mv (.v (.int .u32 (.ofNat 0)))))])
 (.seq (.reg [o 0 d5 (.q (.mv s0)),
 o 1 d6 (.q (.mv s1)),
 o 2 d7 (.q (.shf false s5 s6)),
 o 3 d8 (.q (.mv s0)),
 o 4 d9 (.q (.mv s1)),
 o 5 d10 (.q (.bin .sub (.v (.int .u64 (.ofNat 32))) s9)),
 o 6 d11 (.q (.shf true s8 s10)),
 o 7 d12 (.q (.bin .or s7 s11)),
 o 8 d4 (.q (.mv s12))])
 .ret))
 [.t p4]

noncomputable def f87 : FnE := .code 12
 (.seq (.reg [o 0 d2 (.q (.mv (.v (.int .i64 (.ofNat 0)))))])
 (.seq (.blk 0 (.seq (.reg [o 0 d4 (.q (.mv s0)),
 o 1 d5 (.q (.bin .lss s4 (.v (.int .u64 (.ofNat 253))))),
 o 2 d3 (.q (.mv s5))])
 (.cnd s3 (.seq (.reg [o 0 d2 (.q (.mv (.v (.int .i64 (.ofNat 1)))))])
 .ret) (.seq (.reg [o 0 d7 (.q (.mv s0)),
 o 1 d8 (.q (.bin .lss s7 (.v (.int .u64 (.ofNat 65536))))),
 o 2 d6 (.q (.mv s8))])
 (.cnd s6 (.seq (.reg [o 0 d2 (.q (.mv (.v (.int .i64 (.ofNat 3)))))])
 .ret) (.seq (.reg [o 0 d10 (.q (.mv s0)),
 o 1 d11 (.q (.bin .lss s10 (.v (.int .u64 (.ofNat 4294967296))))),
 o 2 d9 (.q (.mv s11))])
 (.cnd s9 (.seq (.reg [o 0 d2 (.q (.mv (.v (.int .i64 (.ofNat 5)))))])
 .ret) .skip)))))))
 (.seq (.reg [o 0 d2 (.q (.mv (.v (.int .i64 (.ofNat 9)))))])
 .ret)))
 [.t p2]

noncomputable def f88 : FnE := .code 23
 (.seq (.reg [o 0 d6 (.q (.mv (.v .nils)))])
 (.seq (.seq (.reg [o 0 d7 (.q (.mv (.v (.int .i64 (.ofNat 0)))))])
 (.blk 0 (.loop (.seq (.seq (.reg [o 0 d8 (.q (.mv s7)),
 o 1 d9 (.q (.mv s2)),
 o 2 d10 (.q (.bin .lss s8 s9))])
 (.cnd s10 .skip (.exit 0)))
 (.seq (.blk 1 (.reg [o 0 d13 (.q (.mv s0)),
 o 1 d14 (.q (.mv s1)),
 o 2 d15 (.q (.mv s7)),
 o 3 d16 (.q (.bin .mul (.v (.int .i64 (.ofNat 8))) s15)),
 o 4 d17 (.q (.cvi .u64 s16)),
 o 5 d18 (.q (.shf false s14 s17)),
 o 6 d19 (.q (.cvi .u8 s18)),
 o 7 d20 (.e (.bsl [(.int .u8 (.ofNat 0))] [(0, 1, s19)] 1 1)),
 o 8 d21 (.e (.app s13 s20 1 1 false)),
 o 9 d0 (.q (.mv s21))]))
 (.reg [o 0 d11 (.q (.mv s7)),
 o 1 d12 (.q (.bin .add s11 (.v (.int .i64 (.ofNat 1))))),
 o 2 d7 (.q (.mv s12))]))))))
 (.seq (.reg [o 0 d22 (.q (.mv s0)),
 o 1 d6 (.q (.mv s22))])
 .ret)))
 [.t p6]

noncomputable def f89 : FnE := .code 2
 (.seq (.reg [o 0 d0 (.e (.alo [(.int .i64 (.ofNat 0)), (.bool false), (.int .i64 (.ofNat 0)), (.bool false), (.int .i64 (.ofNat 0))]))])
 (.seq (.reg [o 0 d1 (.q (.bld [(.int .i64 (.ofNat 0)), (.bool false), (.int .i64 (.ofNat 0)), (.bool false), (.int .i64 (.ofNat 0))] [])),
 o 1 none (.e (.st s0 s1 5))])
 .ret))
 [.cn p0 5]

noncomputable def f90 : FnE := .code 20
 (.seq (.reg [o 0 d2 (.q (.mv (.v (.int .i64 (.ofNat 0)))))])
 (.seq (.reg [o 0 d5 (.call p106 []),
 o 1 d3 (.q (.mv s5))])
 (.seq (.seq (.reg [o 0 d4 (.q (.mv (.v (.int .i64 (.ofNat 0)))))])
 (.blk 0 (.loop (.seq (.seq (.reg [o 0 d6 (.q (.mv s4)),
 o 1 d7 (.q (.mv s3)),
 o 2 d8 (.q (.lenv s7)),
 o 3 d9 (.q (.bin .lss s6 s8))])
 (.cnd s9 .skip (.exit 0)))
 (.seq (.blk 1 (.seq (.reg [o 0 d12 (.q (.mv s0)),
 o 1 d13 (.q (.mv s3)),
 o 2 d14 (.q (.mv s4)),
 o 3 d15 (.q (.iadr s13 s14 1)),
 o 4 d16 (.q (.ld1 s15)),
 o 5 d17 (.call p107 [s12, s16])])
 (.cnd s17 (.seq (.reg [o 0 d18 (.q (.mv s4)),
 o 1 d19 (.q (.bin .add (.v (.int .i64 (.ofNat 101))) s18)),
 o 2 d2 (.q (.mv s19))])
 .ret) .skip)))
 (.reg [o 0 d10 (.q (.mv s4)),
 o 1 d11 (.q (.bin .add s10 (.v (.int .i64 (.ofNat 1))))),
 o 2 d4 (.q (.mv s11))]))))))
 (.seq (.reg [o 0 d2 (.q (.mv (.v (.int .i64 (.negSucc 0)))))])
 .ret))))
 [.t p2]

noncomputable def f96 : FnE := .code 8
 (.seq (.reg [o 0 d2 (.e (.box s0 32)),
 o 1 d3 (.e (.box s1 32)),
 o 2 d4 (.q (.mv (.v (.int .i64 (.ofNat 0)))))])
 (.seq (.rgd 0 [o 0 d5 (.q (.slca s2 none none 1 32)),
 o 1 d6 (.q (.slca s3 none none 1 32)),
 o 2 d7 (.call p111 [s5, s6]),
 o 3 d4 (.q (.mv s7))])
 .ret))
 [.t p4]

noncomputable def f97 : FnE := .code 2
 (.seq (.reg [o 0 d0 (.e (.alo (zz (.int .u32 (.ofNat 0)) 8)))])
 (.seq (.reg [o 0 d1 (.q (.bld (zz (.int .u32 (.ofNat 0)) 8) [(0, 1, (.v (.int .u32 (.ofNat 1779033703)))), (1, 1, (.v (.int .u32 (.ofNat 3144134277)))), (2, 1, (.v (.int .u32 (.ofNat 1013904242)))), (3, 1, (.v (.int .u32 (.ofNat 2773480762)))), (4, 1, (.v (.int .u32 (.ofNat 1359893119)))), (5, 1, (.v (.int .u32 (.ofNat 2600822924)))), (6, 1, (.v (.int .u32 (.ofNat 528734635)))), (7, 1, (.v (.int .u32 (.ofNat 1541459225))))])),
 o 1 none (.e (.st s0 s1 8))])
 .ret))
 [.cn p0 8]

noncomputable def f98 : FnE := .code 80
 (.seq (.reg [o 0 d2 (.e (.alo (zz (.int .u32 (.ofNat 0)) 64)))])
 (.seq (.reg [o 0 d3 (.e (.alo (zz (.int .u32 (.ofNat 0)) 64)))])
 (.seq (.seq (.reg [o 0 d8 (.q (.mv (.v (.int .i64 (.ofNat 0)))))])
 (.blk 0 (.loop (.seq (.reg [o 0 d9 (.q (.bin .lss s8 (.v (.int .i64 (.ofNat 64)))))])
 (.seq (.cnd s9 .skip (.exit 0))
 (.seq (.blk 1 (.seq (.reg [o 0 d10 (.q (.mv s8)),
 o 1 d4 (.q (.mv s10))])
 (.seq (.seq (.reg [o 0 d11 (.q (.mv s4)),
 o 1 d12 (.q (.bin .lss s11 (.v (.int .i64 (.ofNat 16)))))])
 (.cnd s12 (.seq (.reg [o 0 d13 (.q (.mv s0)),
 o 1 d14 (.q (.mv s4)),
 o 2 d15 (.q (.bin .mul (.v (.int .i64 (.ofNat 4))) s14)),
 o 3 d16 (.q (.slc s13 (some s15) none 1)),
 o 4 d5 (.q (.mv s16))])
 (.seq (.rgd 0 [o 0 d17 (.q (.mv s4)),
 o 1 d18 (.q (.mv s5)),
 o 2 d19 (.q (.iadr s18 (.v (.int .i64 (.ofNat 0))) 1)),
 o 3 d20 (.q (.ld1 s19)),
 o 4 d21 (.q (.cvi .u32 s20)),
 o 5 d22 (.q (.shf true s21 (.v (.int .u64 (.ofNat 24))))),
 o 6 d23 (.q (.mv s5)),
 o 7 d24 (.q (.iadr s23 (.v (.int .i64 (.ofNat 1))) 1)),
 o 8 d25 (.q (.ld1 s24)),
 o 9 d26 (.q (.cvi .u32 s25)),
 o 10 d27 (.q (.shf true s26 (.v (.int .u64 (.ofNat 16))))),
 o 11 d28 (.q (.bin .or s22 s27)),
 o 12 d29 (.q (.mv s5)),
 o 13 d30 (.q (.iadr s29 (.v (.int .i64 (.ofNat 2))) 1)),
 o 14 d31 (.q (.ld1 s30)),
 o 15 d32 (.q (.cvi .u32 s31)),
 o 16 d33 (.q (.shf true s32 (.v (.int .u64 (.ofNat 8))))),
 o 17 d34 (.q (.bin .or s28 s33)),
 o 18 d35 (.q (.mv s5)),
 o 19 d36 (.q (.iadr s35 (.v (.int .i64 (.ofNat 3))) 1)),
 o 20 d37 (.q (.ld1 s36)),
 o 21 d38 (.q (.cvi .u32 s37)),
 o 22 d39 (.q (.bin .or s34 s38)),
 o 23 d40 (.q (.iada s3 s17 1 64)),
 o 24 none (.e (.st s40 s39 1))])
 (.exit 1))) .skip))
 (.seq (.rgd 0 [o 0 d41 (.q (.mv s4)),
 o 1 d42 (.q (.bin .sub s41 (.v (.int .i64 (.ofNat 2))))),
 o 2 d43 (.q (.iada s3 s42 1 64)),
 o 3 d44 (.q (.ld1 s43)),
 o 4 d45 (.q (.mv s4)),
 o 5 d46 (.q (.bin .sub s45 (.v (.int .i64 (.ofNat 15))))),
 o 6 d47 (.q (.iada s3 s46 1 64)),
 o 7 d48 (.q (.ld1 s47)),
 o 8 d6 (.q (.mv s44)),
 o 9 d7 (.q (.mv s48))])
 (.rgd 0 [o 0 d49 (.q (.mv s4)),
 o 1 d50 (.q (.mv s6)),
 o 3 d52 (.q (.mv s6)),
 o 6 d55 (.q (.mv s6)),
 o 7 d56 (.q (.shf false s55 (.v (.int .u64 (.ofNat 10))))),
 o 9 d58 (.q (.mv s4)),
 o 10 d59 (.q (.bin .sub s58 (.v (.int .i64 (.ofNat 7))))),
 o 11 d60 (.q (.iada s3 s59 1 64)),
 o 12 d61 (.q (.ld1 s60)),
 o 14 d63 (.q (.mv s7)),
 o 16 d65 (.q (.mv s7)),
 o 19 d68 (.q (.mv s7)),
 o 20 d69 (.q (.shf false s68 (.v (.int .u64 (.ofNat 3))))),
 o 23 d72 (.q (.mv s4)),
 o 24 d73 (.q (.bin .sub s72 (.v (.int .i64 (.ofNat 16))))),
 o 25 d74 (.q (.iada s3 s73 1 64)),
 o 26 d75 (.q (.ld1 s74)),
 ⟨2, d51, (.call p100 [s50, (.v (.int .i64 (.ofNat 17)))]), none, [(p61, .ld1 s60, none), (p75, .ld1 s74, none)]⟩,
 ⟨4, d53, (.call p100 [s52, (.v (.int .i64 (.ofNat 19)))]), none, [(p61, .ld1 s60, none), (p75, .ld1 s74, none)]⟩,
 o 5 d54 (.q (.bin .xor s51 s53)),
 o 8 d57 (.q (.bin .xor s54 s56)),
 o 13 d62 (.q (.bin .add s57 s61)),
 ⟨15, d64, (.call p100 [s63, (.v (.int .i64 (.ofNat 7)))]), none, [(p61, .ld1 s60, none), (p75, .ld1 s74, none)]⟩,
 ⟨17, d66, (.call p100 [s65, (.v (.int .i64 (.ofNat 18)))]), none, [(p61, .ld1 s60, none), (p75, .ld1 s74, none)]⟩,
 o 18 d67 (.q (.bin .xor s64 s66)),
 o 21 d70 (.q (.bin .xor s67 s69)),
 o 22 d71 (.q (.bin .add s62 s70)),
 o 27 d76 (.q (.bin .add s71 s75)),
 o 28 d77 (.q (.iada s3 s49 1 64)),
 o 29 none (.e (.st s77 s76 1))])))))
 (.reg [o 0 d78 (.q (.bin .add s8 (.v (.int .i64 (.ofNat 1))))),
 o 1 d8 (.q (.mv s78))])))))))
 (.seq (.reg [o 0 d79 (.q (.ldn s3 64)),
 o 1 none (.e (.st s2 s79 64))])
 .ret))))
 [.cn p2 64]

noncomputable def f99 : FnE := .code 2
 (.seq (.reg [o 0 d0 (.e (.alo (zz (.int .u32 (.ofNat 0)) 64)))])
 (.seq (.reg [o 0 d1 (.q (.bld (zz (.int .u32 (.ofNat 0)) 64) [(0, 1, (.v (.int .u32 (.ofNat 1116352408)))), (1, 1, (.v (.int .u32 (.ofNat 1899447441)))), (2, 1, (.v (.int .u32 (.ofNat 3049323471)))), (3, 1, (.v (.int .u32 (.ofNat 3921009573)))), (4, 1, (.v (.int .u32 (.ofNat 961987163)))), (5, 1, (.v (.int .u32 (.ofNat 1508970993)))), (6, 1, (.v (.int .u32 (.ofNat 2453635748)))), (7, 1, (.v (.int .u32 (.ofNat 2870763221)))), (8, 1, (.v (.int .u32 (.ofNat 3624381080)))), (9, 1, (.v (.int .u32 (.ofNat 310598401)))), (10, 1, (.v (.int .u32 (.ofNat 607225278)))), (11, 1, (.v (.int .u32 (.ofNat 1426881987)))), (12, 1, (.v (.int .u32 (.ofNat 1925078388)))), (13, 1, (.v (.int .u32 (.ofNat 2162078206)))), (14, 1, (.v (.int .u32 (.ofNat 2614888103)))), (15, 1, (.v (.int .u32 (.ofNat 3248222580)))), (16, 1, (.v (.int .u32 (.ofNat 3835390401)))), (17, 1, (.v (.int .u32 (.ofNat 4022224774)))), (18, 1, (.v (.int .u32 (.ofNat 264347078)))), (19, 1, (.v (.int .u32 (.ofNat 604807628)))), (20, 1, (.v (.int .u32 (.ofNat 770255983)))), (21, 1, (.v (.int .u32 (.ofNat 1249150122)))), (22, 1, (.v (.int .u32 (.ofNat 1555081692)))), (23, 1, (.v (.int .u32 (.ofNat 1996064986)))), (24, 1, (.v (.int .u32 (.ofNat 2554220882)))), (25, 1, (.v (.int .u32 (.ofNat 2821834349)))), (26, 1, (.v (.int .u32 (.ofNat 2952996808)))), (27, 1, (.v (.int .u32 (.ofNat 3210313671)))), (28, 1, (.v (.int .u32 (.ofNat 3336571891)))), (29, 1, (.v (.int .u32 (.ofNat 3584528711)))), (30, 1, (.v (.int .u32 (.ofNat 113926993)))), (31, 1, (.v (.int .u32 (.ofNat 338241895)))), (32, 1, (.v (.int .u32 (.ofNat 666307205)))), (33, 1, (.v (.int .u32 (.ofNat 773529912)))), (34, 1, (.v (.int .u32 (.ofNat 1294757372)))), (35, 1, (.v (.int .u32 (.ofNat 1396182291)))), (36, 1, (.v (.int .u32 (.ofNat 1695183700)))), (37, 1, (.v (.int .u32 (.ofNat 1986661051)))), (38, 1, (.v (.int .u32 (.ofNat 2177026350)))), (39, 1, (.v (.int .u32 (.ofNat 2456956037)))), (40, 1, (.v (.int .u32 (.ofNat 2730485921)))), (41, 1, (.v (.int .u32 (.ofNat 2820302411)))), (42, 1, (.v (.int .u32 (.ofNat 3259730800)))), (43, 1, (.v (.int .u32 (.ofNat 3345764771)))), (44, 1, (.v (.int .u32 (.ofNat 3516065817)))), (45, 1, (.v (.int .u32 (.ofNat 3600352804)))), (46, 1, (.v (.int .u32 (.ofNat 4094571909)))), (47, 1, (.v (.int .u32 (.ofNat 275423344)))), (48, 1, (.v (.int .u32 (.ofNat 430227734)))), (49, 1, (.v (.int .u32 (.ofNat 506948616)))), (50, 1, (.v (.int .u32 (.ofNat 659060556)))), (51, 1, (.v (.int .u32 (.ofNat 883997877)))), (52, 1, (.v (.int .u32 (.ofNat 958139571)))), (53, 1, (.v (.int .u32 (.ofNat 1322822218)))), (54, 1, (.v (.int .u32 (.ofNat 1537002063)))), (55, 1, (.v (.int .u32 (.ofNat 1747873779)))), (56, 1, (.v (.int .u32 (.ofNat 1955562222)))), (57, 1, (.v (.int .u32 (.ofNat 2024104815)))), (58, 1, (.v (.int .u32 (.ofNat 2227730452)))), (59, 1, (.v (.int .u32 (.ofNat 2361852424)))), (60, 1, (.v (.int .u32 (.ofNat 2428436474)))), (61, 1, (.v (.int .u32 (.ofNat 2756734187)))), (62, 1, (.v (.int .u32 (.ofNat 3204031479)))), (63, 1, (.v (.int .u32 (.ofNat 3329325298))))])),
 o 1 none (.e (.st s0 s1 64))])
 .ret))
 [.cn p0 64]

noncomputable def f100 : FnE := .code 9
 (.seq (.reg [o 0 d4 (.q (.mv (.v (.int .u32 (.ofNat 0)))))])
 (.seq (.reg [o 0 d5 (.q (.mv s0)),
 o 1 d6 (.q (.mv s1)),
 o 2 d7 (.q (.neg s6)),
 o 3 d8 (.call p112 [s5, s7]),
 o 4 d4 (.q (.mv s8))])
 .ret))
 [.t p4]

noncomputable def f101 : FnE := .code 19
 (.seq (.reg [o 0 d6 (.q (.mv (.v .nils)))])
 (.seq (.seq (.reg [o 0 d7 (.q (.mv s2)),
 o 1 d8 (.q (.mv (.v (.int .i64 (.ofNat 0)))))])
 (.blk 0 (.loop (.seq (.reg [o 0 d9 (.q (.bin .lss s8 s7))])
 (.seq (.cnd s9 .skip (.exit 0))
 (.seq (.blk 1 (.seq (.reg [o 0 d10 (.q (.mv s0)),
 o 1 d11 (.q (.mv s1)),
 o 2 d12 (.q (.cvi .u8 s11)),
 o 3 d13 (.e (.bsl [(.int .u8 (.ofNat 0))] [(0, 1, s12)] 1 1)),
 o 4 d14 (.e (.app s10 s13 1 1 false)),
 o 5 d0 (.q (.mv s14))])
 (.reg [o 0 d15 (.q (.mv s1)),
 o 1 d16 (.q (.shf false s15 (.v (.int .u64 (.ofNat 8))))),
 o 2 d1 (.q (.mv s16))])))
 (.reg [o 0 d17 (.q (.bin .add s8 (.v (.int .i64 (.ofNat 1))))),
 o 1 d8 (.q (.mv s17))])))))))
 (.seq (.reg [o 0 d18 (.q (.mv s0)),
 o 1 d6 (.q (.mv s18))])
 .ret)))
 [.t p6]

noncomputable def f102 : FnE := .code 14
 (.seq (.reg [o 0 d5 (.q (.mv s0)),
 o 1 d6 (.q (.lenv s5)),
 o 2 d4 (.q (.mv s6))])
 (.reg [o 0 d7 (.q (.mv s0)),
 o 1 d8 (.q (.mv s4)),
 o 2 d9 (.q (.mv s4)),
 o 3 d10 (.q (.cvi .u64 s9)),
 o 4 d11 (.call p110 [s10]),
 o 5 d12 (.q (.mv s1)),
 o 6 d13 (.call p113 [s7, (.v (.int .i64 (.ofNat 0))), s8, s11, s12])]))
 []

noncomputable def f105 : FnE := .code 12
 (.seq (.reg [o 0 d2 (.q (.mv (.v (.int .i64 (.ofNat 0)))))])
 (.seq (.blk 0 (.seq (.reg [o 0 d4 (.q (.mv s0)),
 o 1 d5 (.q (.bin .lss s4 (.v (.int .u64 (.ofNat 253))))),
 o 2 d3 (.q (.mv s5))])
 (.cnd s3 (.seq (.reg [o 0 d2 (.q (.mv (.v (.int .i64 (.ofNat 1)))))])
 .ret) (.seq (.reg [o 0 d7 (.q (.mv s0)),
 o 1 d8 (.q (.bin .lss s7 (.v (.int .u64 (.ofNat 65536))))),
 o 2 d6 (.q (.mv s8))])
 (.cnd s6 (.seq (.reg [o 0 d2 (.q (.mv (.v (.int .i64 (.ofNat 3)))))])
 .ret) (.seq (.reg [o 0 d10 (.q (.mv s0)),
 o 1 d11 (.q (.bin .lss s10 (.v (.int .u64 (.ofNat 4294967296))))),
 o 2 d9 (.q (.mv s11))])
 (.cnd s9 (.seq (.reg [o 0 d2 (.q (.mv (.v (.int .i64 (.ofNat 5)))))])
 .ret) .skip)))))))
 (.seq (.reg [o 0 d2 (.q (.mv (.v (.int .i64 (.ofNat 9)))))])
 .ret)))
 [.t p2]

noncomputable def f106 : FnE := .code 27
 (.seq (.reg [o 0 d0 (.q (.mv (.v .nils)))])
 (.seq (.reg [o 0 d1 (.q (.ld1 (.g p7))),
 o 1 d2 (.q (.ld1 (.g p6))),
 o 2 d3 (.q (.ld1 (.g p8))),
 o 3 d4 (.q (.ld1 (.g p9))),
 o 4 d5 (.q (.ld1 (.g p0))),
 o 5 d6 (.q (.ld1 (.g p1))),
 o 6 d7 (.q (.ld1 (.g p10))),
 o 7 d8 (.q (.ld1 (.g p11))),
 o 8 d9 (.q (.ld1 (.g p4))),
 o 9 d10 (.q (.ld1 (.g p12))),
 o 10 d11 (.q (.ld1 (.g p13))),
 o 11 d12 (.q (.ld1 (.g p14))),
 o 12 d13 (.q (.ld1 (.g p2))),
 o 13 d14 (.q (.ld1 (.g p15))),
 o 14 d15 (.q (.ld1 (.g p16))),
 o 15 d16 (.q (.ld1 (.g p17))),
 o 16 d17 (.q (.ld1 (.g p18))),
 o 17 d18 (.q (.ld1 (.g p19))),
 o 18 d19 (.q (.ld1 (.g p5))),
 o 19 d20 (.q (.ld1 (.g p20))),
 o 20 d21 (.q (.ld1 (.g p21))),
 o 21 d22 (.q (.ld1 (.g p22))),
 o 22 d23 (.q (.ld1 (.g p3))),
 o 23 d24 (.q (.ld1 (.g p23))),
 o 24 d25 (.q (.ld1 (.g p24))),
 o 25 d26 (.e (.bsl (zz .nili 25) [(0, 1, s1), (1, 1, s2), (2, 1, s3), (3, 1, s4), (4, 1, s5), (5, 1, s6), (6, 1, s7), (7, 1, s8), (8, 1, s9), (9, 1, s10), (10, 1, s11), (11, 1, s12), (12, 1, s13), (13, 1, s14), (14, 1, s15), (15, 1, s16), (16, 1, s17), (17, 1, s18), (18, 1, s19), (19, 1, s20), (20, 1, s21), (21, 1, s22), (22, 1, s23), (23, 1, s24), (24, 1, s25)] 25 1)),
 o 26 d0 (.q (.mv s26))])
 .ret))
 [.t p0]

noncomputable def f107 : FnE := .code 20
 (.seq (.reg [o 0 d4 (.q (.mv (.v (.bool false))))])
 (.seq (.seq (.reg [o 0 d5 (.q (.mv s0)),
 o 1 d6 (.q (.eqp (.iface true) false s5 (.v .nili))),
 o 2 d7 (.q (.mv s6)),
 ⟨3, d8, (.q (.mv s1)), (some (p7, false)), []⟩,
 ⟨4, d9, (.q (.eqp (.iface true) false s8 (.v .nili))), (some (p7, false)), []⟩,
 o 5 d10 (.q (.pick s7 (.v (.bool true)) s9))])
 (.cnd s10 (.seq (.reg [o 0 d11 (.q (.mv s0)),
 o 1 d12 (.q (.eqp (.iface true) false s11 (.v .nili))),
 o 2 d13 (.q (.mv s12)),
 ⟨3, d14, (.q (.mv s1)), (some (p13, true)), []⟩,
 ⟨4, d15, (.q (.eqp (.iface true) false s14 (.v .nili))), (some (p13, true)), []⟩,
 o 5 d16 (.q (.pick s13 s15 (.v (.bool false)))),
 o 6 d4 (.q (.mv s16))])
 .ret) .skip))
 (.seq (.reg [o 0 d17 (.q (.mv s0)),
 o 1 d18 (.q (.mv s1)),
 o 2 d19 (.q (.eqp (.iface false) false s17 s18)),
 o 3 d4 (.q (.mv s19))])
 .ret)))
 [.t p4]

noncomputable def f110 : FnE := .code 8
 (.seq (.reg [o 0 d2 (.q (.mv (.v (.int .i64 (.ofNat 0)))))])
 (.seq (.cnd (.v (.bool false)) (.seq (.reg [o 0 d3 (.q (.mv s0)),
 o 1 d4 (.q (.cvi .u32 s3)),
 o 2 d5 (.call p123 [s4]),
 o 3 d2 (.q (.mv s5))])
 .ret) .skip)
 (.seq (.reg [o 0 d6 (.q (.mv s0)),
 o 1 d7 (.call p124 [s6]),
 o 2 d2 (.q (.mv s7))])
 .ret)))
 [.t p2]

noncomputable def f112 : FnE := .code 17
 (.seq (.reg [o 0 d4 (.q (.mv (.v (.int .u32 (.ofNat 0)))))])
 (.seq (.reg [o 0 d6 (.q (.mv s1)),
 o 1 d7 (.q (.cvi .u64 s6)),
 o 2 d8 (.q (.bin .and s7 (.v (.int .u64 (.ofNat 31))))),
 o 3 d5 (.q (.mv s8))])
 (.seq (.reg [o 0 d9 (.q (.mv s0)),
 o 1 d10 (.q (.mv s5)),
 o 2 d11 (.q (.shf true s9 s10)),
 o 3 d12 (.q (.mv s0)),
 o 4 d13 (.q (.mv s5)),
 o 5 d14 (.q (.bin .sub (.v (.int .u64 (.ofNat 32))) s13)),
 o 6 d15 (.q (.shf false s12 s14)),
 o 7 d16 (.q (.bin .or s11 s15)),
 o 8 d4 (.q (.mv s16))])
 .ret)))
 [.t p4]

noncomputable def f113 : FnE := .code 148
 (.seq (.reg [o 0 d10 (.q (.mv (.v (.bool true))))])
 (.seq (.reg [o 0 d11 (.q (.mv (.v (.bool true))))])
 (.blk 0 (.loop (.blk 1 (.seq (.reg [o 0 d21 (.q (.mv s2)),
 o 1 d22 (.q (.mv s1)),
 o 2 d23 (.q (.bin .sub s21 s22)),
 o 3 d12 (.q (.mv s23))])
 (.seq (.seq (.reg [o 0 d24 (.q (.mv s12)),
 o 1 d25 (.q (.bin .leq s24 (.v (.int .i64 (.ofNat 12)))))])
 (.cnd s25 (.seq (.reg [o 0 d26 (.q (.mv s0)),
 o 1 d27 (.q (.mv s1)),
 o 2 d28 (.q (.mv s2)),
 o 3 d29 (.q (.mv s4)),
 o 4 d30 (.call p126 [s26, s27, s28, s29])])
 .ret) .skip))
 (.seq (.seq (.reg [o 0 d31 (.q (.mv s3)),
 o 1 d32 (.q (.bin .eql s31 (.v (.int .i64 (.ofNat 0)))))])
 (.cnd s32 (.seq (.reg [o 0 d33 (.q (.mv s0)),
 o 1 d34 (.q (.mv s1)),
 o 2 d35 (.q (.mv s2)),
 o 3 d36 (.q (.mv s4)),
 o 4 d37 (.call p127 [s33, s34, s35, s36])])
 .ret) .skip))
 (.seq (.seq (.reg [o 0 d38 (.q (.mv s10)),
 o 1 d39 (.q (.not s38))])
 (.cnd s39 (.seq (.reg [o 0 d40 (.q (.mv s0)),
 o 1 d41 (.q (.mv s1)),
 o 2 d42 (.q (.mv s2)),
 o 3 d43 (.q (.mv s4)),
 o 4 d44 (.call p128 [s40, s41, s42, s43])])
 (.reg [o 0 d45 (.q (.mv s3)),
 o 1 d46 (.q (.bin .sub s45 (.v (.int .i64 (.ofNat 1))))),
 o 2 d3 (.q (.mv s46))])) .skip))
 (.seq (.reg [o 0 d48 (.q (.mv s0)),
 o 1 d49 (.q (.mv s1)),
 o 2 d50 (.q (.mv s2)),
 o 3 d51 (.q (.mv s4)),
 o 4 d52 (.call p129 [s48, s49, s50, s51]),
 o 5 d47 (.q (.mv s52)),
 o 6 d53 (.q (.ext s47 0)),
 o 7 d54 (.q (.ext s47 1)),
 o 8 d13 (.q (.mv s53)),
 o 9 d14 (.q (.mv s54))])
 (.seq (.seq (.reg [o 0 d55 (.q (.mv s14)),
 o 1 d56 (.q (.bin .eql s55 (.v (.int .i64 (.ofNat 2)))))])
 (.cnd s56 (.seq (.reg [o 0 d57 (.q (.mv s0)),
 o 1 d58 (.q (.mv s1)),
 o 2 d59 (.q (.mv s2)),
 o 3 d60 (.q (.mv s4)),
 o 4 d61 (.call p130 [s57, s58, s59, s60])])
 (.seq (.reg [o 0 d62 (.q (.mv s2)),
 o 1 d63 (.q (.bin .sub s62 (.v (.int .i64 (.ofNat 1))))),
 o 2 d64 (.q (.mv s13)),
 o 3 d65 (.q (.mv s1)),
 o 4 d66 (.q (.bin .sub s64 s65)),
 o 5 d67 (.q (.bin .sub s63 s66)),
 o 6 d13 (.q (.mv s67))])
 (.reg [o 0 d14 (.q (.mv (.v (.int .i64 (.ofNat 1)))))]))) .skip))
 (.seq (.seq (.reg [o 0 d68 (.q (.mv s10)),
 o 1 d69 (.q (.mv s68)),
 ⟨2, d70, (.q (.mv s11)), (some (p69, true)), []⟩,
 o 3 d71 (.q (.pick s69 s70 (.v (.bool false)))),
 o 4 d72 (.q (.mv s71)),
 ⟨5, d73, (.q (.mv s14)), (some (p72, true)), []⟩,
 ⟨6, d74, (.q (.bin .eql s73 (.v (.int .i64 (.ofNat 1))))), (some (p72, true)), []⟩,
 o 7 d75 (.q (.pick s72 s74 (.v (.bool false))))])
 (.cnd s75 (.seq (.reg [o 0 d76 (.q (.mv s0)),
 o 1 d77 (.q (.mv s1)),
 o 2 d78 (.q (.mv s2)),
 o 3 d79 (.q (.mv s4)),
 o 4 d80 (.call p131 [s76, s77, s78, s79])])
 (.cnd s80 .ret .skip)) .skip))
 (.seq (.seq (.rgd 0 [o 0 d81 (.q (.mv s1)),
 o 1 d82 (.q (.bin .gtr s81 (.v (.int .i64 (.ofNat 0))))),
 o 2 d83 (.q (.mv s82)),
 ⟨3, d84, (.q (.mv s4)), (some (p83, true)), []⟩,
 ⟨4, d85, (.q (.mv s0)), (some (p83, true)), []⟩,
 ⟨5, d86, (.q (.mv s1)), (some (p83, true)), []⟩,
 ⟨6, d87, (.q (.bin .sub s86 (.v (.int .i64 (.ofNat 1))))), (some (p83, true)), []⟩,
 ⟨7, d88, (.q (.iadr s85 s87 32)), (some (p83, true)), []⟩,
 ⟨8, d89, (.q (.ldn s88 32)), (some (p83, true)), []⟩,
 ⟨9, d90, (.q (.mv s0)), (some (p83, true)), []⟩,
 ⟨10, d91, (.q (.mv s13)), (some (p83, true)), []⟩,
 ⟨11, d92, (.q (.iadr s90 s91 32)), (some (p83, true)), []⟩,
 ⟨12, d93, (.q (.ldn s92 32)), (some (p83, true)), []⟩,
 ⟨13, d94, (.callv s84 [s89, s93]), (some (p83, true)), []⟩,
 ⟨14, d95, (.q (.bin .lss s94 (.v (.int .i64 (.ofNat 0))))), (some (p83, true)), []⟩,
 ⟨15, d96, (.q (.not s95)), (some (p83, true)), []⟩,
 o 16 d97 (.q (.pick s83 s96 (.v (.bool false))))])
 (.cnd s97 (.seq (.reg [o 0 d98 (.q (.mv s0)),
 o 1 d99 (.q (.mv s1)),
 o 2 d100 (.q (.mv s2)),
 o 3 d101 (.q (.mv s13)),
 o 4 d102 (.q (.mv s4)),
 o 5 d103 (.call p132 [s98, s99, s100, s101, s102]),
 o 6 d15 (.q (.mv s103))])
 (.seq (.reg [o 0 d104 (.q (.mv s15)),
 o 1 d1 (.q (.mv s104))])
 (.exit 1))) .skip))
 (.seq (.reg [o 0 d106 (.q (.mv s0)),
 o 1 d107 (.q (.mv s1)),
 o 2 d108 (.q (.mv s2)),
 o 3 d109 (.q (.mv s13)),
 o 4 d110 (.q (.mv s4)),
 o 5 d111 (.call p133 [s106, s107, s108, s109, s110]),
 o 6 d105 (.q (.mv s111)),
 o 7 d112 (.q (.ext s105 0)),
 o 8 d113 (.q (.ext s105 1)),
 o 9 d16 (.q (.mv s112)),
 o 10 d17 (.q (.mv s113))])
 (.seq (.reg [o 0 d114 (.q (.mv s17)),
 o 1 d11 (.q (.mv s114))])
 (.seq (.reg [o 0 d115 (.q (.mv s16)),
 o 1 d116 (.q (.mv s1)),
 o 2 d117 (.q (.bin .sub s115 s116)),
 o 3 d118 (.q (.mv s2)),
 o 4 d119 (.q (.mv s16)),
 o 5 d120 (.q (.bin .sub s118 s119)),
 o 6 d18 (.q (.mv s117)),
 o 7 d19 (.q (.mv s120))])
 (.seq (.reg [o 0 d121 (.q (.mv s12)),
 o 1 d122 (.q (.bin .quo s121 (.v (.int .i64 (.ofNat 8))))),
 o 2 d20 (.q (.mv s122))])
 (.seq (.reg [o 0 d123 (.q (.mv s18)),
 o 1 d124 (.q (.mv s19)),
 o 2 d125 (.q (.bin .lss s123 s124))])
 (.cnd s125 (.seq (.reg [o 0 d126 (.q (.mv s18)),
 o 1 d127 (.q (.mv s20)),
 o 2 d128 (.q (.bin .geq s126 s127)),
 o 3 d10 (.q (.mv s128))])
 (.seq (.reg [o 0 d129 (.q (.mv s0)),
 o 1 d130 (.q (.mv s1)),
 o 2 d131 (.q (.mv s16)),
 o 3 d132 (.q (.mv s3)),
 o 4 d133 (.q (.mv s4)),
 o 5 d134 (.call p113 [s129, s130, s131, s132, s133])])
 (.reg [o 0 d135 (.q (.mv s16)),
 o 1 d136 (.q (.bin .add s135 (.v (.int .i64 (.ofNat 1))))),
 o 2 d1 (.q (.mv s136))]))) (.seq (.reg [o 0 d137 (.q (.mv s19)),
 o 1 d138 (.q (.mv s20)),
 o 2 d139 (.q (.bin .geq s137 s138)),
 o 3 d10 (.q (.mv s139))])
 (.seq (.reg [o 0 d140 (.q (.mv s0)),
 o 1 d141 (.q (.mv s16)),
 o 2 d142 (.q (.bin .add s141 (.v (.int .i64 (.ofNat 1))))),
 o 3 d143 (.q (.mv s2)),
 o 4 d144 (.q (.mv s3)),
 o 5 d145 (.q (.mv s4)),
 o 6 d146 (.call p113 [s140, s142, s143, s144, s145])])
 (.reg [o 0 d147 (.q (.mv s16)),
 o 1 d2 (.q (.mv s147))]))))))))))))))))))))))
 []

noncomputable def f124 : FnE := .code 25
 (.seq (.reg [o 0 d2 (.q (.mv (.v (.int .i64 (.ofNat 0)))))])
 (.seq (.seq (.reg [o 0 d3 (.q (.mv s0)),
 o 1 d4 (.q (.bin .geq s3 (.v (.int .u64 (.ofNat 4294967296)))))])
 (.cnd s4 (.seq (.reg [o 0 d5 (.q (.mv s0)),
 o 1 d6 (.q (.shf false s5 (.v (.int .u64 (.ofNat 32))))),
 o 2 d0 (.q (.mv s6))])
 (.reg [o 0 d2 (.q (.mv (.v (.int .i64 (.ofNat 32)))))])) .skip))
 (.seq (.seq (.reg [o 0 d7 (.q (.mv s0)),
 o 1 d8 (.q (.bin .geq s7 (.v (.int .u64 (.ofNat 65536)))))])
 (.cnd s8 (.seq (.reg [o 0 d9 (.q (.mv s0)),
 o 1 d10 (.q (.shf false s9 (.v (.int .u64 (.ofNat 16))))),
 o 2 d0 (.q (.mv s10))])
 (.reg [o 0 d11 (.q (.mv s2)),
 o 1 d12 (.q (.bin .add s11 (.v (.int .i64 (.ofNat 16))))),
 o 2 d2 (.q (.mv s12))])) .skip))
 (.seq (.seq (.reg [o 0 d13 (.q (.mv s0)),
 o 1 d14 (.q (.bin .geq s13 (.v (.int .u64 (.ofNat 256)))))])
 (.cnd s14 (.seq (.reg [o 0 d15 (.q (.mv s0)),
 o 1 d16 (.q (.shf false s15 (.v (.int .u64 (.ofNat 8))))),
 o 2 d0 (.q (.mv s16))])
 (.reg [o 0 d17 (.q (.mv s2)),
 o 1 d18 (.q (.bin .add s17 (.v (.int .i64 (.ofNat 8))))),
 o 2 d2 (.q (.mv s18))])) .skip))
 (.seq (.reg [o 0 d19 (.q (.mv s2)),
 o 1 d20 (.q (.mv s0)),
 o 2 d21 (.q (.cvi .u8 s20)),
 o 3 d22 (.q (.idxs (.v (.str [0, 1, 2, 2, 3, 3, 3, 3, 4, 4, 4, 4, 4, 4, 4, 4, 5, 5, 5, 5, 5, 5, 5, 5, 5, 5, 5, 5, 5, 5, 5, 5, 6, 6, 6, 6, 6, 6, 6, 6, 6, 6, 6, 6, 6, 6, 6, 6, 6, 6, 6, 6, 6, 6, 6, 6, 6, 6, 6, 6, 6, 6, 6, 6, 7, 7, 7, 7, 7, 7, 7, 7, 7, 7, 7, 7, 7, 7, 7, 7, 7, 7, 7, 7, 7, 7, 7, 7, 7, 7, 7, 7, 7, 7, 7, 7, 7, 7, 7, 7, 7, 7, 7, 7, 7, 7, 7, 7, 7, 7, 7, 7, 7, 7, 7, 7, 7, 7, 7, 7, 7, 7, 7, 7, 7, 7, 7, 7, 8, 8, 8, 8, 8, 8, 8, 8, 8, 8, 8, 8, 8, 8, 8, 8, 8, 8, 8, 8, 8, 8, 8, 8, 8, 8, 8, 8, 8, 8, 8, 8, 8, 8, 8, 8, 8, 8, 8, 8, 8, 8, 8, 8, 8, 8, 8, 8, 8, 8, 8, 8, 8, 8, 8, 8, 8, 8, 8, 8, 8, 8, 8, 8, 8, 8, 8, 8, 8, 8, 8, 8, 8, 8, 8, 8, 8, 8, 8, 8, 8, 8, 8, 8, 8, 8, 8, 8, 8, 8, 8, 8, 8, 8, 8, 8, 8, 8, 8, 8, 8, 8, 8, 8, 8, 8, 8, 8, 8, 8, 8, 8, 8, 8, 8, 8, 8, 8, 8, 8, 8, 8, 8, 8, 8, 8, 8, 8])) s21)),
 o 4 d23 (.q (.cvi .i64 s22)),
 o 5 d24 (.q (.bin .add s19 s23)),
 o 6 d2 (.q (.mv s24))])
 .ret)))))
 [.t p2]

noncomputable def f126 : FnE := .code 53
 (.seq (.reg [o 0 d10 (.q (.mv s1)),
 o 1 d11 (.q (.bin .add s10 (.v (.int .i64 (.ofNat 1))))),
 o 2 d8 (.q (.mv s11))])
 (.blk 0 (.loop (.seq (.seq (.reg [o 0 d12 (.q (.mv s8)),
 o 1 d13 (.q (.mv s2)),
 o 2 d14 (.q (.bin .lss s12 s13))])
 (.cnd s14 .skip (.exit 0)))
 (.seq (.blk 1 (.seq (.reg [o 0 d17 (.q (.mv s8)),
 o 1 d9 (.q (.mv s17))])
 (.blk 2 (.loop (.seq (.seq (.rgd 0 [o 0 d18 (.q (.mv s9)),
 o 1 d19 (.q (.mv s1)),
 o 2 d20 (.q (.bin .gtr s18 s19)),
 o 3 d21 (.q (.mv s20)),
 ⟨4, d22, (.q (.mv s3)), (some (p21, true)), []⟩,
 ⟨5, d23, (.q (.mv s0)), (some (p21, true)), []⟩,
 ⟨6, d24, (.q (.mv s9)), (some (p21, true)), []⟩,
 ⟨7, d25, (.q (.iadr s23 s24 32)), (some (p21, true)), []⟩,
 ⟨8, d26, (.q (.ldn s25 32)), (some (p21, true)), []⟩,
 ⟨9, d27, (.q (.mv s0)), (some (p21, true)), []⟩,
 ⟨10, d28, (.q (.mv s9)), (some (p21, true)), []⟩,
 ⟨11, d29, (.q (.bin .sub s28 (.v (.int .i64 (.ofNat 1))))), (some (p21, true)), []⟩,
 ⟨12, d30, (.q (.iadr s27 s29 32)), (some (p21, true)), []⟩,
 ⟨13, d31, (.q (.ldn s30 32)), (some (p21, true)), []⟩,
 ⟨14, d32, (.callv s22 [s26, s31]), (some (p21, true)), []⟩,
 ⟨15, d33, (.q (.bin .lss s32 (.v (.int .i64 (.ofNat 0))))), (some (p21, true)), []⟩,
 o 16 d34 (.q (.pick s21 s33 (.v (.bool false))))])
 (.cnd s34 .skip (.exit 2)))
 (.seq (.blk 3 (.rgd 0 [o 0 d37 (.q (.mv s0)),
 o 1 d38 (.q (.mv s9)),
 o 2 d39 (.q (.mv s0)),
 o 3 d40 (.q (.mv s9)),
 o 4 d41 (.q (.bin .sub s40 (.v (.int .i64 (.ofNat 1))))),
 o 5 d42 (.q (.mv s0)),
 o 6 d43 (.q (.mv s9)),
 o 7 d44 (.q (.bin .sub s43 (.v (.int .i64 (.ofNat 1))))),
 o 8 d45 (.q (.iadr s42 s44 32)),
 o 9 d46 (.q (.ldn s45 32)),
 o 10 d47 (.q (.mv s0)),
 o 11 d48 (.q (.mv s9)),
 o 12 d49 (.q (.iadr s47 s48 32)),
 o 13 d50 (.q (.ldn s49 32)),
 o 14 d51 (.q (.iadr s37 s38 32)),
 o 15 none (.e (.st s51 s46 32)),
 o 16 d52 (.q (.iadr s39 s41 32)),
 o 17 none (.e (.st s52 s50 32))]))
 (.reg [o 0 d35 (.q (.mv s9)),
 o 1 d36 (.q (.bin .sub s35 (.v (.int .i64 (.ofNat 1))))),
 o 2 d9 (.q (.mv s36))])))))))
 (.reg [o 0 d15 (.q (.mv s8)),
 o 1 d16 (.q (.bin .add s15 (.v (.int .i64 (.ofNat 1))))),
 o 2 d8 (.q (.mv s16))]))))))
 []

noncomputable def f127 : FnE := .code 60
 (.seq (.reg [o 0 d13 (.q (.mv s1)),
 o 1 d8 (.q (.mv s13))])
 (.seq (.reg [o 0 d9 (.q (.mv (.v (.int .i64 (.ofNat 0)))))])
 (.seq (.reg [o 0 d14 (.q (.mv s2)),
 o 1 d15 (.q (.mv s1)),
 o 2 d16 (.q (.bin .sub s14 s15)),
 o 3 d10 (.q (.mv s16))])
 (.seq (.seq (.reg [o 0 d17 (.q (.mv s10)),
 o 1 d18 (.q (.bin .sub s17 (.v (.int .i64 (.ofNat 1))))),
 o 2 d19 (.q (.bin .quo s18 (.v (.int .i64 (.ofNat 2))))),
 o 3 d11 (.q (.mv s19))])
 (.blk 0 (.loop (.seq (.seq (.reg [o 0 d20 (.q (.mv s11)),
 o 1 d21 (.q (.bin .geq s20 (.v (.int .i64 (.ofNat 0)))))])
 (.cnd s21 .skip (.exit 0)))
 (.seq (.blk 1 (.reg [o 0 d24 (.q (.mv s0)),
 o 1 d25 (.q (.mv s11)),
 o 2 d26 (.q (.mv s10)),
 o 3 d27 (.q (.mv s8)),
 o 4 d28 (.q (.mv s3)),
 o 5 d29 (.call p139 [s24, s25, s26, s27, s28])]))
 (.reg [o 0 d22 (.q (.mv s11)),
 o 1 d23 (.q (.bin .sub s22 (.v (.int .i64 (.ofNat 1))))),
 o 2 d11 (.q (.mv s23))]))))))
 (.seq (.reg [o 0 d30 (.q (.mv s10)),
 o 1 d31 (.q (.bin .sub s30 (.v (.int .i64 (.ofNat 1))))),
 o 2 d12 (.q (.mv s31))])
 (.blk 2 (.loop (.seq (.seq (.reg [o 0 d32 (.q (.mv s12)),
 o 1 d33 (.q (.bin .geq s32 (.v (.int .i64 (.ofNat 0)))))])
 (.cnd s33 .skip (.exit 2)))
 (.seq (.blk 3 (.seq (.rgd 0 [o 0 d36 (.q (.mv s0)),
 o 1 d37 (.q (.mv s8)),
 o 2 d38 (.q (.mv s0)),
 o 3 d39 (.q (.mv s8)),
 o 4 d40 (.q (.mv s12)),
 o 5 d41 (.q (.bin .add s39 s40)),
 o 6 d42 (.q (.mv s0)),
 o 7 d43 (.q (.mv s8)),
 o 8 d44 (.q (.mv s12)),
 o 9 d45 (.q (.bin .add s43 s44)),
 o 10 d46 (.q (.iadr s42 s45 32)),
 o 11 d47 (.q (.ldn s46 32)),
 o 12 d48 (.q (.mv s0)),
 o 13 d49 (.q (.mv s8)),
 o 14 d50 (.q (.iadr s48 s49 32)),
 o 15 d51 (.q (.ldn s50 32)),
 o 16 d52 (.q (.iadr s36 s37 32)),
 o 17 none (.e (.st s52 s47 32)),
 o 18 d53 (.q (.iadr s38 s41 32)),
 o 19 none (.e (.st s53 s51 32))])
 (.reg [o 0 d54 (.q (.mv s0)),
 o 1 d55 (.q (.mv s9)),
 o 2 d56 (.q (.mv s12)),
 o 3 d57 (.q (.mv s8)),
 o 4 d58 (.q (.mv s3)),
 o 5 d59 (.call p139 [s54, s55, s56, s57, s58])])))
 (.reg [o 0 d34 (.q (.mv s12)),
 o 1 d35 (.q (.bin .sub s34 (.v (.int .i64 (.ofNat 1))))),
 o 2 d12 (.q (.mv s35))]))))))))))
 []

noncomputable def f128 : FnE := .code 67
 (.seq (.reg [o 0 d13 (.q (.mv s2)),
 o 1 d14 (.q (.mv s1)),
 o 2 d15 (.q (.bin .sub s13 s14)),
 o 3 d8 (.q (.mv s15))])
 (.seq (.reg [o 0 d16 (.q (.mv s8)),
 o 1 d17 (.q (.bin .geq s16 (.v (.int .i64 (.ofNat 8)))))])
 (.cnd s17 (.seq (.reg [o 0 d18 (.q (.mv s8)),
 o 1 d19 (.q (.cvi .u64 s18)),
 o 2 d9 (.e (.alo [(.int .u64 (.ofNat 0))])),
 o 3 none (.e (.st s9 s19 1))])
 (.seq (.reg [o 0 d20 (.q (.mv s8)),
 o 1 d21 (.call p135 [s20]),
 o 2 d10 (.q (.mv s21))])
 (.seq (.reg [o 0 d22 (.q (.mv s1)),
 o 1 d23 (.q (.mv s8)),
 o 2 d24 (.q (.bin .quo s23 (.v (.int .i64 (.ofNat 4))))),
 o 3 d25 (.q (.bin .mul s24 (.v (.int .i64 (.ofNat 2))))),
 o 4 d26 (.q (.bin .add s22 s25)),
 o 5 d27 (.q (.bin .sub s26 (.v (.int .i64 (.ofNat 1))))),
 o 6 d11 (.q (.mv s27))])
 (.blk 0 (.loop (.seq (.seq (.reg [o 0 d28 (.q (.mv s11)),
 o 1 d29 (.q (.mv s1)),
 o 2 d30 (.q (.mv s8)),
 o 3 d31 (.q (.bin .quo s30 (.v (.int .i64 (.ofNat 4))))),
 o 4 d32 (.q (.bin .mul s31 (.v (.int .i64 (.ofNat 2))))),
 o 5 d33 (.q (.bin .add s29 s32)),
 o 6 d34 (.q (.bin .add s33 (.v (.int .i64 (.ofNat 1))))),
 o 7 d35 (.q (.bin .leq s28 s34))])
 (.cnd s35 .skip (.exit 0)))
 (.seq (.blk 1 (.seq (.reg [o 0 d38 (.call p136 [s9]),
 o 1 d39 (.q (.mv s10)),
 o 2 d40 (.q (.bin .sub s39 (.v (.int .u64 (.ofNat 1))))),
 o 3 d41 (.q (.bin .and s38 s40)),
 o 4 d42 (.q (.cvi .i64 s41)),
 o 5 d12 (.q (.mv s42))])
 (.seq (.seq (.reg [o 0 d43 (.q (.mv s12)),
 o 1 d44 (.q (.mv s8)),
 o 2 d45 (.q (.bin .geq s43 s44))])
 (.cnd s45 (.reg [o 0 d46 (.q (.mv s12)),
 o 1 d47 (.q (.mv s8)),
 o 2 d48 (.q (.bin .sub s46 s47)),
 o 3 d12 (.q (.mv s48))]) .skip))
 (.rgd 0 [o 0 d49 (.q (.mv s0)),
 o 1 d50 (.q (.mv s11)),
 o 2 d51 (.q (.mv s0)),
 o 3 d52 (.q (.mv s1)),
 o 4 d53 (.q (.mv s12)),
 o 5 d54 (.q (.bin .add s52 s53)),
 o 6 d55 (.q (.mv s0)),
 o 7 d56 (.q (.mv s1)),
 o 8 d57 (.q (.mv s12)),
 o 9 d58 (.q (.bin .add s56 s57)),
 o 10 d59 (.q (.iadr s55 s58 32)),
 o 11 d60 (.q (.ldn s59 32)),
 o 12 d61 (.q (.mv s0)),
 o 13 d62 (.q (.mv s11)),
 o 14 d63 (.q (.iadr s61 s62 32)),
 o 15 d64 (.q (.ldn s63 32)),
 o 16 d65 (.q (.iadr s49 s50 32)),
 o 17 none (.e (.st s65 s60 32)),
 o 18 d66 (.q (.iadr s51 s54 32)),
 o 19 none (.e (.st s66 s64 32))]))))
 (.reg [o 0 d36 (.q (.mv s11)),
 o 1 d37 (.q (.bin .add s36 (.v (.int .i64 (.ofNat 1))))),
 o 2 d11 (.q (.mv s37))])))))))) .skip)))
 []

noncomputable def f129 : FnE := .code 63
 (.seq (.reg [o 0 d8 (.q (.mv (.v (.int .i64 (.ofNat 0))))),
 o 1 d9 (.q (.mv (.v (.int .i64 (.ofNat 0)))))])
 (.seq (.reg [o 0 d15 (.q (.mv s2)),
 o 1 d16 (.q (.mv s1)),
 o 2 d17 (.q (.bin .sub s15 s16)),
 o 3 d10 (.q (.mv s17))])
 (.seq (.reg [o 0 d11 (.e (.alo [(.int .i64 (.ofNat 0))]))])
 (.seq (.reg [o 0 d18 (.q (.mv s1)),
 o 1 d19 (.q (.mv s10)),
 o 2 d20 (.q (.bin .quo s19 (.v (.int .i64 (.ofNat 4))))),
 o 3 d21 (.q (.bin .mul s20 (.v (.int .i64 (.ofNat 1))))),
 o 4 d22 (.q (.bin .add s18 s21)),
 o 5 d12 (.q (.mv s22))])
 (.seq (.reg [o 0 d23 (.q (.mv s1)),
 o 1 d24 (.q (.mv s10)),
 o 2 d25 (.q (.bin .quo s24 (.v (.int .i64 (.ofNat 4))))),
 o 3 d26 (.q (.bin .mul s25 (.v (.int .i64 (.ofNat 2))))),
 o 4 d27 (.q (.bin .add s23 s26)),
 o 5 d13 (.q (.mv s27))])
 (.seq (.reg [o 0 d28 (.q (.mv s1)),
 o 1 d29 (.q (.mv s10)),
 o 2 d30 (.q (.bin .quo s29 (.v (.int .i64 (.ofNat 4))))),
 o 3 d31 (.q (.bin .mul s30 (.v (.int .i64 (.ofNat 3))))),
 o 4 d32 (.q (.bin .add s28 s31)),
 o 5 d14 (.q (.mv s32))])
 (.seq (.seq (.reg [o 0 d33 (.q (.mv s10)),
 o 1 d34 (.q (.bin .geq s33 (.v (.int .i64 (.ofNat 8)))))])
 (.cnd s34 (.seq (.seq (.reg [o 0 d35 (.q (.mv s10)),
 o 1 d36 (.q (.bin .geq s35 (.v (.int .i64 (.ofNat 50)))))])
 (.cnd s36 (.seq (.reg [o 0 d37 (.q (.mv s0)),
 o 1 d38 (.q (.mv s12)),
 o 2 d39 (.q (.mv s3)),
 o 3 d40 (.call p140 [s37, s38, s11, s39]),
 o 4 d12 (.q (.mv s40))])
 (.seq (.reg [o 0 d41 (.q (.mv s0)),
 o 1 d42 (.q (.mv s13)),
 o 2 d43 (.q (.mv s3)),
 o 3 d44 (.call p140 [s41, s42, s11, s43]),
 o 4 d13 (.q (.mv s44))])
 (.reg [o 0 d45 (.q (.mv s0)),
 o 1 d46 (.q (.mv s14)),
 o 2 d47 (.q (.mv s3)),
 o 3 d48 (.call p140 [s45, s46, s11, s47]),
 o 4 d14 (.q (.mv s48))]))) .skip))
 (.reg [o 0 d49 (.q (.mv s0)),
 o 1 d50 (.q (.mv s12)),
 o 2 d51 (.q (.mv s13)),
 o 3 d52 (.q (.mv s14)),
 o 4 d53 (.q (.mv s3)),
 o 5 d54 (.call p141 [s49, s50, s51, s52, s11, s53]),
 o 6 d13 (.q (.mv s54))])) .skip))
 (.seq (.reg [o 0 d55 (.q (.ld1 s11))])
 (.blk 0 (.seq (.reg [o 0 d58 (.q (.bin .eql s55 (.v (.int .i64 (.ofNat 0))))),
 o 1 d57 (.q (.mv s58))])
 (.cnd s57 (.seq (.reg [o 0 d59 (.q (.mv s13)),
 o 1 d8 (.q (.mv s59)),
 o 2 d9 (.q (.mv (.v (.int .i64 (.ofNat 1)))))])
 .ret) (.seq (.reg [o 0 d61 (.q (.bin .eql s55 (.v (.int .i64 (.ofNat 12))))),
 o 1 d60 (.q (.mv s61))])
 (.cnd s60 (.seq (.reg [o 0 d62 (.q (.mv s13)),
 o 1 d8 (.q (.mv s62)),
 o 2 d9 (.q (.mv (.v (.int .i64 (.ofNat 2)))))])
 .ret) (.seq (.reg [o 0 d56 (.q (.mv s13)),
 o 1 d8 (.q (.mv s56)),
 o 2 d9 (.q (.mv (.v (.int .i64 (.ofNat 0)))))])
 .ret))))))))))))))
 [.t p8, .t p9]

noncomputable def f130 : FnE := .code 34
 (.seq (.reg [o 0 d10 (.q (.mv s1)),
 o 1 d8 (.q (.mv s10))])
 (.seq (.reg [o 0 d11 (.q (.mv s2)),
 o 1 d12 (.q (.bin .sub s11 (.v (.int .i64 (.ofNat 1))))),
 o 2 d9 (.q (.mv s12))])
 (.blk 0 (.loop (.seq (.seq (.reg [o 0 d13 (.q (.mv s8)),
 o 1 d14 (.q (.mv s9)),
 o 2 d15 (.q (.bin .lss s13 s14))])
 (.cnd s15 .skip (.exit 0)))
 (.blk 1 (.seq (.rgd 0 [o 0 d16 (.q (.mv s0)),
 o 1 d17 (.q (.mv s8)),
 o 2 d18 (.q (.mv s0)),
 o 3 d19 (.q (.mv s9)),
 o 4 d20 (.q (.mv s0)),
 o 5 d21 (.q (.mv s9)),
 o 6 d22 (.q (.iadr s20 s21 32)),
 o 7 d23 (.q (.ldn s22 32)),
 o 8 d24 (.q (.mv s0)),
 o 9 d25 (.q (.mv s8)),
 o 10 d26 (.q (.iadr s24 s25 32)),
 o 11 d27 (.q (.ldn s26 32)),
 o 12 d28 (.q (.iadr s16 s17 32)),
 o 13 none (.e (.st s28 s23 32)),
 o 14 d29 (.q (.iadr s18 s19 32)),
 o 15 none (.e (.st s29 s27 32))])
 (.seq (.reg [o 0 d30 (.q (.mv s8)),
 o 1 d31 (.q (.bin .add s30 (.v (.int .i64 (.ofNat 1))))),
 o 2 d8 (.q (.mv s31))])
 (.reg [o 0 d32 (.q (.mv s9)),
 o 1 d33 (.q (.bin .sub s32 (.v (.int .i64 (.ofNat 1))))),
 o 2 d9 (.q (.mv s33))])))))))))
 []

noncomputable def f131 : FnE := .code 141
 (.seq (.reg [o 0 d8 (.q (.mv (.v (.bool false))))])
 (.seq (.reg [o 0 d13 (.q (.mv s1)),
 o 1 d14 (.q (.bin .add s13 (.v (.int .i64 (.ofNat 1))))),
 o 2 d9 (.q (.mv s14))])
 (.seq (.seq (.reg [o 0 d10 (.q (.mv (.v (.int .i64 (.ofNat 0)))))])
 (.blk 0 (.loop (.seq (.seq (.reg [o 0 d15 (.q (.mv s10)),
 o 1 d16 (.q (.bin .lss s15 (.v (.int .i64 (.ofNat 5)))))])
 (.cnd s16 .skip (.exit 0)))
 (.seq (.blk 1 (.seq (.blk 2 (.loop (.seq (.seq (.rgd 0 [o 0 d19 (.q (.mv s9)),
 o 1 d20 (.q (.mv s2)),
 o 2 d21 (.q (.bin .lss s19 s20)),
 o 3 d22 (.q (.mv s21)),
 ⟨4, d23, (.q (.mv s3)), (some (p22, true)), []⟩,
 ⟨5, d24, (.q (.mv s0)), (some (p22, true)), []⟩,
 ⟨6, d25, (.q (.mv s9)), (some (p22, true)), []⟩,
 ⟨7, d26, (.q (.iadr s24 s25 32)), (some (p22, true)), []⟩,
 ⟨8, d27, (.q (.ldn s26 32)), (some (p22, true)), []⟩,
 ⟨9, d28, (.q (.mv s0)), (some (p22, true)), []⟩,
 ⟨10, d29, (.q (.mv s9)), (some (p22, true)), []⟩,
 ⟨11, d30, (.q (.bin .sub s29 (.v (.int .i64 (.ofNat 1))))), (some (p22, true)), []⟩,
 ⟨12, d31, (.q (.iadr s28 s30 32)), (some (p22, true)), []⟩,
 ⟨13, d32, (.q (.ldn s31 32)), (some (p22, true)), []⟩,
 ⟨14, d33, (.callv s23 [s27, s32]), (some (p22, true)), []⟩,
 ⟨15, d34, (.q (.bin .lss s33 (.v (.int .i64 (.ofNat 0))))), (some (p22, true)), []⟩,
 ⟨16, d35, (.q (.not s34)), (some (p22, true)), []⟩,
 o 17 d36 (.q (.pick s22 s35 (.v (.bool false))))])
 (.cnd s36 .skip (.exit 2)))
 (.blk 3 (.reg [o 0 d37 (.q (.mv s9)),
 o 1 d38 (.q (.bin .add s37 (.v (.int .i64 (.ofNat 1))))),
 o 2 d9 (.q (.mv s38))])))))
 (.seq (.seq (.reg [o 0 d39 (.q (.mv s9)),
 o 1 d40 (.q (.mv s2)),
 o 2 d41 (.q (.bin .eql s39 s40))])
 (.cnd s41 (.seq (.reg [o 0 d8 (.q (.mv (.v (.bool true))))])
 .ret) .skip))
 (.seq (.seq (.reg [o 0 d42 (.q (.mv s2)),
 o 1 d43 (.q (.mv s1)),
 o 2 d44 (.q (.bin .sub s42 s43)),
 o 3 d45 (.q (.bin .lss s44 (.v (.int .i64 (.ofNat 50)))))])
 (.cnd s45 (.seq (.reg [o 0 d8 (.q (.mv (.v (.bool false))))])
 .ret) .skip))
 (.seq (.rgd 0 [o 0 d46 (.q (.mv s0)),
 o 1 d47 (.q (.mv s9)),
 o 2 d48 (.q (.mv s0)),
 o 3 d49 (.q (.mv s9)),
 o 4 d50 (.q (.bin .sub s49 (.v (.int .i64 (.ofNat 1))))),
 o 5 d51 (.q (.mv s0)),
 o 6 d52 (.q (.mv s9)),
 o 7 d53 (.q (.bin .sub s52 (.v (.int .i64 (.ofNat 1))))),
 o 8 d54 (.q (.iadr s51 s53 32)),
 o 9 d55 (.q (.ldn s54 32)),
 o 10 d56 (.q (.mv s0)),
 o 11 d57 (.q (.mv s9)),
 o 12 d58 (.q (.iadr s56 s57 32)),
 o 13 d59 (.q (.ldn s58 32)),
 o 14 d60 (.q (.iadr s46 s47 32)),
 o 15 none (.e (.st s60 s55 32)),
 o 16 d61 (.q (.iadr s48 s50 32)),
 o 17 none (.e (.st s61 s59 32))])
 (.seq (.seq (.reg [o 0 d62 (.q (.mv s9)),
 o 1 d63 (.q (.mv s1)),
 o 2 d64 (.q (.bin .sub s62 s63)),
 o 3 d65 (.q (.bin .geq s64 (.v (.int .i64 (.ofNat 2)))))])
 (.cnd s65 (.seq (.reg [o 0 d66 (.q (.mv s9)),
 o 1 d67 (.q (.bin .sub s66 (.v (.int .i64 (.ofNat 1))))),
 o 2 d11 (.q (.mv s67))])
 (.blk 4 (.loop (.seq (.seq (.reg [o 0 d68 (.q (.mv s11)),
 o 1 d69 (.q (.bin .geq s68 (.v (.int .i64 (.ofNat 1)))))])
 (.cnd s69 .skip (.exit 4)))
 (.seq (.blk 5 (.seq (.seq (.rgd 0 [o 0 d72 (.q (.mv s3)),
 o 1 d73 (.q (.mv s0)),
 o 2 d74 (.q (.mv s11)),
 o 3 d75 (.q (.iadr s73 s74 32)),
 o 4 d76 (.q (.ldn s75 32)),
 o 5 d77 (.q (.mv s0)),
 o 6 d78 (.q (.mv s11)),
 o 7 d79 (.q (.bin .sub s78 (.v (.int .i64 (.ofNat 1))))),
 o 8 d80 (.q (.iadr s77 s79 32)),
 o 9 d81 (.q (.ldn s80 32)),
 o 10 d82 (.callv s72 [s76, s81]),
 o 11 d83 (.q (.bin .lss s82 (.v (.int .i64 (.ofNat 0))))),
 o 12 d84 (.q (.not s83))])
 (.cnd s84 (.exit 4) .skip))
 (.rgd 0 [o 0 d85 (.q (.mv s0)),
 o 1 d86 (.q (.mv s11)),
 o 2 d87 (.q (.mv s0)),
 o 3 d88 (.q (.mv s11)),
 o 4 d89 (.q (.bin .sub s88 (.v (.int .i64 (.ofNat 1))))),
 o 5 d90 (.q (.mv s0)),
 o 6 d91 (.q (.mv s11)),
 o 7 d92 (.q (.bin .sub s91 (.v (.int .i64 (.ofNat 1))))),
 o 8 d93 (.q (.iadr s90 s92 32)),
 o 9 d94 (.q (.ldn s93 32)),
 o 10 d95 (.q (.mv s0)),
 o 11 d96 (.q (.mv s11)),
 o 12 d97 (.q (.iadr s95 s96 32)),
 o 13 d98 (.q (.ldn s97 32)),
 o 14 d99 (.q (.iadr s85 s86 32)),
 o 15 none (.e (.st s99 s94 32)),
 o 16 d100 (.q (.iadr s87 s89 32)),
 o 17 none (.e (.st s100 s98 32))])))
 (.reg [o 0 d70 (.q (.mv s11)),
 o 1 d71 (.q (.bin .sub s70 (.v (.int .i64 (.ofNat 1))))),
 o 2 d11 (.q (.mv s71))])))))) .skip))
 (.seq (.reg [o 0 d101 (.q (.mv s2)),
 o 1 d102 (.q (.mv s9)),
 o 2 d103 (.q (.bin .sub s101 s102)),
 o 3 d104 (.q (.bin .geq s103 (.v (.int .i64 (.ofNat 2)))))])
 (.cnd s104 (.seq (.reg [o 0 d105 (.q (.mv s9)),
 o 1 d106 (.q (.bin .add s105 (.v (.int .i64 (.ofNat 1))))),
 o 2 d12 (.q (.mv s106))])
 (.blk 6 (.loop (.seq (.seq (.reg [o 0 d107 (.q (.mv s12)),
 o 1 d108 (.q (.mv s2)),
 o 2 d109 (.q (.bin .lss s107 s108))])
 (.cnd s109 .skip (.exit 6)))
 (.seq (.blk 7 (.seq (.seq (.rgd 0 [o 0 d112 (.q (.mv s3)),
 o 1 d113 (.q (.mv s0)),
 o 2 d114 (.q (.mv s12)),
 o 3 d115 (.q (.iadr s113 s114 32)),
 o 4 d116 (.q (.ldn s115 32)),
 o 5 d117 (.q (.mv s0)),
 o 6 d118 (.q (.mv s12)),
 o 7 d119 (.q (.bin .sub s118 (.v (.int .i64 (.ofNat 1))))),
 o 8 d120 (.q (.iadr s117 s119 32)),
 o 9 d121 (.q (.ldn s120 32)),
 o 10 d122 (.callv s112 [s116, s121]),
 o 11 d123 (.q (.bin .lss s122 (.v (.int .i64 (.ofNat 0))))),
 o 12 d124 (.q (.not s123))])
 (.cnd s124 (.exit 6) .skip))
 (.rgd 0 [o 0 d125 (.q (.mv s0)),
 o 1 d126 (.q (.mv s12)),
 o 2 d127 (.q (.mv s0)),
 o 3 d128 (.q (.mv s12)),
 o 4 d129 (.q (.bin .sub s128 (.v (.int .i64 (.ofNat 1))))),
 o 5 d130 (.q (.mv s0)),
 o 6 d131 (.q (.mv s12)),
 o 7 d132 (.q (.bin .sub s131 (.v (.int .i64 (.ofNat 1))))),
 o 8 d133 (.q (.iadr s130 s132 32)),
 o 9 d134 (.q (.ldn s133 32)),
 o 10 d135 (.q (.mv s0)),
 o 11 d136 (.q (.mv s12)),
 o 12 d137 (.q (.iadr s135 s136 32)),
 o 13 d138 (.q (.ldn s137 32)),
 o 14 d139 (.q (.iadr s125 s126 32)),
 o 15 none (.e (.st s139 s134 32)),
 o 16 d140 (.q (.iadr s127 s129 32)),
 o 17 none (.e (.st s140 s138 32))])))
 (.reg [o 0 d110 (.q (.mv s12)),
 o 1 d111 (.q (.bin .add s110 (.v (.int .i64 (.ofNat 1))))),
 o 2 d12 (.q (.mv s111))])))))) .skip))))))))
 (.reg [o 0 d17 (.q (.mv s10)),
 o 1 d18 (.q (.bin .add s17 (.v (.int .i64 (.ofNat 1))))),
 o 2 d10 (.q (.mv s18))]))))))
 (.seq (.reg [o 0 d8 (.q (.mv (.v (.bool false))))])
 .ret))))
 [.t p8]

noncomputable def f132 : FnE := .code 90
 (.seq (.reg [o 0 d10 (.q (.mv (.v (.int .i64 (.ofNat 0)))))])
 (.seq (.rgd 0 [o 0 d13 (.q (.mv s0)),
 o 1 d14 (.q (.mv s1)),
 o 2 d15 (.q (.mv s0)),
 o 3 d16 (.q (.mv s3)),
 o 4 d17 (.q (.mv s0)),
 o 5 d18 (.q (.mv s3)),
 o 6 d19 (.q (.iadr s17 s18 32)),
 o 7 d20 (.q (.ldn s19 32)),
 o 8 d21 (.q (.mv s0)),
 o 9 d22 (.q (.mv s1)),
 o 10 d23 (.q (.iadr s21 s22 32)),
 o 11 d24 (.q (.ldn s23 32)),
 o 12 d25 (.q (.iadr s13 s14 32)),
 o 13 none (.e (.st s25 s20 32)),
 o 14 d26 (.q (.iadr s15 s16 32)),
 o 15 none (.e (.st s26 s24 32))])
 (.seq (.reg [o 0 d27 (.q (.mv s1)),
 o 1 d28 (.q (.bin .add s27 (.v (.int .i64 (.ofNat 1))))),
 o 2 d29 (.q (.mv s2)),
 o 3 d30 (.q (.bin .sub s29 (.v (.int .i64 (.ofNat 1))))),
 o 4 d11 (.q (.mv s28)),
 o 5 d12 (.q (.mv s30))])
 (.seq (.blk 0 (.loop (.blk 1 (.seq (.blk 2 (.loop (.seq (.seq (.rgd 0 [o 0 d31 (.q (.mv s11)),
 o 1 d32 (.q (.mv s12)),
 o 2 d33 (.q (.bin .leq s31 s32)),
 o 3 d34 (.q (.mv s33)),
 ⟨4, d35, (.q (.mv s4)), (some (p34, true)), []⟩,
 ⟨5, d36, (.q (.mv s0)), (some (p34, true)), []⟩,
 ⟨6, d37, (.q (.mv s1)), (some (p34, true)), []⟩,
 ⟨7, d38, (.q (.iadr s36 s37 32)), (some (p34, true)), []⟩,
 ⟨8, d39, (.q (.ldn s38 32)), (some (p34, true)), []⟩,
 ⟨9, d40, (.q (.mv s0)), (some (p34, true)), []⟩,
 ⟨10, d41, (.q (.mv s11)), (some (p34, true)), []⟩,
 ⟨11, d42, (.q (.iadr s40 s41 32)), (some (p34, true)), []⟩,
 ⟨12, d43, (.q (.ldn s42 32)), (some (p34, true)), []⟩,
 ⟨13, d44, (.callv s35 [s39, s43]), (some (p34, true)), []⟩,
 ⟨14, d45, (.q (.bin .lss s44 (.v (.int .i64 (.ofNat 0))))), (some (p34, true)), []⟩,
 ⟨15, d46, (.q (.not s45)), (some (p34, true)), []⟩,
 o 16 d47 (.q (.pick s34 s46 (.v (.bool false))))])
 (.cnd s47 .skip (.exit 2)))
 (.blk 3 (.reg [o 0 d48 (.q (.mv s11)),
 o 1 d49 (.q (.bin .add s48 (.v (.int .i64 (.ofNat 1))))),
 o 2 d11 (.q (.mv s49))])))))
 (.seq (.blk 4 (.loop (.seq (.seq (.rgd 0 [o 0 d50 (.q (.mv s11)),
 o 1 d51 (.q (.mv s12)),
 o 2 d52 (.q (.bin .leq s50 s51)),
 o 3 d53 (.q (.mv s52)),
 ⟨4, d54, (.q (.mv s4)), (some (p53, true)), []⟩,
 ⟨5, d55, (.q (.mv s0)), (some (p53, true)), []⟩,
 ⟨6, d56, (.q (.mv s1)), (some (p53, true)), []⟩,
 ⟨7, d57, (.q (.iadr s55 s56 32)), (some (p53, true)), []⟩,
 ⟨8, d58, (.q (.ldn s57 32)), (some (p53, true)), []⟩,
 ⟨9, d59, (.q (.mv s0)), (some (p53, true)), []⟩,
 ⟨10, d60, (.q (.mv s12)), (some (p53, true)), []⟩,
 ⟨11, d61, (.q (.iadr s59 s60 32)), (some (p53, true)), []⟩,
 ⟨12, d62, (.q (.ldn s61 32)), (some (p53, true)), []⟩,
 ⟨13, d63, (.callv s54 [s58, s62]), (some (p53, true)), []⟩,
 ⟨14, d64, (.q (.bin .lss s63 (.v (.int .i64 (.ofNat 0))))), (some (p53, true)), []⟩,
 o 15 d65 (.q (.pick s53 s64 (.v (.bool false))))])
 (.cnd s65 .skip (.exit 4)))
 (.blk 5 (.reg [o 0 d66 (.q (.mv s12)),
 o 1 d67 (.q (.bin .sub s66 (.v (.int .i64 (.ofNat 1))))),
 o 2 d12 (.q (.mv s67))])))))
 (.seq (.seq (.reg [o 0 d68 (.q (.mv s11)),
 o 1 d69 (.q (.mv s12)),
 o 2 d70 (.q (.bin .gtr s68 s69))])
 (.cnd s70 (.exit 0) .skip))
 (.seq (.rgd 0 [o 0 d71 (.q (.mv s0)),
 o 1 d72 (.q (.mv s11)),
 o 2 d73 (.q (.mv s0)),
 o 3 d74 (.q (.mv s12)),
 o 4 d75 (.q (.mv s0)),
 o 5 d76 (.q (.mv s12)),
 o 6 d77 (.q (.iadr s75 s76 32)),
 o 7 d78 (.q (.ldn s77 32)),
 o 8 d79 (.q (.mv s0)),
 o 9 d80 (.q (.mv s11)),
 o 10 d81 (.q (.iadr s79 s80 32)),
 o 11 d82 (.q (.ldn s81 32)),
 o 12 d83 (.q (.iadr s71 s72 32)),
 o 13 none (.e (.st s83 s78 32)),
 o 14 d84 (.q (.iadr s73 s74 32)),
 o 15 none (.e (.st s84 s82 32))])
 (.seq (.reg [o 0 d85 (.q (.mv s11)),
 o 1 d86 (.q (.bin .add s85 (.v (.int .i64 (.ofNat 1))))),
 o 2 d11 (.q (.mv s86))])
 (.reg [o 0 d87 (.q (.mv s12)),
 o 1 d88 (.q (.bin .sub s87 (.v (.int .i64 (.ofNat 1))))),
 o 2 d12 (.q (.mv s88))])))))))))
 (.seq (.reg [o 0 d89 (.q (.mv s11)),
 o 1 d10 (.q (.mv s89))])
 .ret)))))
 [.t p10]

noncomputable def f133 : FnE := .code 178
 (.seq (.reg [o 0 d10 (.q (.mv (.v (.int .i64 (.ofNat 0))))),
 o 1 d11 (.q (.mv (.v (.bool false))))])
 (.seq (.rgd 0 [o 0 d14 (.q (.mv s0)),
 o 1 d15 (.q (.mv s1)),
 o 2 d16 (.q (.mv s0)),
 o 3 d17 (.q (.mv s3)),
 o 4 d18 (.q (.mv s0)),
 o 5 d19 (.q (.mv s3)),
 o 6 d20 (.q (.iadr s18 s19 32)),
 o 7 d21 (.q (.ldn s20 32)),
 o 8 d22 (.q (.mv s0)),
 o 9 d23 (.q (.mv s1)),
 o 10 d24 (.q (.iadr s22 s23 32)),
 o 11 d25 (.q (.ldn s24 32)),
 o 12 d26 (.q (.iadr s14 s15 32)),
 o 13 none (.e (.st s26 s21 32)),
 o 14 d27 (.q (.iadr s16 s17 32)),
 o 15 none (.e (.st s27 s25 32))])
 (.seq (.reg [o 0 d28 (.q (.mv s1)),
 o 1 d29 (.q (.bin .add s28 (.v (.int .i64 (.ofNat 1))))),
 o 2 d30 (.q (.mv s2)),
 o 3 d31 (.q (.bin .sub s30 (.v (.int .i64 (.ofNat 1))))),
 o 4 d12 (.q (.mv s29)),
 o 5 d13 (.q (.mv s31))])
 (.seq (.blk 0 (.loop (.seq (.seq (.rgd 0 [o 0 d32 (.q (.mv s12)),
 o 1 d33 (.q (.mv s13)),
 o 2 d34 (.q (.bin .leq s32 s33)),
 o 3 d35 (.q (.mv s34)),
 ⟨4, d36, (.q (.mv s4)), (some (p35, true)), []⟩,
 ⟨5, d37, (.q (.mv s0)), (some (p35, true)), []⟩,
 ⟨6, d38, (.q (.mv s12)), (some (p35, true)), []⟩,
 ⟨7, d39, (.q (.iadr s37 s38 32)), (some (p35, true)), []⟩,
 ⟨8, d40, (.q (.ldn s39 32)), (some (p35, true)), []⟩,
 ⟨9, d41, (.q (.mv s0)), (some (p35, true)), []⟩,
 ⟨10, d42, (.q (.mv s1)), (some (p35, true)), []⟩,
 ⟨11, d43, (.q (.iadr s41 s42 32)), (some (p35, true)), []⟩,
 ⟨12, d44, (.q (.ldn s43 32)), (some (p35, true)), []⟩,
 ⟨13, d45, (.callv s36 [s40, s44]), (some (p35, true)), []⟩,
 ⟨14, d46, (.q (.bin .lss s45 (.v (.int .i64 (.ofNat 0))))), (some (p35, true)), []⟩,
 o 15 d47 (.q (.pick s35 s46 (.v (.bool false))))])
 (.cnd s47 .skip (.exit 0)))
 (.blk 1 (.reg [o 0 d48 (.q (.mv s12)),
 o 1 d49 (.q (.bin .add s48 (.v (.int .i64 (.ofNat 1))))),
 o 2 d12 (.q (.mv s49))])))))
 (.seq (.blk 2 (.loop (.seq (.seq (.rgd 0 [o 0 d50 (.q (.mv s12)),
 o 1 d51 (.q (.mv s13)),
 o 2 d52 (.q (.bin .leq s50 s51)),
 o 3 d53 (.q (.mv s52)),
 ⟨4, d54, (.q (.mv s4)), (some (p53, true)), []⟩,
 ⟨5, d55, (.q (.mv s0)), (some (p53, true)), []⟩,
 ⟨6, d56, (.q (.mv s13)), (some (p53, true)), []⟩,
 ⟨7, d57, (.q (.iadr s55 s56 32)), (some (p53, true)), []⟩,
 ⟨8, d58, (.q (.ldn s57 32)), (some (p53, true)), []⟩,
 ⟨9, d59, (.q (.mv s0)), (some (p53, true)), []⟩,
 ⟨10, d60, (.q (.mv s1)), (some (p53, true)), []⟩,
 ⟨11, d61, (.q (.iadr s59 s60 32)), (some (p53, true)), []⟩,
 ⟨12, d62, (.q (.ldn s61 32)), (some (p53, true)), []⟩,
 ⟨13, d63, (.callv s54 [s58, s62]), (some (p53, true)), []⟩,
 ⟨14, d64, (.q (.bin .lss s63 (.v (.int .i64 (.ofNat 0))))), (some (p53, true)), []⟩,
 ⟨15, d65, (.q (.not s64)), (some (p53, true)), []⟩,
 o 16 d66 (.q (.pick s53 s65 (.v (.bool false))))])
 (.cnd s66 .skip (.exit 2)))
 (.blk 3 (.reg [o 0 d67 (.q (.mv s13)),
 o 1 d68 (.q (.bin .sub s67 (.v (.int .i64 (.ofNat 1))))),
 o 2 d13 (.q (.mv s68))])))))
 (.seq (.seq (.reg [o 0 d69 (.q (.mv s12)),
 o 1 d70 (.q (.mv s13)),
 o 2 d71 (.q (.bin .gtr s69 s70))])
 (.cnd s71 (.seq (.rgd 0 [o 0 d72 (.q (.mv s0)),
 o 1 d73 (.q (.mv s13)),
 o 2 d74 (.q (.mv s0)),
 o 3 d75 (.q (.mv s1)),
 o 4 d76 (.q (.mv s0)),
 o 5 d77 (.q (.mv s1)),
 o 6 d78 (.q (.iadr s76 s77 32)),
 o 7 d79 (.q (.ldn s78 32)),
 o 8 d80 (.q (.mv s0)),
 o 9 d81 (.q (.mv s13)),
 o 10 d82 (.q (.iadr s80 s81 32)),
 o 11 d83 (.q (.ldn s82 32)),
 o 12 d84 (.q (.iadr s72 s73 32)),
 o 13 none (.e (.st s84 s79 32)),
 o 14 d85 (.q (.iadr s74 s75 32)),
 o 15 none (.e (.st s85 s83 32))])
 (.seq (.reg [o 0 d86 (.q (.mv s13)),
 o 1 d10 (.q (.mv s86)),
 o 2 d11 (.q (.mv (.v (.bool true))))])
 .ret)) .skip))
 (.seq (.rgd 0 [o 0 d87 (.q (.mv s0)),
 o 1 d88 (.q (.mv s12)),
 o 2 d89 (.q (.mv s0)),
 o 3 d90 (.q (.mv s13)),
 o 4 d91 (.q (.mv s0)),
 o 5 d92 (.q (.mv s13)),
 o 6 d93 (.q (.iadr s91 s92 32)),
 o 7 d94 (.q (.ldn s93 32)),
 o 8 d95 (.q (.mv s0)),
 o 9 d96 (.q (.mv s12)),
 o 10 d97 (.q (.iadr s95 s96 32)),
 o 11 d98 (.q (.ldn s97 32)),
 o 12 d99 (.q (.iadr s87 s88 32)),
 o 13 none (.e (.st s99 s94 32)),
 o 14 d100 (.q (.iadr s89 s90 32)),
 o 15 none (.e (.st s100 s98 32))])
 (.seq (.reg [o 0 d101 (.q (.mv s12)),
 o 1 d102 (.q (.bin .add s101 (.v (.int .i64 (.ofNat 1))))),
 o 2 d12 (.q (.mv s102))])
 (.seq (.reg [o 0 d103 (.q (.mv s13)),
 o 1 d104 (.q (.bin .sub s103 (.v (.int .i64 (.ofNat 1))))),
 o 2 d13 (.q (.mv s104))])
 (.seq (.blk 4 (.loop (.blk 5 (.seq (.blk 6 (.loop (.seq (.seq (.rgd 0 [o 0 d105 (.q (.mv s12)),
 o 1 d106 (.q (.mv s13)),
 o 2 d107 (.q (.bin .leq s105 s106)),
 o 3 d108 (.q (.mv s107)),
 ⟨4, d109, (.q (.mv s4)), (some (p108, true)), []⟩,
 ⟨5, d110, (.q (.mv s0)), (some (p108, true)), []⟩,
 ⟨6, d111, (.q (.mv s12)), (some (p108, true)), []⟩,
 ⟨7, d112, (.q (.iadr s110 s111 32)), (some (p108, true)), []⟩,
 ⟨8, d113, (.q (.ldn s112 32)), (some (p108, true)), []⟩,
 ⟨9, d114, (.q (.mv s0)), (some (p108, true)), []⟩,
 ⟨10, d115, (.q (.mv s1)), (some (p108, true)), []⟩,
 ⟨11, d116, (.q (.iadr s114 s115 32)), (some (p108, true)), []⟩,
 ⟨12, d117, (.q (.ldn s116 32)), (some (p108, true)), []⟩,
 ⟨13, d118, (.callv s109 [s113, s117]), (some (p108, true)), []⟩,
 ⟨14, d119, (.q (.bin .lss s118 (.v (.int .i64 (.ofNat 0))))), (some (p108, true)), []⟩,
 o 15 d120 (.q (.pick s108 s119 (.v (.bool false))))])
 (.cnd s120 .skip (.exit 6)))
 (.blk 7 (.reg [o 0 d121 (.q (.mv s12)),
 o 1 d122 (.q (.bin .add s121 (.v (.int .i64 (.ofNat 1))))),
 o 2 d12 (.q (.mv s122))])))))
 (.seq (.blk 8 (.loop (.seq (.seq (.rgd 0 [o 0 d123 (.q (.mv s12)),
 o 1 d124 (.q (.mv s13)),
 o 2 d125 (.q (.bin .leq s123 s124)),
 o 3 d126 (.q (.mv s125)),
 ⟨4, d127, (.q (.mv s4)), (some (p126, true)), []⟩,
 ⟨5, d128, (.q (.mv s0)), (some (p126, true)), []⟩,
 ⟨6, d129, (.q (.mv s13)), (some (p126, true)), []⟩,
 ⟨7, d130, (.q (.iadr s128 s129 32)), (some (p126, true)), []⟩,
 ⟨8, d131, (.q (.ldn s130 32)), (some (p126, true)), []⟩,
 ⟨9, d132, (.q (.mv s0)), (some (p126, true)), []⟩,
 ⟨10, d133, (.q (.mv s1)), (some (p126, true)), []⟩,
 ⟨11, d134, (.q (.iadr s132 s133 32)), (some (p126, true)), []⟩,
 ⟨12, d135, (.q (.ldn s134 32)), (some (p126, true)), []⟩,
 ⟨13, d136, (.callv s127 [s131, s135]), (some (p126, true)), []⟩,
 ⟨14, d137, (.q (.bin .lss s136 (.v (.int .i64 (.ofNat 0))))), (some (p126, true)), []⟩,
 ⟨15, d138, (.q (.not s137)), (some (p126, true)), []⟩,
 o 16 d139 (.q (.pick s126 s138 (.v (.bool false))))])
 (.cnd s139 .skip (.exit 8)))
 (.blk 9 (.reg [o 0 d140 (.q (.mv s13)),
 o 1 d141 (.q (.bin .sub s140 (.v (.int .i64 (.ofNat 1))))),
 o 2 d13 (.q (.mv s141))])))))
 (.seq (.seq (.reg [o 0 d142 (.q (.mv s12)),
 o 1 d143 (.q (.mv s13)),
 o 2 d144 (.q (.bin .gtr s142 s143))])
 (.cnd s144 (.exit 4) .skip))
 (.seq (.rgd 0 [o 0 d145 (.q (.mv s0)),
 o 1 d146 (.q (.mv s12)),
 o 2 d147 (.q (.mv s0)),
 o 3 d148 (.q (.mv s13)),
 o 4 d149 (.q (.mv s0)),
 o 5 d150 (.q (.mv s13)),
 o 6 d151 (.q (.iadr s149 s150 32)),
 o 7 d152 (.q (.ldn s151 32)),
 o 8 d153 (.q (.mv s0)),
 o 9 d154 (.q (.mv s12)),
 o 10 d155 (.q (.iadr s153 s154 32)),
 o 11 d156 (.q (.ldn s155 32)),
 o 12 d157 (.q (.iadr s145 s146 32)),
 o 13 none (.e (.st s157 s152 32)),
 o 14 d158 (.q (.iadr s147 s148 32)),
 o 15 none (.e (.st s158 s156 32))])
 (.seq (.reg [o 0 d159 (.q (.mv s12)),
 o 1 d160 (.q (.bin .add s159 (.v (.int .i64 (.ofNat 1))))),
 o 2 d12 (.q (.mv s160))])
 (.reg [o 0 d161 (.q (.mv s13)),
 o 1 d162 (.q (.bin .sub s161 (.v (.int .i64 (.ofNat 1))))),
 o 2 d13 (.q (.mv s162))])))))))))
 (.seq (.rgd 0 [o 0 d163 (.q (.mv s0)),
 o 1 d164 (.q (.mv s13)),
 o 2 d165 (.q (.mv s0)),
 o 3 d166 (.q (.mv s1)),
 o 4 d167 (.q (.mv s0)),
 o 5 d168 (.q (.mv s1)),
 o 6 d169 (.q (.iadr s167 s168 32)),
 o 7 d170 (.q (.ldn s169 32)),
 o 8 d171 (.q (.mv s0)),
 o 9 d172 (.q (.mv s13)),
 o 10 d173 (.q (.iadr s171 s172 32)),
 o 11 d174 (.q (.ldn s173 32)),
 o 12 d175 (.q (.iadr s163 s164 32)),
 o 13 none (.e (.st s175 s170 32)),
 o 14 d176 (.q (.iadr s165 s166 32)),
 o 15 none (.e (.st s176 s174 32))])
 (.seq (.reg [o 0 d177 (.q (.mv s13)),
 o 1 d10 (.q (.mv s177)),
 o 2 d11 (.q (.mv (.v (.bool false))))])
 .ret))))))))))))
 [.t p10, .t p11]

noncomputable def f135 : FnE := .code 7
 (.seq (.reg [o 0 d2 (.q (.mv (.v (.int .u64 (.ofNat 0)))))])
 (.seq (.reg [o 0 d3 (.q (.mv s0)),
 o 1 d4 (.q (.cvi .u64 s3)),
 o 2 d5 (.call p110 [s4]),
 o 3 d6 (.q (.shf true (.v (.int .u64 (.ofNat 1))) s5)),
 o 4 d2 (.q (.mv s6))])
 .ret))
 [.t p2]

noncomputable def f136 : FnE := .code 33
 (.seq (.reg [o 0 d2 (.q (.mv (.v (.int .u64 (.ofNat 0)))))])
 (.seq (.rgd 0 [o 0 d3 (.q (.mv s0)),
 o 1 d4 (.q (.nck s3)),
 o 2 d5 (.q (.ld1 s4)),
 o 3 d6 (.q (.mv s0)),
 o 4 d7 (.q (.nck s6)),
 o 5 d8 (.q (.ld1 s7)),
 o 6 d9 (.q (.shf true s8 (.v (.int .u64 (.ofNat 13))))),
 o 7 d10 (.q (.bin .xor s5 s9)),
 o 8 d11 (.q (.nck s3)),
 o 9 none (.e (.st s11 s10 1))])
 (.seq (.rgd 0 [o 0 d12 (.q (.mv s0)),
 o 1 d13 (.q (.nck s12)),
 o 2 d14 (.q (.ld1 s13)),
 o 3 d15 (.q (.mv s0)),
 o 4 d16 (.q (.nck s15)),
 o 5 d17 (.q (.ld1 s16)),
 o 6 d18 (.q (.shf false s17 (.v (.int .u64 (.ofNat 7))))),
 o 7 d19 (.q (.bin .xor s14 s18)),
 o 8 d20 (.q (.nck s12)),
 o 9 none (.e (.st s20 s19 1))])
 (.seq (.rgd 0 [o 0 d21 (.q (.mv s0)),
 o 1 d22 (.q (.nck s21)),
 o 2 d23 (.q (.ld1 s22)),
 o 3 d24 (.q (.mv s0)),
 o 4 d25 (.q (.nck s24)),
 o 5 d26 (.q (.ld1 s25)),
 o 6 d27 (.q (.shf true s26 (.v (.int .u64 (.ofNat 17))))),
 o 7 d28 (.q (.bin .xor s23 s27)),
 o 8 d29 (.q (.nck s21)),
 o 9 none (.e (.st s29 s28 1))])
 (.seq (.reg [o 0 d30 (.q (.mv s0)),
 o 1 d31 (.q (.nck s30)),
 o 2 d32 (.q (.ld1 s31)),
 o 3 d2 (.q (.mv s32))])
 .ret)))))
 [.t p2]

noncomputable def f139 : FnE := .code 82
 (.seq (.reg [o 0 d12 (.q (.mv s1)),
 o 1 d10 (.q (.mv s12))])
 (.blk 0 (.loop (.blk 1 (.seq (.reg [o 0 d13 (.q (.mv s10)),
 o 1 d14 (.q (.bin .mul (.v (.int .i64 (.ofNat 2))) s13)),
 o 2 d15 (.q (.bin .add s14 (.v (.int .i64 (.ofNat 1))))),
 o 3 d11 (.q (.mv s15))])
 (.seq (.seq (.reg [o 0 d16 (.q (.mv s11)),
 o 1 d17 (.q (.mv s2)),
 o 2 d18 (.q (.bin .geq s16 s17))])
 (.cnd s18 (.exit 0) .skip))
 (.seq (.seq (.rgd 0 [o 0 d19 (.q (.mv s11)),
 o 1 d20 (.q (.bin .add s19 (.v (.int .i64 (.ofNat 1))))),
 o 2 d21 (.q (.mv s2)),
 o 3 d22 (.q (.bin .lss s20 s21)),
 o 4 d23 (.q (.mv s22)),
 ⟨5, d24, (.q (.mv s4)), (some (p23, true)), []⟩,
 ⟨6, d25, (.q (.mv s0)), (some (p23, true)), []⟩,
 ⟨7, d26, (.q (.mv s3)), (some (p23, true)), []⟩,
 ⟨8, d27, (.q (.mv s11)), (some (p23, true)), []⟩,
 ⟨9, d28, (.q (.bin .add s26 s27)), (some (p23, true)), []⟩,
 ⟨10, d29, (.q (.iadr s25 s28 32)), (some (p23, true)), []⟩,
 ⟨11, d30, (.q (.ldn s29 32)), (some (p23, true)), []⟩,
 ⟨12, d31, (.q (.mv s0)), (some (p23, true)), []⟩,
 ⟨13, d32, (.q (.mv s3)), (some (p23, true)), []⟩,
 ⟨14, d33, (.q (.mv s11)), (some (p23, true)), []⟩,
 ⟨15, d34, (.q (.bin .add s32 s33)), (some (p23, true)), []⟩,
 ⟨16, d35, (.q (.bin .add s34 (.v (.int .i64 (.ofNat 1))))), (some (p23, true)), []⟩,
 ⟨17, d36, (.q (.iadr s31 s35 32)), (some (p23, true)), []⟩,
 ⟨18, d37, (.q (.ldn s36 32)), (some (p23, true)), []⟩,
 ⟨19, d38, (.callv s24 [s30, s37]), (some (p23, true)), []⟩,
 ⟨20, d39, (.q (.bin .lss s38 (.v (.int .i64 (.ofNat 0))))), (some (p23, true)), []⟩,
 o 21 d40 (.q (.pick s23 s39 (.v (.bool false))))])
 (.cnd s40 (.reg [o 0 d41 (.q (.mv s11)),
 o 1 d42 (.q (.bin .add s41 (.v (.int .i64 (.ofNat 1))))),
 o 2 d11 (.q (.mv s42))]) .skip))
 (.seq (.seq (.rgd 0 [o 0 d43 (.q (.mv s4)),
 o 1 d44 (.q (.mv s0)),
 o 2 d45 (.q (.mv s3)),
 o 3 d46 (.q (.mv s10)),
 o 4 d47 (.q (.bin .add s45 s46)),
 o 5 d48 (.q (.iadr s44 s47 32)),
 o 6 d49 (.q (.ldn s48 32)),
 o 7 d50 (.q (.mv s0)),
 o 8 d51 (.q (.mv s3)),
 o 9 d52 (.q (.mv s11)),
 o 10 d53 (.q (.bin .add s51 s52)),
 o 11 d54 (.q (.iadr s50 s53 32)),
 o 12 d55 (.q (.ldn s54 32)),
 o 13 d56 (.callv s43 [s49, s55]),
 o 14 d57 (.q (.bin .lss s56 (.v (.int .i64 (.ofNat 0))))),
 o 15 d58 (.q (.not s57))])
 (.cnd s58 .ret .skip))
 (.seq (.rgd 0 [o 0 d59 (.q (.mv s0)),
 o 1 d60 (.q (.mv s3)),
 o 2 d61 (.q (.mv s10)),
 o 3 d62 (.q (.bin .add s60 s61)),
 o 4 d63 (.q (.mv s0)),
 o 5 d64 (.q (.mv s3)),
 o 6 d65 (.q (.mv s11)),
 o 7 d66 (.q (.bin .add s64 s65)),
 o 8 d67 (.q (.mv s0)),
 o 9 d68 (.q (.mv s3)),
 o 10 d69 (.q (.mv s11)),
 o 11 d70 (.q (.bin .add s68 s69)),
 o 12 d71 (.q (.iadr s67 s70 32)),
 o 13 d72 (.q (.ldn s71 32)),
 o 14 d73 (.q (.mv s0)),
 o 15 d74 (.q (.mv s3)),
 o 16 d75 (.q (.mv s10)),
 o 17 d76 (.q (.bin .add s74 s75)),
 o 18 d77 (.q (.iadr s73 s76 32)),
 o 19 d78 (.q (.ldn s77 32)),
 o 20 d79 (.q (.iadr s59 s62 32)),
 o 21 none (.e (.st s79 s72 32)),
 o 22 d80 (.q (.iadr s63 s66 32)),
 o 23 none (.e (.st s80 s78 32))])
 (.reg [o 0 d81 (.q (.mv s11)),
 o 1 d10 (.q (.mv s81))]))))))))))
 []

noncomputable def f140 : FnE := .code 18
 (.seq (.reg [o 0 d8 (.q (.mv (.v (.int .i64 (.ofNat 0)))))])
 (.seq (.reg [o 0 d9 (.q (.mv s0)),
 o 1 d10 (.q (.mv s1)),
 o 2 d11 (.q (.bin .sub s10 (.v (.int .i64 (.ofNat 1))))),
 o 3 d12 (.q (.mv s1)),
 o 4 d13 (.q (.mv s1)),
 o 5 d14 (.q (.bin .add s13 (.v (.int .i64 (.ofNat 1))))),
 o 6 d15 (.q (.mv s2)),
 o 7 d16 (.q (.mv s3)),
 o 8 d17 (.call p141 [s9, s11, s12, s14, s15, s16]),
 o 9 d8 (.q (.mv s17))])
 .ret))
 [.t p8]

noncomputable def f141 : FnE := .code 41
 (.seq (.reg [o 0 d12 (.q (.mv (.v (.int .i64 (.ofNat 0)))))])
 (.seq (.reg [o 0 d14 (.q (.mv s0)),
 o 1 d15 (.q (.mv s1)),
 o 2 d16 (.q (.mv s2)),
 o 3 d17 (.q (.mv s4)),
 o 4 d18 (.q (.mv s5)),
 o 5 d19 (.call p143 [s14, s15, s16, s17, s18]),
 o 6 d13 (.q (.mv s19)),
 o 7 d20 (.q (.ext s13 0)),
 o 8 d21 (.q (.ext s13 1)),
 o 9 d1 (.q (.mv s20)),
 o 10 d2 (.q (.mv s21))])
 (.seq (.reg [o 0 d23 (.q (.mv s0)),
 o 1 d24 (.q (.mv s2)),
 o 2 d25 (.q (.mv s3)),
 o 3 d26 (.q (.mv s4)),
 o 4 d27 (.q (.mv s5)),
 o 5 d28 (.call p143 [s23, s24, s25, s26, s27]),
 o 6 d22 (.q (.mv s28)),
 o 7 d29 (.q (.ext s22 0)),
 o 8 d30 (.q (.ext s22 1)),
 o 9 d2 (.q (.mv s29)),
 o 10 d3 (.q (.mv s30))])
 (.seq (.reg [o 0 d32 (.q (.mv s0)),
 o 1 d33 (.q (.mv s1)),
 o 2 d34 (.q (.mv s2)),
 o 3 d35 (.q (.mv s4)),
 o 4 d36 (.q (.mv s5)),
 o 5 d37 (.call p143 [s32, s33, s34, s35, s36]),
 o 6 d31 (.q (.mv s37)),
 o 7 d38 (.q (.ext s31 0)),
 o 8 d39 (.q (.ext s31 1)),
 o 9 d1 (.q (.mv s38)),
 o 10 d2 (.q (.mv s39))])
 (.seq (.reg [o 0 d40 (.q (.mv s2)),
 o 1 d12 (.q (.mv s40))])
 .ret)))))
 [.t p12]

noncomputable def f143 : FnE := .code 32
 (.seq (.reg [o 0 d10 (.q (.mv (.v (.int .i64 (.ofNat 0))))),
 o 1 d11 (.q (.mv (.v (.int .i64 (.ofNat 0)))))])
 (.seq (.seq (.rgd 0 [o 0 d12 (.q (.mv s4)),
 o 1 d13 (.q (.mv s0)),
 o 2 d14 (.q (.mv s2)),
 o 3 d15 (.q (.iadr s13 s14 32)),
 o 4 d16 (.q (.ldn s15 32)),
 o 5 d17 (.q (.mv s0)),
 o 6 d18 (.q (.mv s1)),
 o 7 d19 (.q (.iadr s17 s18 32)),
 o 8 d20 (.q (.ldn s19 32)),
 o 9 d21 (.callv s12 [s16, s20]),
 o 10 d22 (.q (.bin .lss s21 (.v (.int .i64 (.ofNat 0)))))])
 (.cnd s22 (.seq (.reg [o 0 d23 (.q (.mv s3)),
 o 1 d24 (.q (.nck s23)),
 o 2 d25 (.q (.ld1 s24)),
 o 3 d26 (.q (.bin .add s25 (.v (.int .i64 (.ofNat 1))))),
 o 4 d27 (.q (.nck s23)),
 o 5 none (.e (.st s27 s26 1))])
 (.seq (.reg [o 0 d28 (.q (.mv s2)),
 o 1 d29 (.q (.mv s1)),
 o 2 d10 (.q (.mv s28)),
 o 3 d11 (.q (.mv s29))])
 .ret)) .skip))
 (.seq (.reg [o 0 d30 (.q (.mv s1)),
 o 1 d31 (.q (.mv s2)),
 o 2 d10 (.q (.mv s30)),
 o 3 d11 (.q (.mv s31))])
 .ret)))
 [.t p10, .t p11]

noncomputable def tabA : T FnE := (.node (.node (.node (.node (.node (.node (.node (.node .nil (some f127) .nil) (some f63) .nil) none .nil) (some f15) (.node (.node (.node .nil (some f143) .nil) none .nil) (some f47) .nil)) none (.node (.node (.node (.node .nil (some f135) .nil) none .nil) (some f39) .nil) none (.node (.node .nil (some f87) .nil) none .nil))) none (.node (.node (.node (.node (.node .nil (some f131) .nil) (some f67) .nil) none (.node .nil (some f99) .nil)) none (.node (.node .nil (some f83) .nil) (some f51) .nil)) (some f11) (.node (.node (.node (.node .nil (some f139) .nil) (some f75) .nil) none (.node .nil (some f107) .nil)) (some f27) (.node .nil (some f59) .nil)))) none (.node (.node (.node (.node (.node (.node .nil (some f129) .nil) (some f65) .nil) none (.node .nil (some f97) .nil)) none (.node .nil (some f49) (.node .nil (some f113) .nil))) none (.node (.node (.node .nil (some f73) .nil) none (.node .nil (some f105) .nil)) (some f25) (.node (.node .nil (some f89) .nil) (some f57) .nil))) (some f5) (.node (.node (.node (.node (.node .nil (some f133) .nil) none .nil) (some f37) (.node .nil (some f101) .nil)) none (.node (.node .nil (some f85) .nil) (some f53) .nil)) none (.node (.node (.node (.node .nil (some f141) .nil) (some f77) .nil) none .nil) (some f29) (.node .nil (some f61) .nil))))) none (.node (.node (.node (.node (.node (.node (.node .nil (some f128) .nil) (some f64) .nil) none (.node .nil (some f96) .nil)) none (.node .nil (some f48) (.node .nil (some f112) .nil))) none (.node (.node (.node (.node .nil (some f136) .nil) (some f72) .nil) (some f40) .nil) (some f24) (.node (.node .nil (some f88) .nil) none .nil))) none (.node (.node (.node (.node (.node .nil (some f132) .nil) none .nil) (some f36) (.node .nil (some f100) .nil)) none (.node (.node .nil (some f84) .nil) (some f52) .nil)) none (.node (.node (.node (.node .nil (some f140) .nil) (some f76) .nil) (some f44) .nil) (some f28) (.node .nil (some f60) (.node .nil (some f124) .nil))))) none (.node (.node (.node (.node (.node (.node .nil (some f130) .nil) (some f66) .nil) (some f34) (.node .nil (some f98) .nil)) none (.node (.node .nil (some f82) .nil) (some f50) .nil)) none (.node (.node (.node .nil (some f74) .nil) none (.node .nil (some f106) .nil)) (some f26) (.node (.node .nil (some f90) .nil) (some f58) .nil))) none (.node (.node (.node .nil (some f38) (.node .nil (some f102) .nil)) none (.node (.node .nil (some f86) .nil) (some f54) .nil)) none (.node (.node (.node .nil (some f78) .nil) (some f46) (.node .nil (some f110) .nil)) (some f30) (.node .nil (some f62) (.node .nil (some f126) .nil)))))))
end Go.Proofs.YtbikpdgeldhkoaaDoor.Ir
