/-
  The functions of the road, for the machine. (Written by a program.)
-/
import Derived.Test.YtknhohgnilamcaaGreatDoorBc0
namespace Go.Proofs.YtknhohgnilamcaaGreatDoor.Ir
set_option linter.unusedVariables false
set_option maxRecDepth 100000
open Go Go.Proofs.YtknhohgnilamcaaGreatDoor
noncomputable def f5 : FnE := .code 126
 (.seq (.reg [o 0 d8 (.q (.mv (.v (.bool false))))])
 (.seq (.reg [o 0 d16 (.call p19 []),
 o 1 d9 (.q (.mv s16))])
 (.seq (.seq (.reg [o 0 d17 (.q (.mv s9)),
 o 1 d18 (.q (.not s17))])
 (.cnd s18 (.seq (.reg [o 0 d8 (.q (.mv (.v (.bool false))))])
 .ret) .skip))
 (.seq (.reg [o 0 d19 (.q (.mv s0)),
 o 1 d20 (.call p9 [s19, (.v (.int .i64 (.ofNat 100)))]),
 o 2 d0 (.q (.mv s20))])
 (.seq (.reg [o 0 d21 (.q (.mv s1)),
 o 1 d22 (.call p9 [s21, (.v (.int .i64 (.ofNat 1000)))]),
 o 2 d1 (.q (.mv s22))])
 (.seq (.reg [o 0 d23 (.q (.mv s2)),
 o 1 d24 (.call p9 [s23, (.v (.int .i64 (.ofNat 1000)))]),
 o 2 d2 (.q (.mv s24))])
 (.seq (.reg [o 0 d25 (.q (.bld (zz (.int .u8 (.ofNat 0)) 32) [(0, 1, (.v (.int .u8 (.ofNat 1))))])),
 o 1 d26 (.q (.bld (lapp (zz (.int .u8 (.ofNat 0)) 32) [(.int .u32 (.ofNat 0))]) [(0, 32, s25)])),
 o 2 d27 (.q (.bld (lapp (zz (.int .u8 (.ofNat 0)) 32) [(.int .u32 (.ofNat 0)), .nils, (.int .u32 (.ofNat 0))]) [(0, 33, s26)])),
 o 3 d28 (.e (.bsl (lapp (zz (.int .u8 (.ofNat 0)) 32) [(.int .u32 (.ofNat 0)), .nils, (.int .u32 (.ofNat 0))]) [(0, 35, s27)] 1 35)),
 o 4 d29 (.q (.bld (lapp [(.int .u64 (.ofNat 0))] (zz (.int .u8 (.ofNat 0)) 32)) [])),
 o 5 d30 (.e (.bsl (lapp [(.int .u64 (.ofNat 0))] (zz (.int .u8 (.ofNat 0)) 32)) [(0, 33, s29)] 1 33)),
 o 6 d31 (.q (.bld [(.int .u32 (.ofNat 0)), .nils, .nils, (.int .u32 (.ofNat 0))] [(0, 1, (.v (.int .u32 (.ofNat 1)))), (1, 1, s28), (2, 1, s30)])),
 o 7 d10 (.e (.alo [(.int .u32 (.ofNat 0)), .nils, .nils, (.int .u32 (.ofNat 0))])),
 o 8 none (.e (.st s10 s31 4))])
 (.seq (.reg [o 0 d32 (.q (.ldn s10 4)),
 o 1 d33 (.call p15 [s32]),
 o 2 d34 (.q (.bld (lapp (zz (.int .u8 (.ofNat 0)) 32) [(.int .u32 (.ofNat 0))]) [(0, 32, s33)])),
 o 3 d35 (.q (.bld (lapp (zz (.int .u8 (.ofNat 0)) 32) [(.int .u32 (.ofNat 0)), .nils, (.int .u32 (.ofNat 0))]) [(0, 33, s34)])),
 o 4 d36 (.e (.bsl (lapp (zz (.int .u8 (.ofNat 0)) 32) [(.int .u32 (.ofNat 0)), .nils, (.int .u32 (.ofNat 0))]) [(0, 35, s35)] 1 35)),
 o 5 d37 (.q (.bld (lapp [(.int .u64 (.ofNat 0))] (zz (.int .u8 (.ofNat 0)) 32)) [])),
 o 6 d38 (.e (.bsl (lapp [(.int .u64 (.ofNat 0))] (zz (.int .u8 (.ofNat 0)) 32)) [(0, 33, s37)] 1 33)),
 o 7 d39 (.q (.bld [(.int .u32 (.ofNat 0)), .nils, .nils, (.int .u32 (.ofNat 0))] [(0, 1, (.v (.int .u32 (.ofNat 2)))), (1, 1, s36), (2, 1, s38)])),
 o 8 d11 (.e (.alo [(.int .u32 (.ofNat 0)), .nils, .nils, (.int .u32 (.ofNat 0))])),
 o 9 none (.e (.st s11 s39 4))])
 (.seq (.reg [o 0 d40 (.q (.bld (zz (.int .u8 (.ofNat 0)) 32) [(0, 1, (.v (.int .u8 (.ofNat 2))))])),
 o 1 d41 (.q (.bld (lapp (zz (.int .u8 (.ofNat 0)) 32) [(.int .u32 (.ofNat 0))]) [(0, 32, s40)])),
 o 2 d42 (.q (.bld (lapp (zz (.int .u8 (.ofNat 0)) 32) [(.int .u32 (.ofNat 0)), .nils, (.int .u32 (.ofNat 0))]) [(0, 33, s41)])),
 o 3 d43 (.e (.bsl (lapp (zz (.int .u8 (.ofNat 0)) 32) [(.int .u32 (.ofNat 0)), .nils, (.int .u32 (.ofNat 0))]) [(0, 35, s42)] 1 35)),
 o 4 d44 (.q (.bld (lapp [(.int .u64 (.ofNat 0))] (zz (.int .u8 (.ofNat 0)) 32)) [])),
 o 5 d45 (.e (.bsl (lapp [(.int .u64 (.ofNat 0))] (zz (.int .u8 (.ofNat 0)) 32)) [(0, 33, s44)] 1 33)),
 o 6 d46 (.q (.bld [(.int .u32 (.ofNat 0)), .nils, .nils, (.int .u32 (.ofNat 0))] [(0, 1, (.v (.int .u32 (.ofNat 3)))), (1, 1, s43), (2, 1, s45)])),
 o 7 d12 (.e (.alo [(.int .u32 (.ofNat 0)), .nils, .nils, (.int .u32 (.ofNat 0))])),
 o 8 none (.e (.st s12 s46 4))])
 (.seq (.reg [o 0 d47 (.q (.bld [.nilm, .nilm, (.int .i64 (.ofNat 0)), (.int .i64 (.ofNat 0)), (.int .i64 (.ofNat 0)), (.int .u64 (.ofNat 0))] [])),
 o 1 d48 (.e (.box s47 6)),
 o 2 d13 (.q (.mv s48))])
 (.seq (.seq (.reg [o 0 d49 (.q (.mv s13)),
 o 1 d50 (.q (.ldn s10 4)),
 o 2 d51 (.q (.mv s0)),
 o 3 d52 (.q (.cvi .u64 s51)),
 o 4 d53 (.call p16 [s49, s50, s52]),
 o 5 d54 (.q (.eqp (.iface true) true s53 (.v .nili))),
 o 6 d55 (.q (.mv s54)),
 ⟨7, d56, (.q (.mv s3)), (some (p55, false)), []⟩,
 ⟨8, d57, (.q (.not s56)), (some (p55, false)), []⟩,
 ⟨9, d58, (.q (.mv s57)), (some (p55, false)), []⟩,
 ⟨10, d59, (.q (.mv s13)), (some (p58, true)), []⟩,
 ⟨11, d60, (.q (.ldn s11 4)), (some (p58, true)), []⟩,
 ⟨12, d61, (.q (.mv s1)), (some (p58, true)), []⟩,
 ⟨13, d62, (.q (.cvi .u64 s61)), (some (p58, true)), []⟩,
 ⟨14, d63, (.call p16 [s59, s60, s62]), (some (p58, true)), []⟩,
 ⟨15, d64, (.q (.eqp (.iface true) true s63 (.v .nili))), (some (p58, true)), []⟩,
 ⟨16, d65, (.q (.pick s58 s64 (.v (.bool false)))), (some (p55, false)), []⟩,
 o 17 d66 (.q (.pick s55 (.v (.bool true)) s65)),
 o 18 d67 (.q (.mv s66)),
 ⟨19, d68, (.q (.mv s13)), (some (p67, false)), []⟩,
 ⟨20, d69, (.q (.ldn s12 4)), (some (p67, false)), []⟩,
 ⟨21, d70, (.q (.mv s2)), (some (p67, false)), []⟩,
 ⟨22, d71, (.q (.cvi .u64 s70)), (some (p67, false)), []⟩,
 ⟨23, d72, (.call p16 [s68, s69, s71]), (some (p67, false)), []⟩,
 ⟨24, d73, (.q (.eqp (.iface true) true s72 (.v .nili))), (some (p67, false)), []⟩,
 o 25 d74 (.q (.pick s67 (.v (.bool true)) s73))])
 (.cnd s74 (.seq (.reg [o 0 d8 (.q (.mv (.v (.bool false))))])
 .ret) .skip))
 (.seq (.reg [o 0 d75 (.q (.mv s13)),
 o 1 d76 (.call p20 [s75, (.v (.int .i64 (.ofNat 100000))), (.v (.int .i64 (.ofNat 10)))]),
 o 2 d14 (.q (.mv s76))])
 (.seq (.reg [o 0 d77 (.q (.mv s0)),
 o 1 d78 (.q (.bin .mul (.v (.int .i64 (.ofNat 2))) s77)),
 o 2 d15 (.q (.mv s78))])
 (.seq (.seq (.reg [o 0 d79 (.q (.mv s3)),
 o 1 d80 (.q (.not s79))])
 (.cnd s80 (.reg [o 0 d81 (.q (.mv s15)),
 o 1 d82 (.q (.mv s0)),
 o 2 d83 (.q (.mv s1)),
 o 3 d84 (.q (.bin .add s82 s83)),
 o 4 d85 (.q (.mnx true s81 s84)),
 o 5 d15 (.q (.mv s85))]) .skip))
 (.seq (.seq (.reg [o 0 d86 (.q (.mv s15)),
 o 1 d87 (.q (.mv s2)),
 o 2 d88 (.q (.bin .mul (.v (.int .i64 (.ofNat 2))) s87)),
 o 3 d89 (.q (.bin .eql s86 s88))])
 (.cnd s89 (.seq (.reg [o 0 d90 (.q (.mv s9)),
 o 1 d91 (.q (.mv s90)),
 ⟨2, d92, (.q (.mv s14)), (some (p91, true)), []⟩,
 ⟨3, d93, (.q (.lenv s92)), (some (p91, true)), []⟩,
 ⟨4, d94, (.q (.bin .gtr s93 (.v (.int .i64 (.ofNat 1))))), (some (p91, true)), []⟩,
 o 5 d95 (.q (.pick s91 s94 (.v (.bool false)))),
 o 6 d8 (.q (.mv s95))])
 .ret) .skip))
 (.seq (.seq (.reg [o 0 d96 (.q (.mv s2)),
 o 1 d97 (.q (.bin .mul (.v (.int .i64 (.ofNat 2))) s96)),
 o 2 d98 (.q (.mv s15)),
 o 3 d99 (.q (.bin .gtr s97 s98))])
 (.cnd s99 (.seq (.rgd 0 [o 0 d100 (.q (.mv s9)),
 o 1 d101 (.q (.mv s100)),
 ⟨2, d102, (.q (.mv s14)), (some (p101, true)), []⟩,
 ⟨3, d103, (.q (.lenv s102)), (some (p101, true)), []⟩,
 ⟨4, d104, (.q (.bin .gtr s103 (.v (.int .i64 (.ofNat 1))))), (some (p101, true)), []⟩,
 o 5 d105 (.q (.pick s101 s104 (.v (.bool false)))),
 o 6 d106 (.q (.mv s105)),
 ⟨7, d107, (.q (.mv s14)), (some (p106, true)), []⟩,
 ⟨8, d108, (.q (.iadr s107 (.v (.int .i64 (.ofNat 0))) 4)), (some (p106, true)), []⟩,
 ⟨9, d109, (.q (.ldn s108 4)), (some (p106, true)), []⟩,
 ⟨10, d110, (.q (.ldn s12 4)), (some (p106, true)), []⟩,
 ⟨11, d111, (.call p21 [s109, s110]), (some (p106, true)), []⟩,
 o 12 d112 (.q (.pick s106 s111 (.v (.bool false)))),
 o 13 d8 (.q (.mv s112))])
 .ret) .skip))
 (.seq (.rgd 0 [o 0 d113 (.q (.mv s9)),
 o 1 d114 (.q (.mv s113)),
 ⟨2, d115, (.q (.mv s14)), (some (p114, true)), []⟩,
 ⟨3, d116, (.q (.lenv s115)), (some (p114, true)), []⟩,
 ⟨4, d117, (.q (.bin .gtr s116 (.v (.int .i64 (.ofNat 1))))), (some (p114, true)), []⟩,
 o 5 d118 (.q (.pick s114 s117 (.v (.bool false)))),
 o 6 d119 (.q (.mv s118)),
 ⟨7, d120, (.q (.mv s14)), (some (p119, true)), []⟩,
 ⟨8, d121, (.q (.iadr s120 (.v (.int .i64 (.ofNat 0))) 4)), (some (p119, true)), []⟩,
 ⟨9, d122, (.q (.ldn s121 4)), (some (p119, true)), []⟩,
 ⟨10, d123, (.q (.ldn s10 4)), (some (p119, true)), []⟩,
 ⟨11, d124, (.call p21 [s122, s123]), (some (p119, true)), []⟩,
 o 12 d125 (.q (.pick s119 s124 (.v (.bool false)))),
 o 13 d8 (.q (.mv s125))])
 .ret)))))))))))))))))
 [.t p8]

noncomputable def f9 : FnE := .code 15
 (.seq (.reg [o 0 d4 (.q (.mv (.v (.int .i64 (.ofNat 0)))))])
 (.seq (.reg [o 0 d6 (.q (.mv s0)),
 o 1 d7 (.q (.mv s1)),
 o 2 d8 (.q (.bin .rem s6 s7)),
 o 3 d5 (.q (.mv s8))])
 (.seq (.seq (.reg [o 0 d9 (.q (.mv s5)),
 o 1 d10 (.q (.bin .lss s9 (.v (.int .i64 (.ofNat 0)))))])
 (.cnd s10 (.reg [o 0 d11 (.q (.mv s5)),
 o 1 d12 (.q (.mv s1)),
 o 2 d13 (.q (.bin .add s11 s12)),
 o 3 d5 (.q (.mv s13))]) .skip))
 (.seq (.reg [o 0 d14 (.q (.mv s5)),
 o 1 d4 (.q (.mv s14))])
 .ret))))
 [.t p4]

noncomputable def f15 : FnE := .code 6
 (.seq (.reg [o 0 d1 (.e (.box s0 4)),
 o 1 d2 (.e (.alo (zz (.int .u8 (.ofNat 0)) 32)))])
 (.seq (.reg [o 0 d3 (.q (.ldn s1 4)),
 o 1 d4 (.call p43 [s3]),
 o 2 d5 (.call p42 [s4]),
 o 3 none (.e (.st s2 s5 32))])
 .ret))
 [.cn p2 32]

noncomputable def f16 : FnE := .code 129
 (.seq (.reg [o 0 d4 (.e (.box s1 4)),
 o 1 d6 (.q (.mv (.v .nili)))])
 (.seq (.reg [o 0 d20 (.q (.ldn s4 4)),
 o 1 d21 (.call p44 [s20]),
 o 2 d7 (.e (.alo (zz (.int .u8 (.ofNat 0)) 32))),
 o 3 none (.e (.st s7 s21 32))])
 (.seq (.seq (.rgd 0 [o 0 d23 (.q (.mv s0)),
 o 1 d24 (.q (.nck s23)),
 o 2 d25 (.q (.fadr s24 0)),
 o 3 d26 (.q (.ld1 s25)),
 o 4 d27 (.q (.ldn s7 32)),
 o 5 d28 (.q (.lkp s26 s27 (.cells (kk .u8 32)) (.agg [(.int .u32 (.ofNat 0)), .nils, .nils, (.int .u32 (.ofNat 0)), (.int .u64 (.ofNat 0)), (.int .i64 (.ofNat 0)), (.int .i64 (.ofNat 0))]) true)),
 o 6 d22 (.q (.mv s28)),
 o 7 d29 (.q (.ext s22 0)),
 o 8 d30 (.q (.ext s22 1)),
 ⟨9, d8, (.e (.alo [(.int .u32 (.ofNat 0)), .nils, .nils, (.int .u32 (.ofNat 0)), (.int .u64 (.ofNat 0)), (.int .i64 (.ofNat 0)), (.int .i64 (.ofNat 0))])), none, [(p26, .ld1 s25, none), (p27, .ldn s7 32, none), (p28, .lkp s26 s27 (.cells (kk .u8 32)) (.agg [(.int .u32 (.ofNat 0)), .nils, .nils, (.int .u32 (.ofNat 0)), (.int .u64 (.ofNat 0)), (.int .i64 (.ofNat 0)), (.int .i64 (.ofNat 0))]) true, none)]⟩,
 o 10 none (.e (.st s8 s29 7)),
 o 11 d9 (.q (.mv s30))])
 (.seq (.reg [o 0 d31 (.q (.mv s9))])
 (.cnd s31 (.seq (.reg [o 0 d32 (.q (.ld1 (.g p5))),
 o 1 d6 (.q (.mv s32))])
 .ret) .skip)))
 (.seq (.seq (.reg [o 0 d33 (.q (.fadr s4 1)),
 o 1 d34 (.q (.ld1 s33)),
 o 2 d35 (.q (.lenv s34)),
 o 3 d36 (.q (.mv (.v (.int .i64 (.ofNat 0)))))])
 (.blk 0 (.loop (.seq (.reg [o 0 d37 (.q (.bin .lss s36 s35))])
 (.seq (.cnd s37 .skip (.exit 0))
 (.seq (.blk 1 (.seq (.reg [o 0 d38 (.q (.iadr s34 s36 35)),
 o 1 d39 (.q (.ldn s38 35)),
 o 2 d11 (.e (.alo (lapp (zz (.int .u8 (.ofNat 0)) 32) [(.int .u32 (.ofNat 0)), .nils, (.int .u32 (.ofNat 0))]))),
 o 3 none (.e (.st s11 s39 35))])
 (.seq (.rgd 0 [o 0 d41 (.q (.mv s0)),
 o 1 d42 (.q (.nck s41)),
 o 2 d43 (.q (.fadr s42 1)),
 o 3 d44 (.q (.ld1 s43)),
 o 4 d45 (.q (.fadr s11 0)),
 o 5 d46 (.q (.ldn s45 33)),
 o 6 d47 (.q (.lkp s44 s46 (.cells [.u8, .u8, .u8, .u8, .u8, .u8, .u8, .u8, .u8, .u8, .u8, .u8, .u8, .u8, .u8, .u8, .u8, .u8, .u8, .u8, .u8, .u8, .u8, .u8, .u8, .u8, .u8, .u8, .u8, .u8, .u8, .u8, .u32]) (.agg (zz (.int .u8 (.ofNat 0)) 32)) true)),
 o 7 d40 (.q (.mv s47)),
 o 8 d48 (.q (.ext s40 0)),
 o 9 d49 (.q (.ext s40 1)),
 ⟨10, d12, (.e (.alo (zz (.int .u8 (.ofNat 0)) 32))), none, [(p44, .ld1 s43, none), (p46, .ldn s45 33, none), (p47, .lkp s44 s46 (.cells [.u8, .u8, .u8, .u8, .u8, .u8, .u8, .u8, .u8, .u8, .u8, .u8, .u8, .u8, .u8, .u8, .u8, .u8, .u8, .u8, .u8, .u8, .u8, .u8, .u8, .u8, .u8, .u8, .u8, .u8, .u8, .u8, .u32]) (.agg (zz (.int .u8 (.ofNat 0)) 32)) true, none)]⟩,
 o 11 none (.e (.st s12 s48 32)),
 o 12 d13 (.q (.mv s49))])
 (.seq (.reg [o 0 d50 (.q (.mv s13))])
 (.cnd s50 (.seq (.reg [o 0 d51 (.q (.ld1 (.g p6))),
 o 1 d6 (.q (.mv s51))])
 .ret) .skip)))))
 (.reg [o 0 d52 (.q (.bin .add s36 (.v (.int .i64 (.ofNat 1))))),
 o 1 d36 (.q (.mv s52))])))))))
 (.seq (.seq (.reg [o 0 d53 (.q (.fadr s4 2)),
 o 1 d54 (.q (.ld1 s53)),
 o 2 d55 (.q (.lenv s54)),
 o 3 d56 (.q (.mv (.v (.int .i64 (.ofNat 0)))))])
 (.blk 2 (.loop (.seq (.reg [o 0 d57 (.q (.bin .lss s56 s55))])
 (.seq (.cnd s57 .skip (.exit 2))
 (.seq (.blk 3 (.seq (.reg [o 0 d58 (.q (.mv s56)),
 o 1 d14 (.q (.mv s58))])
 (.seq (.reg [o 0 d60 (.q (.mv s0)),
 o 1 d61 (.q (.ldn s7 32)),
 o 2 d62 (.q (.mv s14)),
 o 3 d63 (.call p45 [s60, s61, s62]),
 o 4 d59 (.q (.mv s63)),
 o 5 d64 (.q (.ext s59 0)),
 o 6 d65 (.q (.ext s59 1)),
 o 7 d15 (.e (.alo (zz (.int .u8 (.ofNat 0)) 32))),
 o 8 none (.e (.st s15 s64 32)),
 o 9 d16 (.q (.mv s65))])
 (.seq (.reg [o 0 d66 (.q (.mv s16))])
 (.cnd s66 (.seq (.reg [o 0 d67 (.q (.ld1 (.g p7))),
 o 1 d6 (.q (.mv s67))])
 .ret) .skip)))))
 (.reg [o 0 d68 (.q (.bin .add s56 (.v (.int .i64 (.ofNat 1))))),
 o 1 d56 (.q (.mv s68))])))))))
 (.seq (.seq (.reg [o 0 d69 (.q (.mv s0)),
 o 1 d70 (.q (.nck s69)),
 o 2 d71 (.q (.fadr s70 0)),
 o 3 d72 (.q (.ld1 s71)),
 o 4 d73 (.q (.eqp .map false s72 (.v .nilm)))])
 (.cnd s73 (.reg [o 0 d74 (.q (.mv s0)),
 o 1 d75 (.q (.mv s0)),
 o 2 d76 (.e (.mkm (.cells (kk .u8 32)))),
 o 3 d77 (.e (.mkm (.cells [.u8, .u8, .u8, .u8, .u8, .u8, .u8, .u8, .u8, .u8, .u8, .u8, .u8, .u8, .u8, .u8, .u8, .u8, .u8, .u8, .u8, .u8, .u8, .u8, .u8, .u8, .u8, .u8, .u8, .u8, .u8, .u8, .u32]))),
 o 4 d78 (.q (.nck s74)),
 o 5 d79 (.q (.fadr s78 0)),
 o 6 none (.e (.st s79 s76 1)),
 o 7 d80 (.q (.nck s75)),
 o 8 d81 (.q (.fadr s80 1)),
 o 9 none (.e (.st s81 s77 1))]) .skip))
 (.seq (.rgd 1 [o 0 d82 (.q (.ldn s4 4)),
 o 2 d84 (.q (.mv s2)),
 o 3 d85 (.q (.ldn s4 4)),
 o 5 d87 (.q (.mv s0)),
 o 6 d88 (.q (.nck s87)),
 o 7 d89 (.q (.fadr s88 2)),
 o 8 d90 (.q (.ld1 s89)),
 ⟨1, d83, (.call p46 [s82]), none, [(p85, .ldn s4 4, none), (p90, .ld1 s89, none)]⟩,
 ⟨4, d86, (.call p47 [s85]), none, [(p90, .ld1 s89, none)]⟩,
 o 9 d91 (.q (.bld [(.int .u32 (.ofNat 0)), .nils, .nils, (.int .u32 (.ofNat 0)), (.int .u64 (.ofNat 0)), (.int .i64 (.ofNat 0)), (.int .i64 (.ofNat 0))] [(0, 4, s83), (4, 1, s84), (5, 1, s86), (6, 1, s90)])),
 ⟨10, d17, (.l (.alo [(.int .u32 (.ofNat 0)), .nils, .nils, (.int .u32 (.ofNat 0)), (.int .u64 (.ofNat 0)), (.int .i64 (.ofNat 0)), (.int .i64 (.ofNat 0))]) 0), none, [(p82, .ldn s4 4, none), (p85, .ldn s4 4, none), (p90, .ld1 s89, none)]⟩,
 o 11 none (.e (.st s17 s91 7))])
 (.seq (.rgd 0 [o 0 d92 (.q (.mv s0)),
 o 1 d93 (.q (.nck s92)),
 o 2 d94 (.q (.fadr s93 0)),
 o 3 d95 (.q (.ld1 s94)),
 o 4 d96 (.q (.ldn s7 32)),
 o 5 d97 (.q (.ldn s17 7)),
 o 6 none (.e (.mup s95 s96 s97 (.cells (kk .u8 32))))])
 (.seq (.reg [o 0 d98 (.q (.mv s0)),
 o 1 d99 (.q (.nck s98)),
 o 2 d100 (.q (.fadr s99 2)),
 o 3 d101 (.q (.ld1 s100)),
 o 4 d102 (.q (.bin .add s101 (.v (.int .i64 (.ofNat 1))))),
 o 5 d103 (.q (.nck s98)),
 o 6 d104 (.q (.fadr s103 2)),
 o 7 none (.e (.st s104 s102 1))])
 (.seq (.seq (.reg [o 0 d105 (.q (.fadr s4 1)),
 o 1 d106 (.q (.ld1 s105)),
 o 2 d107 (.q (.lenv s106)),
 o 3 d108 (.q (.mv (.v (.int .i64 (.ofNat 0)))))])
 (.blk 4 (.loop (.seq (.reg [o 0 d109 (.q (.bin .lss s108 s107))])
 (.seq (.cnd s109 .skip (.exit 4))
 (.seq (.blk 5 (.seq (.reg [o 0 d110 (.q (.iadr s106 s108 35)),
 o 1 d111 (.q (.ldn s110 35)),
 o 2 d19 (.e (.alo (lapp (zz (.int .u8 (.ofNat 0)) 32) [(.int .u32 (.ofNat 0)), .nils, (.int .u32 (.ofNat 0))]))),
 o 3 none (.e (.st s19 s111 35))])
 (.rgd 0 [o 0 d112 (.q (.mv s0)),
 o 1 d113 (.q (.nck s112)),
 o 2 d114 (.q (.fadr s113 1)),
 o 3 d115 (.q (.ld1 s114)),
 o 4 d116 (.q (.fadr s19 0)),
 o 5 d117 (.q (.ldn s116 33)),
 o 6 d118 (.q (.ldn s7 32)),
 o 7 none (.e (.mup s115 s117 s118 (.cells [.u8, .u8, .u8, .u8, .u8, .u8, .u8, .u8, .u8, .u8, .u8, .u8, .u8, .u8, .u8, .u8, .u8, .u8, .u8, .u8, .u8, .u8, .u8, .u8, .u8, .u8, .u8, .u8, .u8, .u8, .u8, .u8, .u32])))])))
 (.reg [o 0 d119 (.q (.bin .add s108 (.v (.int .i64 (.ofNat 1))))),
 o 1 d108 (.q (.mv s119))])))))))
 (.seq (.rgd 0 [o 0 d120 (.q (.mv s0)),
 o 1 d121 (.q (.mv s0)),
 o 2 d122 (.q (.nck s121)),
 o 3 d123 (.q (.fadr s122 3)),
 o 4 d124 (.q (.ldn s123 3)),
 o 5 d125 (.q (.ldn s17 7)),
 o 6 d126 (.call p48 [s124, s125, (.v (.int .i64 (.ofNat 1)))]),
 o 7 d127 (.q (.nck s120)),
 o 8 d128 (.q (.fadr s127 3)),
 o 9 none (.e (.st s128 s126 3))])
 (.seq (.reg [o 0 d6 (.q (.mv (.v .nili)))])
 .ret))))))))))))
 [.t p6]

noncomputable def f18 : FnE := .code 17
 (.seq (.reg [o 0 d2 (.e (.box s0 32)),
 o 1 d3 (.e (.box s1 32)),
 o 2 d4 (.q (.mv (.v (.bool false))))])
 (.seq (.seq (.reg [o 0 d5 (.q (.mv (.v (.int .i64 (.ofNat 0)))))])
 (.blk 0 (.loop (.seq (.seq (.reg [o 0 d6 (.q (.mv s5)),
 o 1 d7 (.q (.bin .lss s6 (.v (.int .i64 (.ofNat 32)))))])
 (.cnd s7 .skip (.exit 0)))
 (.seq (.blk 1 (.seq (.rgd 0 [o 0 d10 (.q (.mv s5)),
 o 1 d11 (.q (.iada s2 s10 1 32)),
 o 2 d12 (.q (.ld1 s11)),
 o 3 d13 (.q (.mv s5)),
 o 4 d14 (.q (.iada s3 s13 1 32)),
 o 5 d15 (.q (.ld1 s14)),
 o 6 d16 (.q (.bin .neq s12 s15))])
 (.cnd s16 (.seq (.reg [o 0 d4 (.q (.mv (.v (.bool false))))])
 .ret) .skip)))
 (.reg [o 0 d8 (.q (.mv s5)),
 o 1 d9 (.q (.bin .add s8 (.v (.int .i64 (.ofNat 1))))),
 o 2 d5 (.q (.mv s9))]))))))
 (.seq (.reg [o 0 d4 (.q (.mv (.v (.bool true))))])
 .ret)))
 [.t p4]

noncomputable def f19 : FnE := .code 14
 (.seq (.reg [o 0 d0 (.q (.mv (.v (.bool false))))])
 (.seq (.reg [o 0 d5 (.e (.bsl [(.int .i64 (.ofNat 0))] [(0, 1, (.v (.int .i64 (.ofNat 50))))] 1 1)),
 o 1 d6 (.call p54 [s5]),
 o 2 d4 (.q (.mv s6)),
 o 3 d7 (.q (.ext s4 0)),
 o 4 d8 (.q (.ext s4 1)),
 o 5 d9 (.q (.ext s4 2)),
 o 6 d1 (.q (.mv s7)),
 o 7 d2 (.q (.mv s8)),
 o 8 d3 (.q (.mv s9))])
 (.seq (.reg [o 0 d10 (.q (.mv s1)),
 o 1 d11 (.call p20 [s10, (.v (.int .i64 (.ofNat 10000))), (.v (.int .i64 (.ofNat 5)))]),
 o 2 d12 (.q (.lenv s11)),
 o 3 d13 (.q (.bin .eql s12 (.v (.int .i64 (.ofNat 1))))),
 o 4 d0 (.q (.mv s13))])
 .ret)))
 [.t p0]

noncomputable def f20 : FnE := .code 24
 (.seq (.reg [o 0 d6 (.q (.mv (.v .nils)))])
 (.seq (.reg [o 0 d9 (.q (.mv s0)),
 o 1 d10 (.e (.mkm (.cells (kk .u8 32)))),
 o 2 d11 (.q (.mv s1)),
 o 3 d12 (.q (.mv s2)),
 o 4 d13 (.q (.bld [.nilp, .nilm, (.int .i64 (.ofNat 0)), (.int .i64 (.ofNat 0)), .nils] [(0, 1, s9), (1, 1, s10), (2, 1, s11), (3, 1, s12)])),
 o 5 d14 (.e (.box s13 5)),
 o 6 d7 (.q (.mv s14))])
 (.seq (.reg [o 0 d15 (.q (.mv s0)),
 o 1 d16 (.call p50 [s15]),
 o 2 d8 (.q (.mv s16))])
 (.seq (.blk 0 (.loop (.seq (.seq (.reg [o 0 d17 (.q (.mv s7)),
 o 1 d18 (.q (.mv s8)),
 o 2 d19 (.call p55 [s17, s18])])
 (.cnd s19 .skip (.exit 0)))
 (.blk 1 .skip))))
 (.seq (.reg [o 0 d20 (.q (.mv s7)),
 o 1 d21 (.q (.nck s20)),
 o 2 d22 (.q (.fadr s21 4)),
 o 3 d23 (.q (.ld1 s22)),
 o 4 d6 (.q (.mv s23))])
 .ret)))))
 [.t p6]

noncomputable def f21 : FnE := .code 75
 (.seq (.reg [o 0 d2 (.e (.box s0 4)),
 o 1 d3 (.e (.box s1 4)),
 o 2 d4 (.q (.mv (.v (.bool false))))])
 (.seq (.seq (.reg [o 0 d7 (.q (.fadr s2 0)),
 o 1 d8 (.q (.ld1 s7)),
 o 2 d9 (.q (.fadr s3 0)),
 o 3 d10 (.q (.ld1 s9)),
 o 4 d11 (.q (.bin .neq s8 s10)),
 o 5 d12 (.q (.mv s11)),
 ⟨6, d13, (.q (.fadr s2 3)), (some (p12, false)), []⟩,
 ⟨7, d14, (.q (.ld1 s13)), (some (p12, false)), []⟩,
 ⟨8, d15, (.q (.fadr s3 3)), (some (p12, false)), []⟩,
 ⟨9, d16, (.q (.ld1 s15)), (some (p12, false)), []⟩,
 ⟨10, d17, (.q (.bin .neq s14 s16)), (some (p12, false)), []⟩,
 o 11 d18 (.q (.pick s12 (.v (.bool true)) s17)),
 o 12 d19 (.q (.mv s18)),
 ⟨13, d20, (.q (.fadr s2 1)), (some (p19, false)), []⟩,
 ⟨14, d21, (.q (.ld1 s20)), (some (p19, false)), []⟩,
 ⟨15, d22, (.q (.lenv s21)), (some (p19, false)), []⟩,
 ⟨16, d23, (.q (.fadr s3 1)), (some (p19, false)), []⟩,
 ⟨17, d24, (.q (.ld1 s23)), (some (p19, false)), []⟩,
 ⟨18, d25, (.q (.lenv s24)), (some (p19, false)), []⟩,
 ⟨19, d26, (.q (.bin .neq s22 s25)), (some (p19, false)), []⟩,
 o 20 d27 (.q (.pick s19 (.v (.bool true)) s26)),
 o 21 d28 (.q (.mv s27)),
 ⟨22, d29, (.q (.fadr s2 2)), (some (p28, false)), []⟩,
 ⟨23, d30, (.q (.ld1 s29)), (some (p28, false)), []⟩,
 ⟨24, d31, (.q (.lenv s30)), (some (p28, false)), []⟩,
 ⟨25, d32, (.q (.fadr s3 2)), (some (p28, false)), []⟩,
 ⟨26, d33, (.q (.ld1 s32)), (some (p28, false)), []⟩,
 ⟨27, d34, (.q (.lenv s33)), (some (p28, false)), []⟩,
 ⟨28, d35, (.q (.bin .neq s31 s34)), (some (p28, false)), []⟩,
 o 29 d36 (.q (.pick s28 (.v (.bool true)) s35))])
 (.cnd s36 (.seq (.reg [o 0 d4 (.q (.mv (.v (.bool false))))])
 .ret) .skip))
 (.seq (.seq (.reg [o 0 d5 (.q (.mv (.v (.int .i64 (.ofNat 0)))))])
 (.blk 0 (.loop (.seq (.seq (.reg [o 0 d37 (.q (.mv s5)),
 o 1 d38 (.q (.fadr s2 1)),
 o 2 d39 (.q (.ld1 s38)),
 o 3 d40 (.q (.lenv s39)),
 o 4 d41 (.q (.bin .lss s37 s40))])
 (.cnd s41 .skip (.exit 0)))
 (.seq (.blk 1 (.seq (.rgd 0 [o 0 d44 (.q (.fadr s2 1)),
 o 1 d45 (.q (.ld1 s44)),
 o 2 d46 (.q (.mv s5)),
 o 3 d47 (.q (.iadr s45 s46 35)),
 o 4 d48 (.q (.ldn s47 35)),
 o 5 d49 (.q (.fadr s3 1)),
 o 6 d50 (.q (.ld1 s49)),
 o 7 d51 (.q (.mv s5)),
 o 8 d52 (.q (.iadr s50 s51 35)),
 o 9 d53 (.q (.ldn s52 35)),
 o 10 d54 (.call p56 [s48, s53]),
 o 11 d55 (.q (.not s54))])
 (.cnd s55 (.seq (.reg [o 0 d4 (.q (.mv (.v (.bool false))))])
 .ret) .skip)))
 (.reg [o 0 d42 (.q (.mv s5)),
 o 1 d43 (.q (.bin .add s42 (.v (.int .i64 (.ofNat 1))))),
 o 2 d5 (.q (.mv s43))]))))))
 (.seq (.seq (.reg [o 0 d6 (.q (.mv (.v (.int .i64 (.ofNat 0)))))])
 (.blk 2 (.loop (.seq (.seq (.reg [o 0 d56 (.q (.mv s6)),
 o 1 d57 (.q (.fadr s2 2)),
 o 2 d58 (.q (.ld1 s57)),
 o 3 d59 (.q (.lenv s58)),
 o 4 d60 (.q (.bin .lss s56 s59))])
 (.cnd s60 .skip (.exit 2)))
 (.seq (.blk 3 (.seq (.rgd 0 [o 0 d63 (.q (.fadr s2 2)),
 o 1 d64 (.q (.ld1 s63)),
 o 2 d65 (.q (.mv s6)),
 o 3 d66 (.q (.iadr s64 s65 33)),
 o 4 d67 (.q (.ldn s66 33)),
 o 5 d68 (.q (.fadr s3 2)),
 o 6 d69 (.q (.ld1 s68)),
 o 7 d70 (.q (.mv s6)),
 o 8 d71 (.q (.iadr s69 s70 33)),
 o 9 d72 (.q (.ldn s71 33)),
 o 10 d73 (.call p57 [s67, s72]),
 o 11 d74 (.q (.not s73))])
 (.cnd s74 (.seq (.reg [o 0 d4 (.q (.mv (.v (.bool false))))])
 .ret) .skip)))
 (.reg [o 0 d61 (.q (.mv s6)),
 o 1 d62 (.q (.bin .add s61 (.v (.int .i64 (.ofNat 1))))),
 o 2 d6 (.q (.mv s62))]))))))
 (.seq (.reg [o 0 d4 (.q (.mv (.v (.bool true))))])
 .ret)))))
 [.t p4]

noncomputable def f22 : FnE := .code 6
 (.seq (.reg [o 0 d1 (.e (.box s0 4)),
 o 1 d2 (.q (.mv (.v (.int .i64 (.ofNat 0)))))])
 (.seq (.reg [o 0 d3 (.q (.ldn s1 4)),
 o 1 d4 (.call p43 [s3]),
 o 2 d5 (.q (.lenv s4)),
 o 3 d2 (.q (.mv s5))])
 .ret))
 [.t p2]

noncomputable def f42 : FnE := .code 8
 (.seq (.reg [o 0 d2 (.e (.alo (zz (.int .u8 (.ofNat 0)) 32)))])
 (.seq (.reg [o 0 d4 (.q (.mv s0)),
 o 1 d5 (.call p11 [s4]),
 o 2 d3 (.e (.alo (zz (.int .u8 (.ofNat 0)) 32))),
 o 3 none (.e (.st s3 s5 32))])
 (.seq (.reg [o 0 d6 (.q (.slca s3 none none 1 32)),
 o 1 d7 (.call p11 [s6]),
 o 2 none (.e (.st s2 s7 32))])
 .ret)))
 [.cn p2 32]

noncomputable def f43 : FnE := .code 81
 (.seq (.reg [o 0 d1 (.e (.box s0 4)),
 o 1 d2 (.q (.mv (.v .nils)))])
 (.seq (.rgd 0 [o 0 d7 (.q (.fadr s1 0)),
 o 1 d8 (.q (.ld1 s7)),
 o 3 d10 (.q (.fadr s1 1)),
 o 4 d11 (.q (.ld1 s10)),
 o 5 d12 (.q (.lenv s11)),
 o 6 d13 (.q (.cvi .u64 s12)),
 ⟨2, d9, (.call p79 [(.v .nils), s8]), none, [(p11, .ld1 s10, none)]⟩,
 o 7 d14 (.call p78 [s9, s13]),
 o 8 d3 (.q (.mv s14))])
 (.seq (.seq (.reg [o 0 d4 (.q (.mv (.v (.int .i64 (.ofNat 0)))))])
 (.blk 0 (.loop (.seq (.seq (.reg [o 0 d15 (.q (.mv s4)),
 o 1 d16 (.q (.fadr s1 1)),
 o 2 d17 (.q (.ld1 s16)),
 o 3 d18 (.q (.lenv s17)),
 o 4 d19 (.q (.bin .lss s15 s18))])
 (.cnd s19 .skip (.exit 0)))
 (.seq (.blk 1 (.seq (.reg [o 0 d22 (.q (.fadr s1 1)),
 o 1 d23 (.q (.ld1 s22)),
 o 2 d24 (.q (.mv s4)),
 o 3 d25 (.q (.iadr s23 s24 35)),
 o 4 d26 (.q (.ldn s25 35)),
 o 5 d5 (.e (.alo (lapp (zz (.int .u8 (.ofNat 0)) 32) [(.int .u32 (.ofNat 0)), .nils, (.int .u32 (.ofNat 0))]))),
 o 6 none (.e (.st s5 s26 35))])
 (.seq (.reg [o 0 d27 (.q (.mv s3)),
 o 1 d28 (.q (.fadr s5 0)),
 o 2 d29 (.q (.fadr s28 0)),
 o 3 d30 (.q (.slca s29 none none 1 32)),
 o 4 d31 (.e (.app s27 s30 1 1 false)),
 o 5 d3 (.q (.mv s31))])
 (.seq (.rgd 0 [o 0 d32 (.q (.mv s3)),
 o 1 d33 (.q (.fadr s5 0)),
 o 2 d34 (.q (.fadr s33 32)),
 o 3 d35 (.q (.ld1 s34)),
 o 5 d37 (.q (.fadr s5 33)),
 o 6 d38 (.q (.ld1 s37)),
 o 7 d39 (.q (.lenv s38)),
 o 8 d40 (.q (.cvi .u64 s39)),
 ⟨4, d36, (.call p79 [s32, s35]), none, [(p38, .ld1 s37, none)]⟩,
 o 9 d41 (.call p78 [s36, s40]),
 o 10 d3 (.q (.mv s41))])
 (.rgd 0 [o 0 d42 (.q (.mv s3)),
 o 1 d43 (.q (.fadr s5 33)),
 o 2 d44 (.q (.ld1 s43)),
 o 4 d46 (.q (.fadr s5 34)),
 o 5 d47 (.q (.ld1 s46)),
 ⟨3, d45, (.e (.app s42 s44 1 1 false)), none, [(p47, .ld1 s46, none)]⟩,
 o 6 d48 (.call p79 [s45, s47]),
 o 7 d3 (.q (.mv s48))])))))
 (.reg [o 0 d20 (.q (.mv s4)),
 o 1 d21 (.q (.bin .add s20 (.v (.int .i64 (.ofNat 1))))),
 o 2 d4 (.q (.mv s21))]))))))
 (.seq (.reg [o 0 d49 (.q (.mv s3)),
 o 1 d50 (.q (.fadr s1 2)),
 o 2 d51 (.q (.ld1 s50)),
 o 3 d52 (.q (.lenv s51)),
 o 4 d53 (.q (.cvi .u64 s52)),
 o 5 d54 (.call p78 [s49, s53]),
 o 6 d3 (.q (.mv s54))])
 (.seq (.seq (.reg [o 0 d6 (.q (.mv (.v (.int .i64 (.ofNat 0)))))])
 (.blk 2 (.loop (.seq (.seq (.reg [o 0 d55 (.q (.mv s6)),
 o 1 d56 (.q (.fadr s1 2)),
 o 2 d57 (.q (.ld1 s56)),
 o 3 d58 (.q (.lenv s57)),
 o 4 d59 (.q (.bin .lss s55 s58))])
 (.cnd s59 .skip (.exit 2)))
 (.seq (.blk 3 (.rgd 0 [o 0 d62 (.q (.mv s3)),
 o 1 d63 (.q (.fadr s1 2)),
 o 2 d64 (.q (.ld1 s63)),
 o 3 d65 (.q (.mv s6)),
 o 4 d66 (.q (.iadr s64 s65 33)),
 o 5 d67 (.q (.fadr s66 0)),
 o 6 d68 (.q (.ld1 s67)),
 o 8 d70 (.q (.fadr s1 2)),
 o 9 d71 (.q (.ld1 s70)),
 o 10 d72 (.q (.mv s6)),
 o 11 d73 (.q (.iadr s71 s72 33)),
 o 12 d74 (.q (.fadr s73 1)),
 o 13 d75 (.q (.slca s74 none none 1 32)),
 ⟨7, d69, (.call p80 [s62, s68]), none, [(p71, .ld1 s70, none), (p75, .slca s74 none none 1 32, none)]⟩,
 o 14 d76 (.e (.app s69 s75 1 1 false)),
 o 15 d3 (.q (.mv s76))]))
 (.reg [o 0 d60 (.q (.mv s6)),
 o 1 d61 (.q (.bin .add s60 (.v (.int .i64 (.ofNat 1))))),
 o 2 d6 (.q (.mv s61))]))))))
 (.seq (.reg [o 0 d77 (.q (.mv s3)),
 o 1 d78 (.q (.fadr s1 3)),
 o 2 d79 (.q (.ld1 s78)),
 o 3 d80 (.call p79 [s77, s79]),
 o 4 d2 (.q (.mv s80))])
 .ret))))))
 [.t p2]

noncomputable def f44 : FnE := .code 6
 (.seq (.reg [o 0 d1 (.e (.box s0 4)),
 o 1 d2 (.e (.alo (zz (.int .u8 (.ofNat 0)) 32)))])
 (.seq (.reg [o 0 d3 (.q (.ldn s1 4)),
 o 1 d4 (.call p82 [s3]),
 o 2 d5 (.call p81 [s4]),
 o 3 none (.e (.st s2 s5 32))])
 .ret))
 [.cn p2 32]

noncomputable def f45 : FnE := .code 24
 (.seq (.reg [o 0 d4 (.e (.box s1 32)),
 o 1 d6 (.e (.alo (zz (.int .u8 (.ofNat 0)) 32))),
 o 2 d7 (.q (.mv (.v (.bool false))))])
 (.seq (.rgd 0 [o 0 d11 (.q (.mv s0)),
 o 1 d12 (.q (.nck s11)),
 o 2 d13 (.q (.fadr s12 1)),
 o 3 d14 (.q (.ld1 s13)),
 o 4 d15 (.q (.ldn s4 32)),
 o 5 d16 (.q (.mv s2)),
 o 6 d17 (.q (.cvi .u32 s16)),
 o 7 d18 (.q (.bld (lapp (zz (.int .u8 (.ofNat 0)) 32) [(.int .u32 (.ofNat 0))]) [(0, 32, s15), (32, 1, s17)])),
 o 8 d19 (.q (.lkp s14 s18 (.cells [.u8, .u8, .u8, .u8, .u8, .u8, .u8, .u8, .u8, .u8, .u8, .u8, .u8, .u8, .u8, .u8, .u8, .u8, .u8, .u8, .u8, .u8, .u8, .u8, .u8, .u8, .u8, .u8, .u8, .u8, .u8, .u8, .u32]) (.agg (zz (.int .u8 (.ofNat 0)) 32)) true)),
 o 9 d10 (.q (.mv s19)),
 o 10 d20 (.q (.ext s10 0)),
 o 11 d21 (.q (.ext s10 1)),
 ⟨12, d8, (.e (.alo (zz (.int .u8 (.ofNat 0)) 32))), none, [(p14, .ld1 s13, none), (p15, .ldn s4 32, none), (p19, .lkp s14 s18 (.cells [.u8, .u8, .u8, .u8, .u8, .u8, .u8, .u8, .u8, .u8, .u8, .u8, .u8, .u8, .u8, .u8, .u8, .u8, .u8, .u8, .u8, .u8, .u8, .u8, .u8, .u8, .u8, .u8, .u8, .u8, .u8, .u8, .u32]) (.agg (zz (.int .u8 (.ofNat 0)) 32)) true, none)]⟩,
 o 13 none (.e (.st s8 s20 32)),
 o 14 d9 (.q (.mv s21))])
 (.seq (.reg [o 0 d22 (.q (.ldn s8 32)),
 o 1 d23 (.q (.mv s9)),
 o 2 none (.e (.st s6 s22 32)),
 o 3 d7 (.q (.mv s23))])
 .ret)))
 [.cn p6 32, .t p7]

noncomputable def f46 : FnE := .code 32
 (.seq (.reg [o 0 d1 (.e (.box s0 4)),
 o 1 d2 (.e (.alo [(.int .u32 (.ofNat 0)), .nils, .nils, (.int .u32 (.ofNat 0))]))])
 (.seq (.rgd 0 [o 0 d4 (.q (.fadr s1 1)),
 o 1 d5 (.q (.ld1 s4)),
 o 3 d7 (.q (.fadr s1 2)),
 o 4 d8 (.q (.ld1 s7)),
 ⟨2, d6, (.call p83 [s5]), none, [(p8, .ld1 s7, none)]⟩,
 o 5 d9 (.call p84 [s8]),
 o 6 d10 (.q (.fadr s1 1)),
 o 7 none (.e (.st s10 s6 1)),
 o 8 d11 (.q (.fadr s1 2)),
 o 9 none (.e (.st s11 s9 1))])
 (.seq (.seq (.reg [o 0 d12 (.q (.fadr s1 1)),
 o 1 d13 (.q (.ld1 s12)),
 o 2 d14 (.q (.lenv s13)),
 o 3 d15 (.q (.mv (.v (.int .i64 (.ofNat 0)))))])
 (.blk 0 (.loop (.seq (.reg [o 0 d16 (.q (.bin .lss s15 s14))])
 (.seq (.cnd s16 .skip (.exit 0))
 (.seq (.blk 1 (.seq (.reg [o 0 d17 (.q (.mv s15)),
 o 1 d3 (.q (.mv s17))])
 (.rgd 0 [o 0 d18 (.q (.fadr s1 1)),
 o 1 d19 (.q (.ld1 s18)),
 o 2 d20 (.q (.mv s3)),
 o 3 d21 (.q (.fadr s1 1)),
 o 4 d22 (.q (.ld1 s21)),
 o 5 d23 (.q (.mv s3)),
 o 6 d24 (.q (.iadr s22 s23 35)),
 o 7 d25 (.q (.fadr s24 33)),
 o 8 d26 (.q (.ld1 s25)),
 ⟨9, d27, (.call p85 [s26]), none, [(p19, .ld1 s18, none)]⟩,
 o 10 d28 (.q (.iadr s19 s20 35)),
 o 11 d29 (.q (.fadr s28 33)),
 o 12 none (.e (.st s29 s27 1))])))
 (.reg [o 0 d30 (.q (.bin .add s15 (.v (.int .i64 (.ofNat 1))))),
 o 1 d15 (.q (.mv s30))])))))))
 (.seq (.reg [o 0 d31 (.q (.ldn s1 4)),
 o 1 none (.e (.st s2 s31 4))])
 .ret))))
 [.cn p2 4]

noncomputable def f47 : FnE := .code 6
 (.seq (.reg [o 0 d1 (.e (.box s0 4)),
 o 1 d2 (.q (.mv (.v (.int .i64 (.ofNat 0)))))])
 (.seq (.reg [o 0 d3 (.q (.ldn s1 4)),
 o 1 d4 (.call p82 [s3]),
 o 2 d5 (.q (.lenv s4)),
 o 3 d2 (.q (.mv s5))])
 .ret))
 [.t p2]

noncomputable def f48 : FnE := .code 27
 (.seq (.reg [o 0 d3 (.e (.box s0 3)),
 o 1 d4 (.e (.box s1 7)),
 o 2 d6 (.e (.alo [(.int .i64 (.ofNat 0)), (.int .i64 (.ofNat 0)), (.int .u64 (.ofNat 0))]))])
 (.seq (.reg [o 0 d7 (.q (.fadr s3 0)),
 o 1 d8 (.q (.ld1 s7)),
 o 2 d9 (.q (.mv s2)),
 o 3 d10 (.q (.bin .add s8 s9)),
 o 4 d11 (.q (.fadr s3 1)),
 o 5 d12 (.q (.ld1 s11)),
 o 6 d13 (.q (.mv s2)),
 o 7 d14 (.q (.fadr s4 5)),
 o 8 d15 (.q (.ld1 s14)),
 o 9 d16 (.q (.bin .mul s13 s15)),
 o 10 d17 (.q (.bin .add s12 s16)),
 o 11 d18 (.q (.fadr s3 2)),
 o 12 d19 (.q (.ld1 s18)),
 o 13 d20 (.q (.mv s2)),
 o 14 d21 (.q (.cvi .u64 s20)),
 o 15 d22 (.q (.fadr s4 4)),
 o 16 d23 (.q (.ld1 s22)),
 o 17 d24 (.q (.bin .mul s21 s23)),
 o 18 d25 (.q (.bin .add s19 s24)),
 o 19 d26 (.q (.bld [(.int .i64 (.ofNat 0)), (.int .i64 (.ofNat 0)), (.int .u64 (.ofNat 0))] [(0, 1, s10), (1, 1, s17), (2, 1, s25)])),
 o 20 none (.e (.st s6 s26 3))])
 .ret))
 [.cn p6 3]

noncomputable def f49 : FnE := .code 11
 (.seq (.reg [o 0 d2 (.q (.mv (.v .nilp)))])
 (.seq (.reg [o 0 d3 (.q (.mv (.f 86)))])
 (.seq (.seq (.reg [o 0 d4 (.q (.mv s0))])
 (.cnd s4 (.reg [o 0 d3 (.q (.mv (.f 87)))]) .skip))
 (.seq (.reg [o 0 d5 (.e (.mkm (.cells (kk .u8 32)))),
 o 1 d6 (.q (.mv s3)),
 o 2 d7 (.q (.bld [.nils, .nilm, .nilf] [(1, 1, s5), (2, 1, s6)])),
 o 3 d8 (.e (.box s7 3)),
 o 4 d9 (.q (.bld [.nilp] [(0, 1, s8)])),
 o 5 d10 (.e (.box s9 1)),
 o 6 d2 (.q (.mv s10))])
 .ret))))
 [.t p2]

noncomputable def f50 : FnE := .code 9
 (.seq (.reg [o 0 d2 (.q (.mv (.v .nils)))])
 (.seq (.reg [o 0 d3 (.q (.mv s0)),
 o 1 d4 (.q (.nck s3)),
 o 2 d5 (.q (.fadr s4 0)),
 o 3 d6 (.q (.ld1 s5)),
 o 4 d7 (.call p89 [s6]),
 o 5 d8 (.call p88 [s7, (.f 90)]),
 o 6 d2 (.q (.mv s8))])
 .ret))
 [.t p2]

noncomputable def f51 : FnE := .code 16
 (.seq (.reg [o 0 d3 (.e (.box s1 34))])
 (.seq (.reg [o 0 d4 (.q (.mv s0)),
 o 1 d5 (.q (.fadr s3 0)),
 o 2 d6 (.q (.ldn s5 32)),
 o 3 d7 (.call p91 [s4, s6])])
 (.rgd 0 [o 0 d8 (.q (.mv s0)),
 o 1 d9 (.q (.nck s8)),
 o 2 d10 (.q (.fadr s9 0)),
 o 3 d11 (.q (.ld1 s10)),
 o 4 d12 (.q (.mki 171 s11)),
 o 5 d13 (.q (.ldn s3 34)),
 o 6 d14 (.q (.mki 127 s13)),
 o 7 d15 (.call p92 [s12, s14])])))
 []

noncomputable def f53 : FnE := .code 17
 (.seq (.reg [o 0 d2 (.e (.alo (lapp (zz (.int .u8 (.ofNat 0)) 32) [(.int .u64 (.ofNat 0)), (.int .i64 (.ofNat 0))]))),
 o 1 d3 (.q (.mv (.v (.bool false))))])
 (.seq (.seq (.reg [o 0 d4 (.q (.mv s0)),
 o 1 d5 (.call p94 [s4]),
 o 2 d6 (.q (.bin .eql s5 (.v (.int .i64 (.ofNat 0)))))])
 (.cnd s6 (.seq (.reg [o 0 d7 (.q (.bld (lapp (zz (.int .u8 (.ofNat 0)) 32) [(.int .u64 (.ofNat 0)), (.int .i64 (.ofNat 0))]) [])),
 o 1 none (.e (.st s2 s7 34)),
 o 2 d3 (.q (.mv (.v (.bool false))))])
 .ret) .skip))
 (.seq (.reg [o 0 d8 (.q (.mv s0)),
 o 1 d9 (.q (.nck s8)),
 o 2 d10 (.q (.fadr s9 0)),
 o 3 d11 (.q (.ld1 s10)),
 o 4 d12 (.q (.nck s11)),
 o 5 d13 (.q (.fadr s12 0)),
 o 6 d14 (.q (.ld1 s13)),
 o 7 d15 (.q (.iadr s14 (.v (.int .i64 (.ofNat 0))) 34)),
 o 8 d16 (.q (.ldn s15 34)),
 o 9 none (.e (.st s2 s16 34)),
 o 10 d3 (.q (.mv (.v (.bool true))))])
 .ret)))
 [.cn p2 34, .t p3]

noncomputable def f54 : FnE := .code 107
 (.seq (.reg [o 0 d2 (.q (.mv (.v .nilp))),
 o 1 d3 (.q (.mv (.v .nilp))),
 o 2 d4 (.q (.mv (.v .nils)))])
 (.seq (.reg [o 0 d12 (.q (.bld [.nilm, .nilm, (.int .i64 (.ofNat 0)), (.int .i64 (.ofNat 0)), (.int .i64 (.ofNat 0)), (.int .u64 (.ofNat 0))] [])),
 o 1 d13 (.e (.box s12 6)),
 o 2 d5 (.q (.mv s13))])
 (.seq (.reg [o 0 d14 (.q (.bld [.nils] [])),
 o 1 d15 (.e (.box s14 1)),
 o 2 d6 (.q (.mv s15))])
 (.seq (.reg [o 0 d7 (.q (.mv (.v .nils)))])
 (.seq (.seq (.reg [o 0 d8 (.q (.mv (.v (.int .i64 (.ofNat 0)))))])
 (.blk 0 (.loop (.seq (.seq (.reg [o 0 d16 (.q (.mv s8)),
 o 1 d17 (.q (.mv s0)),
 o 2 d18 (.q (.lenv s17)),
 o 3 d19 (.q (.bin .lss s16 s18))])
 (.cnd s19 .skip (.exit 0)))
 (.seq (.blk 1 (.seq (.reg [o 0 d22 (.q (.mv s8)),
 o 1 d23 (.q (.cvi .u32 s22)),
 o 2 d24 (.q (.mv s8)),
 o 3 d25 (.q (.cvi .u8 s24)),
 o 4 d26 (.q (.bld (zz (.int .u8 (.ofNat 0)) 32) [(0, 1, s25), (1, 1, (.v (.int .u8 (.ofNat 3))))])),
 o 5 d27 (.q (.bld (lapp (zz (.int .u8 (.ofNat 0)) 32) [(.int .u32 (.ofNat 0))]) [(0, 32, s26)])),
 o 6 d28 (.q (.mv s0)),
 o 7 d29 (.q (.mv s8)),
 o 8 d30 (.q (.iadr s28 s29 1)),
 o 9 d31 (.q (.ld1 s30)),
 o 10 d32 (.q (.bin .quo s31 (.v (.int .i64 (.ofNat 7))))),
 o 11 d33 (.call p9 [s32, (.v (.int .i64 (.ofNat 60)))]),
 o 12 d34 (.e (.mks s33 s33 [(.int .u8 (.ofNat 0))] 1 1)),
 o 13 d35 (.q (.bld (lapp (zz (.int .u8 (.ofNat 0)) 32) [(.int .u32 (.ofNat 0)), .nils, (.int .u32 (.ofNat 0))]) [(0, 33, s27), (33, 1, s34)])),
 o 14 d36 (.e (.bsl (lapp (zz (.int .u8 (.ofNat 0)) 32) [(.int .u32 (.ofNat 0)), .nils, (.int .u32 (.ofNat 0))]) [(0, 35, s35)] 1 35)),
 o 15 d37 (.q (.bld (lapp [(.int .u64 (.ofNat 0))] (zz (.int .u8 (.ofNat 0)) 32)) [])),
 o 16 d38 (.q (.bld (lapp [(.int .u64 (.ofNat 0))] (zz (.int .u8 (.ofNat 0)) 32)) [])),
 o 17 d39 (.q (.bld (lapp [(.int .u64 (.ofNat 0))] (zz (.int .u8 (.ofNat 0)) 32)) [])),
 o 18 d40 (.e (.bsl (lapp [(.int .u64 (.ofNat 0))] (lapp (zz (.int .u8 (.ofNat 0)) 32) (lapp [(.int .u64 (.ofNat 0)), (.int .u8 (.ofNat 0)), (.int .u8 (.ofNat 0)), (.int .u8 (.ofNat 0)), (.int .u8 (.ofNat 0)), (.int .u8 (.ofNat 0)), (.int .u8 (.ofNat 0)), (.int .u8 (.ofNat 0)), (.int .u8 (.ofNat 0)), (.int .u8 (.ofNat 0)), (.int .u8 (.ofNat 0)), (.int .u8 (.ofNat 0)), (.int .u8 (.ofNat 0)), (.int .u8 (.ofNat 0)), (.int .u8 (.ofNat 0)), (.int .u8 (.ofNat 0)), (.int .u8 (.ofNat 0)), (.int .u8 (.ofNat 0)), (.int .u8 (.ofNat 0)), (.int .u8 (.ofNat 0)), (.int .u8 (.ofNat 0)), (.int .u8 (.ofNat 0)), (.int .u8 (.ofNat 0)), (.int .u8 (.ofNat 0)), (.int .u8 (.ofNat 0)), (.int .u8 (.ofNat 0)), (.int .u8 (.ofNat 0)), (.int .u8 (.ofNat 0)), (.int .u8 (.ofNat 0)), (.int .u8 (.ofNat 0)), (.int .u8 (.ofNat 0)), (.int .u8 (.ofNat 0)), (.int .u8 (.ofNat 0)), (.int .u64 (.ofNat 0))] (zz (.int .u8 (.ofNat 0)) 32)))) [(0, 33, s37), (33, 33, s38), (66, 33, s39)] 3 33)),
 o 19 d41 (.q (.bld [(.int .u32 (.ofNat 0)), .nils, .nils, (.int .u32 (.ofNat 0))] [(0, 1, s23), (1, 1, s36), (2, 1, s40)])),
 o 20 d9 (.e (.alo [(.int .u32 (.ofNat 0)), .nils, .nils, (.int .u32 (.ofNat 0))])),
 o 21 none (.e (.st s9 s41 4))])
 (.seq (.seq (.reg [o 0 d10 (.q (.mv (.v (.int .i64 (.ofNat 0)))))])
 (.blk 2 (.loop (.seq (.seq (.reg [o 0 d42 (.q (.mv s10)),
 o 1 d43 (.q (.mv s0)),
 o 2 d44 (.q (.mv s8)),
 o 3 d45 (.q (.iadr s43 s44 1)),
 o 4 d46 (.q (.ld1 s45)),
 o 5 d47 (.call p9 [s46, (.v (.int .i64 (.ofNat 3)))]),
 o 6 d48 (.q (.bin .lss s42 s47)),
 o 7 d49 (.q (.mv s48)),
 ⟨8, d50, (.q (.mv s7)), (some (p49, true)), []⟩,
 ⟨9, d51, (.q (.lenv s50)), (some (p49, true)), []⟩,
 ⟨10, d52, (.q (.bin .gtr s51 (.v (.int .i64 (.ofNat 0))))), (some (p49, true)), []⟩,
 o 11 d53 (.q (.pick s49 s52 (.v (.bool false))))])
 (.cnd s53 .skip (.exit 2)))
 (.seq (.blk 3 (.rgd 0 [o 0 d56 (.q (.fadr s9 1)),
 o 1 d57 (.q (.ld1 s56)),
 o 2 d58 (.q (.mv s7)),
 o 3 d59 (.q (.mv s0)),
 o 4 d60 (.q (.mv s8)),
 o 5 d61 (.q (.iadr s59 s60 1)),
 o 6 d62 (.q (.ld1 s61)),
 o 7 d63 (.q (.bin .quo s62 (.v (.int .i64 (.ofNat 3))))),
 o 8 d64 (.q (.mv s10)),
 o 9 d65 (.q (.bin .add s63 s64)),
 o 10 d66 (.q (.mv s7)),
 o 11 d67 (.q (.lenv s66)),
 o 15 d71 (.q (.mv s0)),
 o 16 d72 (.q (.mv s8)),
 o 17 d73 (.q (.iadr s71 s72 1)),
 o 18 d74 (.q (.ld1 s73)),
 o 19 d75 (.q (.bin .quo s74 (.v (.int .i64 (.ofNat 11))))),
 ⟨12, d68, (.call p9 [s65, s67]), none, [(p57, .ld1 s56, none), (p74, .ld1 s73, none)]⟩,
 o 13 d69 (.q (.iadr s58 s68 32)),
 o 14 d70 (.q (.ldn s69 32)),
 ⟨20, d76, (.call p9 [s75, (.v (.int .i64 (.ofNat 3)))]), none, [(p57, .ld1 s56, none), (p70, .ldn s69 32, none)]⟩,
 o 21 d77 (.q (.cvi .u32 s76)),
 o 22 d78 (.q (.bld (lapp (zz (.int .u8 (.ofNat 0)) 32) [(.int .u32 (.ofNat 0))]) [(0, 32, s70), (32, 1, s77)])),
 o 23 d79 (.q (.bld (lapp (zz (.int .u8 (.ofNat 0)) 32) [(.int .u32 (.ofNat 0)), .nils, (.int .u32 (.ofNat 0))]) [(0, 33, s78)])),
 ⟨24, d80, (.e (.bsl (lapp (zz (.int .u8 (.ofNat 0)) 32) [(.int .u32 (.ofNat 0)), .nils, (.int .u32 (.ofNat 0))]) [(0, 35, s79)] 1 35)), none, [(p57, .ld1 s56, none)]⟩,
 o 25 d81 (.e (.app s57 s80 35 72 false)),
 o 26 d82 (.q (.fadr s9 1)),
 o 27 none (.e (.st s82 s81 1))]))
 (.reg [o 0 d54 (.q (.mv s10)),
 o 1 d55 (.q (.bin .add s54 (.v (.int .i64 (.ofNat 1))))),
 o 2 d10 (.q (.mv s55))]))))))
 (.seq (.reg [o 0 d83 (.q (.mv s0)),
 o 1 d84 (.q (.mv s8)),
 o 2 d85 (.q (.iadr s83 s84 1)),
 o 3 d86 (.q (.ld1 s85)),
 o 4 d87 (.q (.bin .quo s86 (.v (.int .i64 (.ofNat 5))))),
 o 5 d88 (.call p9 [s87, (.v (.int .i64 (.ofNat 500)))]),
 o 6 d89 (.q (.cvi .u64 s88)),
 o 7 d11 (.q (.mv s89))])
 (.seq (.seq (.reg [o 0 d90 (.q (.mv s6)),
 o 1 d91 (.q (.ldn s9 4)),
 o 2 d92 (.q (.mv s11)),
 o 3 d93 (.call p77 [s90, s91, s92]),
 o 4 d94 (.q (.bin .eql s93 (.v (.int .i64 (.ofNat 0)))))])
 (.cnd s94 (.reg [o 0 d95 (.q (.mv s5)),
 o 1 d96 (.q (.ldn s9 4)),
 o 2 d97 (.q (.mv s11)),
 o 3 d98 (.call p16 [s95, s96, s97])]) .skip))
 (.reg [o 0 d99 (.q (.mv s7)),
 o 1 d100 (.q (.ldn s9 4)),
 o 2 d101 (.call p15 [s100]),
 o 3 d102 (.e (.bsl (zz (.int .u8 (.ofNat 0)) 32) [(0, 32, s101)] 1 32)),
 o 4 d103 (.e (.app s99 s102 32 32 false)),
 o 5 d7 (.q (.mv s103))]))))))
 (.reg [o 0 d20 (.q (.mv s8)),
 o 1 d21 (.q (.bin .add s20 (.v (.int .i64 (.ofNat 1))))),
 o 2 d8 (.q (.mv s21))]))))))
 (.seq (.reg [o 0 d104 (.q (.mv s5)),
 o 1 d105 (.q (.mv s6)),
 o 2 d106 (.q (.mv s7)),
 o 3 d2 (.q (.mv s104)),
 o 4 d3 (.q (.mv s105)),
 o 5 d4 (.q (.mv s106))])
 .ret))))))
 [.t p2, .t p3, .t p4]

noncomputable def f55 : FnE := .code 115
 (.seq (.reg [o 0 d4 (.q (.mv (.v (.bool false))))])
 (.seq (.reg [o 0 d14 (.call p49 [(.v (.bool false))]),
 o 1 d5 (.q (.mv s14))])
 (.seq (.seq (.reg [o 0 d15 (.q (.mv s1)),
 o 1 d16 (.q (.lenv s15)),
 o 2 d17 (.q (.mv (.v (.int .i64 (.ofNat 0)))))])
 (.blk 0 (.loop (.seq (.reg [o 0 d18 (.q (.bin .lss s17 s16))])
 (.seq (.cnd s18 .skip (.exit 0))
 (.seq (.blk 1 (.seq (.reg [o 0 d19 (.q (.iadr s15 s17 32)),
 o 1 d20 (.q (.ldn s19 32)),
 o 2 d7 (.e (.alo (zz (.int .u8 (.ofNat 0)) 32))),
 o 3 none (.e (.st s7 s20 32))])
 (.seq (.seq (.rgd 0 [o 0 d21 (.q (.mv s0)),
 o 1 d22 (.q (.nck s21)),
 o 2 d23 (.q (.fadr s22 1)),
 o 3 d24 (.q (.ld1 s23)),
 o 4 d25 (.q (.ldn s7 32)),
 o 5 d26 (.q (.lkp s24 s25 (.cells (kk .u8 32)) (.bool false) false))])
 (.cnd s26 (.exit 1) .skip))
 (.seq (.rgd 1 [o 0 d27 (.q (.mv s0)),
 o 1 d28 (.q (.nck s27)),
 o 2 d29 (.q (.fadr s28 0)),
 o 3 d30 (.q (.ld1 s29)),
 o 4 d31 (.q (.mv s0)),
 o 5 d32 (.q (.ldn s7 32)),
 ⟨6, d33, (.call p96 [s31, s32]), none, [(p30, .ld1 s29, none)]⟩,
 o 7 d34 (.call p95 [s30, s33]),
 ⟨8, d8, (.l (.alo [(.int .i64 (.ofNat 0)), (.int .i64 (.ofNat 0)), (.int .u64 (.ofNat 0))]) 0), none, [(p30, .ld1 s29, none), (p32, .ldn s7 32, none)]⟩,
 o 9 none (.e (.st s8 s34 3))])
 (.seq (.rgd 0 [o 0 d35 (.q (.fadr s8 1)),
 o 1 d36 (.q (.ld1 s35)),
 o 2 d37 (.q (.mv s0)),
 o 3 d38 (.q (.nck s37)),
 o 4 d39 (.q (.fadr s38 2)),
 o 5 d40 (.q (.ld1 s39)),
 o 6 d41 (.q (.bin .leq s36 s40)),
 o 7 d42 (.q (.mv s41)),
 ⟨8, d43, (.q (.fadr s8 0)), (some (p42, true)), []⟩,
 ⟨9, d44, (.q (.ld1 s43)), (some (p42, true)), []⟩,
 ⟨10, d45, (.q (.mv s0)), (some (p42, true)), []⟩,
 ⟨11, d46, (.q (.nck s45)), (some (p42, true)), []⟩,
 ⟨12, d47, (.q (.fadr s46 3)), (some (p42, true)), []⟩,
 ⟨13, d48, (.q (.ld1 s47)), (some (p42, true)), []⟩,
 ⟨14, d49, (.q (.bin .leq s44 s48)), (some (p42, true)), []⟩,
 o 15 d50 (.q (.pick s42 s49 (.v (.bool false))))])
 (.cnd s50 (.reg [o 0 d51 (.q (.mv s5)),
 o 1 d52 (.q (.ldn s7 32)),
 o 2 d53 (.q (.fadr s8 2)),
 o 3 d54 (.q (.ld1 s53)),
 o 4 d55 (.q (.fadr s8 1)),
 o 5 d56 (.q (.ld1 s55)),
 o 6 d57 (.q (.bld (lapp (zz (.int .u8 (.ofNat 0)) 32) [(.int .u64 (.ofNat 0)), (.int .i64 (.ofNat 0))]) [(0, 32, s52), (32, 1, s54), (33, 1, s56)])),
 o 7 d58 (.call p51 [s51, s57])]) .skip))))))
 (.reg [o 0 d59 (.q (.bin .add s17 (.v (.int .i64 (.ofNat 1))))),
 o 1 d17 (.q (.mv s59))])))))))
 (.seq (.reg [o 0 d61 (.q (.mv s5)),
 o 1 d62 (.call p53 [s61]),
 o 2 d60 (.q (.mv s62)),
 o 3 d63 (.q (.ext s60 0)),
 o 4 d64 (.q (.ext s60 1)),
 o 5 d9 (.e (.alo (lapp (zz (.int .u8 (.ofNat 0)) 32) [(.int .u64 (.ofNat 0)), (.int .i64 (.ofNat 0))]))),
 o 6 none (.e (.st s9 s63 34)),
 o 7 d10 (.q (.mv s64))])
 (.seq (.seq (.reg [o 0 d65 (.q (.mv s10)),
 o 1 d66 (.q (.not s65))])
 (.cnd s66 (.seq (.reg [o 0 d4 (.q (.mv (.v (.bool false))))])
 .ret) .skip))
 (.seq (.reg [o 0 d67 (.q (.mv s0)),
 o 1 d68 (.q (.fadr s9 0)),
 o 2 d69 (.q (.ldn s68 32)),
 o 3 d70 (.call p96 [s67, s69]),
 o 4 d11 (.q (.mv s70))])
 (.seq (.rgd 0 [o 0 d71 (.q (.mv s0)),
 o 1 d72 (.q (.mv s0)),
 o 2 d73 (.q (.nck s72)),
 o 3 d74 (.q (.fadr s73 4)),
 o 4 d75 (.q (.ld1 s74)),
 o 5 d76 (.q (.mv s0)),
 o 6 d77 (.q (.nck s76)),
 o 7 d78 (.q (.fadr s77 0)),
 o 8 d79 (.q (.ld1 s78)),
 o 9 d80 (.q (.mv s11)),
 ⟨10, d81, (.call p97 [s79, s80]), none, [(p75, .ld1 s74, none)]⟩,
 o 11 d82 (.e (.app s75 s81 4 64 false)),
 o 12 d83 (.q (.nck s71)),
 o 13 d84 (.q (.fadr s83 4)),
 o 14 none (.e (.st s84 s82 1))])
 (.seq (.seq (.reg [o 0 d85 (.q (.mv s11)),
 o 1 d86 (.q (.lenv s85)),
 o 2 d87 (.q (.mv (.v (.int .i64 (.ofNat 0)))))])
 (.blk 2 (.loop (.seq (.reg [o 0 d88 (.q (.bin .lss s87 s86))])
 (.seq (.cnd s88 .skip (.exit 2))
 (.seq (.blk 3 (.seq (.reg [o 0 d89 (.q (.iadr s85 s87 32)),
 o 1 d90 (.q (.ldn s89 32)),
 o 2 d13 (.e (.alo (zz (.int .u8 (.ofNat 0)) 32))),
 o 3 none (.e (.st s13 s90 32))])
 (.rgd 0 [o 0 d91 (.q (.mv s0)),
 o 1 d92 (.q (.nck s91)),
 o 2 d93 (.q (.fadr s92 1)),
 o 3 d94 (.q (.ld1 s93)),
 o 4 d95 (.q (.ldn s13 32)),
 o 5 none (.e (.mup s94 s95 (.v (.bool true)) (.cells (kk .u8 32))))])))
 (.reg [o 0 d96 (.q (.bin .add s87 (.v (.int .i64 (.ofNat 1))))),
 o 1 d87 (.q (.mv s96))])))))))
 (.seq (.rgd 0 [o 0 d97 (.q (.mv s0)),
 o 1 d98 (.q (.nck s97)),
 o 2 d99 (.q (.fadr s98 2)),
 o 3 d100 (.q (.ld1 s99)),
 o 4 d101 (.q (.fadr s9 33)),
 o 5 d102 (.q (.ld1 s101)),
 o 6 d103 (.q (.bin .sub s100 s102)),
 o 7 d104 (.q (.nck s97)),
 o 8 d105 (.q (.fadr s104 2)),
 o 9 none (.e (.st s105 s103 1))])
 (.seq (.reg [o 0 d106 (.q (.mv s0)),
 o 1 d107 (.q (.nck s106)),
 o 2 d108 (.q (.fadr s107 3)),
 o 3 d109 (.q (.ld1 s108)),
 o 4 d110 (.q (.mv s11)),
 o 5 d111 (.q (.lenv s110)),
 o 6 d112 (.q (.bin .sub s109 s111)),
 o 7 d113 (.q (.nck s106)),
 o 8 d114 (.q (.fadr s113 3)),
 o 9 none (.e (.st s114 s112 1))])
 (.seq (.reg [o 0 d4 (.q (.mv (.v (.bool true))))])
 .ret)))))))))))
 [.t p4]

noncomputable def f56 : FnE := .code 24
 (.seq (.reg [o 0 d2 (.e (.box s0 35)),
 o 1 d3 (.e (.box s1 35)),
 o 2 d4 (.q (.mv (.v (.bool false))))])
 (.seq (.reg [o 0 d5 (.q (.fadr s2 0)),
 o 1 d6 (.q (.ldn s5 33)),
 o 2 d7 (.q (.fadr s3 0)),
 o 3 d8 (.q (.ldn s7 33)),
 o 4 d9 (.call p98 [s6, s8]),
 o 5 d10 (.q (.mv s9)),
 ⟨6, d11, (.q (.fadr s2 33)), (some (p10, true)), []⟩,
 ⟨7, d12, (.q (.ld1 s11)), (some (p10, true)), []⟩,
 ⟨8, d13, (.q (.fadr s3 33)), (some (p10, true)), []⟩,
 ⟨9, d14, (.q (.ld1 s13)), (some (p10, true)), []⟩,
 ⟨10, d15, (.call p99 [s12, s14]), (some (p10, true)), []⟩,
 o 11 d16 (.q (.pick s10 s15 (.v (.bool false)))),
 o 12 d17 (.q (.mv s16)),
 ⟨13, d18, (.q (.fadr s2 34)), (some (p17, true)), []⟩,
 ⟨14, d19, (.q (.ld1 s18)), (some (p17, true)), []⟩,
 ⟨15, d20, (.q (.fadr s3 34)), (some (p17, true)), []⟩,
 ⟨16, d21, (.q (.ld1 s20)), (some (p17, true)), []⟩,
 ⟨17, d22, (.q (.bin .eql s19 s21)), (some (p17, true)), []⟩,
 o 18 d23 (.q (.pick s17 s22 (.v (.bool false)))),
 o 19 d4 (.q (.mv s23))])
 .ret))
 [.t p4]

noncomputable def f57 : FnE := .code 17
 (.seq (.reg [o 0 d2 (.e (.box s0 33)),
 o 1 d3 (.e (.box s1 33)),
 o 2 d4 (.q (.mv (.v (.bool false))))])
 (.seq (.reg [o 0 d5 (.q (.fadr s2 0)),
 o 1 d6 (.q (.ld1 s5)),
 o 2 d7 (.q (.fadr s3 0)),
 o 3 d8 (.q (.ld1 s7)),
 o 4 d9 (.q (.bin .eql s6 s8)),
 o 5 d10 (.q (.mv s9)),
 ⟨6, d11, (.q (.fadr s2 1)), (some (p10, true)), []⟩,
 ⟨7, d12, (.q (.ldn s11 32)), (some (p10, true)), []⟩,
 ⟨8, d13, (.q (.fadr s3 1)), (some (p10, true)), []⟩,
 ⟨9, d14, (.q (.ldn s13 32)), (some (p10, true)), []⟩,
 ⟨10, d15, (.call p18 [s12, s14]), (some (p10, true)), []⟩,
 o 11 d16 (.q (.pick s10 s15 (.v (.bool false)))),
 o 12 d4 (.q (.mv s16))])
 .ret))
 [.t p4]

noncomputable def f64 : FnE := .code 10
 (.seq (.reg [o 0 d4 (.q (.mv (.v .nils)))])
 (.seq (.reg [o 0 d5 (.q (.mv s0)),
 o 1 d6 (.call p85 [s5]),
 o 2 d7 (.q (.mv s1)),
 o 3 d8 (.q (.cvi .u64 s7)),
 o 4 d9 (.call p114 [s6, s8, (.v (.int .i64 (.ofNat 4)))]),
 o 5 d4 (.q (.mv s9))])
 .ret))
 [.t p4]

noncomputable def f77 : FnE := .code 67
 (.seq (.reg [o 0 d4 (.e (.box s1 4)),
 o 1 d6 (.q (.mv (.v (.int .i64 (.ofNat 0)))))])
 (.seq (.reg [o 0 d12 (.q (.ldn s4 4)),
 o 1 d13 (.q (.mv s2)),
 o 2 d14 (.call p128 [s12, s13]),
 o 3 d7 (.e (.alo (lapp [(.int .u32 (.ofNat 0)), .nils, .nils, (.int .u32 (.ofNat 0))] (lapp (zz (.int .u8 (.ofNat 0)) 32) [(.int .u64 (.ofNat 0)), (.int .i64 (.ofNat 0))])))),
 o 4 none (.e (.st s7 s14 38))])
 (.seq (.seq (.reg [o 0 d15 (.q (.mv s0)),
 o 1 d16 (.q (.fadr s7 4)),
 o 2 d17 (.q (.ldn s16 32)),
 o 3 d18 (.call p129 [s15, s17]),
 o 4 d19 (.q (.bin .geq s18 (.v (.int .i64 (.ofNat 0)))))])
 (.cnd s19 (.seq (.reg [o 0 d6 (.q (.mv (.v (.int .i64 (.ofNat 109)))))])
 .ret) .skip))
 (.seq (.seq (.reg [o 0 d8 (.q (.mv (.v (.int .i64 (.ofNat 0)))))])
 (.blk 0 (.loop (.seq (.seq (.reg [o 0 d20 (.q (.mv s8)),
 o 1 d21 (.q (.fadr s4 1)),
 o 2 d22 (.q (.ld1 s21)),
 o 3 d23 (.q (.lenv s22)),
 o 4 d24 (.q (.bin .lss s20 s23))])
 (.cnd s24 .skip (.exit 0)))
 (.seq (.blk 1 (.seq (.reg [o 0 d28 (.q (.mv s0)),
 o 1 d29 (.q (.fadr s4 1)),
 o 2 d30 (.q (.ld1 s29)),
 o 3 d31 (.q (.mv s8)),
 o 4 d32 (.q (.iadr s30 s31 35)),
 o 5 d33 (.q (.fadr s32 0)),
 o 6 d34 (.q (.ldn s33 33)),
 o 7 d35 (.call p130 [s28, s34]),
 o 8 d27 (.q (.mv s35)),
 o 9 d36 (.q (.ext s27 0)),
 o 10 d37 (.q (.ext s27 1)),
 o 11 d9 (.e (.alo (zz (.int .u8 (.ofNat 0)) 32))),
 o 12 none (.e (.st s9 s36 32)),
 o 13 d10 (.q (.mv s37))])
 (.seq (.reg [o 0 d38 (.q (.mv s10))])
 (.cnd s38 (.seq (.reg [o 0 d6 (.q (.mv (.v (.int .i64 (.ofNat 119)))))])
 .ret) .skip))))
 (.reg [o 0 d25 (.q (.mv s8)),
 o 1 d26 (.q (.bin .add s25 (.v (.int .i64 (.ofNat 1))))),
 o 2 d8 (.q (.mv s26))]))))))
 (.seq (.seq (.reg [o 0 d11 (.q (.mv (.v (.int .i64 (.ofNat 0)))))])
 (.blk 2 (.loop (.seq (.seq (.reg [o 0 d39 (.q (.mv s11)),
 o 1 d40 (.q (.mv s0)),
 o 2 d41 (.q (.nck s40)),
 o 3 d42 (.q (.fadr s41 0)),
 o 4 d43 (.q (.ld1 s42)),
 o 5 d44 (.q (.lenv s43)),
 o 6 d45 (.q (.bin .lss s39 s44))])
 (.cnd s45 .skip (.exit 2)))
 (.seq (.blk 3 (.seq (.rgd 0 [o 0 d48 (.q (.mv s0)),
 o 1 d49 (.q (.nck s48)),
 o 2 d50 (.q (.fadr s49 0)),
 o 3 d51 (.q (.ld1 s50)),
 o 4 d52 (.q (.mv s11)),
 o 5 d53 (.q (.iadr s51 s52 38)),
 o 6 d54 (.q (.ldn s53 38)),
 o 7 d55 (.q (.ldn s7 38)),
 o 8 d56 (.call p131 [s54, s55])])
 (.cnd s56 (.seq (.reg [o 0 d6 (.q (.mv (.v (.int .i64 (.ofNat 102)))))])
 .ret) .skip)))
 (.reg [o 0 d46 (.q (.mv s11)),
 o 1 d47 (.q (.bin .add s46 (.v (.int .i64 (.ofNat 1))))),
 o 2 d11 (.q (.mv s47))]))))))
 (.seq (.rgd 0 [o 0 d57 (.q (.mv s0)),
 o 1 d58 (.q (.mv s0)),
 o 2 d59 (.q (.nck s58)),
 o 3 d60 (.q (.fadr s59 0)),
 o 4 d61 (.q (.ld1 s60)),
 o 5 d62 (.q (.ldn s7 38)),
 ⟨6, d63, (.e (.bsl (lapp [(.int .u32 (.ofNat 0)), .nils, .nils, (.int .u32 (.ofNat 0))] (lapp (zz (.int .u8 (.ofNat 0)) 32) [(.int .u64 (.ofNat 0)), (.int .i64 (.ofNat 0))])) [(0, 38, s62)] 1 38)), none, [(p61, .ld1 s60, none)]⟩,
 o 7 d64 (.e (.app s61 s63 38 112 false)),
 o 8 d65 (.q (.nck s57)),
 o 9 d66 (.q (.fadr s65 0)),
 o 10 none (.e (.st s66 s64 1))])
 (.seq (.reg [o 0 d6 (.q (.mv (.v (.int .i64 (.ofNat 0)))))])
 .ret)))))))
 [.t p6]

noncomputable def f78 : FnE := .code 33
 (.seq (.reg [o 0 d4 (.q (.mv (.v .nils)))])
 (.seq (.seq (.reg [o 0 d5 (.q (.mv s1)),
 o 1 d6 (.call p132 [s5])])
 (.blk 0 (.seq (.reg [o 0 d8 (.q (.bin .eql s6 (.v (.int .i64 (.ofNat 1))))),
 o 1 d7 (.q (.mv s8))])
 (.cnd s7 (.seq (.reg [o 0 d9 (.q (.mv s0)),
 o 1 d10 (.q (.mv s1)),
 o 2 d11 (.q (.cvi .u8 s10)),
 o 3 d12 (.e (.bsl [(.int .u8 (.ofNat 0))] [(0, 1, s11)] 1 1)),
 o 4 d13 (.e (.app s9 s12 1 1 false)),
 o 5 d4 (.q (.mv s13))])
 .ret) (.seq (.reg [o 0 d15 (.q (.bin .eql s6 (.v (.int .i64 (.ofNat 3))))),
 o 1 d14 (.q (.mv s15))])
 (.cnd s14 (.seq (.reg [o 0 d16 (.q (.mv s0)),
 o 1 d17 (.e (.bsl [(.int .u8 (.ofNat 0))] [(0, 1, (.v (.int .u8 (.ofNat 253))))] 1 1)),
 o 2 d18 (.e (.app s16 s17 1 1 false)),
 o 3 d19 (.q (.mv s1)),
 o 4 d20 (.call p133 [s18, s19, (.v (.int .i64 (.ofNat 2)))]),
 o 5 d4 (.q (.mv s20))])
 .ret) (.seq (.reg [o 0 d22 (.q (.bin .eql s6 (.v (.int .i64 (.ofNat 5))))),
 o 1 d21 (.q (.mv s22))])
 (.cnd s21 (.seq (.reg [o 0 d23 (.q (.mv s0)),
 o 1 d24 (.e (.bsl [(.int .u8 (.ofNat 0))] [(0, 1, (.v (.int .u8 (.ofNat 254))))] 1 1)),
 o 2 d25 (.e (.app s23 s24 1 1 false)),
 o 3 d26 (.q (.mv s1)),
 o 4 d27 (.call p133 [s25, s26, (.v (.int .i64 (.ofNat 4)))]),
 o 5 d4 (.q (.mv s27))])
 .ret) .skip))))))))
 (.seq (.reg [o 0 d28 (.q (.mv s0)),
 o 1 d29 (.e (.bsl [(.int .u8 (.ofNat 0))] [(0, 1, (.v (.int .u8 (.ofNat 255))))] 1 1)),
 o 2 d30 (.e (.app s28 s29 1 1 false)),
 o 3 d31 (.q (.mv s1)),
 o 4 d32 (.call p133 [s30, s31, (.v (.int .i64 (.ofNat 8)))]),
 o 5 d4 (.q (.mv s32))])
 .ret)))
 [.t p4]

noncomputable def f79 : FnE := .code 9
 (.seq (.reg [o 0 d4 (.q (.mv (.v .nils)))])
 (.seq (.reg [o 0 d5 (.q (.mv s0)),
 o 1 d6 (.q (.mv s1)),
 o 2 d7 (.q (.cvi .u64 s6)),
 o 3 d8 (.call p133 [s5, s7, (.v (.int .i64 (.ofNat 4)))]),
 o 4 d4 (.q (.mv s8))])
 .ret))
 [.t p4]

noncomputable def f80 : FnE := .code 8
 (.seq (.reg [o 0 d4 (.q (.mv (.v .nils)))])
 (.seq (.reg [o 0 d5 (.q (.mv s0)),
 o 1 d6 (.q (.mv s1)),
 o 2 d7 (.call p133 [s5, s6, (.v (.int .i64 (.ofNat 8)))]),
 o 3 d4 (.q (.mv s7))])
 .ret))
 [.t p4]

noncomputable def f81 : FnE := .code 8
 (.seq (.reg [o 0 d2 (.e (.alo (zz (.int .u8 (.ofNat 0)) 32)))])
 (.seq (.reg [o 0 d4 (.q (.mv s0)),
 o 1 d5 (.call p134 [s4]),
 o 2 d3 (.e (.alo (zz (.int .u8 (.ofNat 0)) 32))),
 o 3 none (.e (.st s3 s5 32))])
 (.seq (.reg [o 0 d6 (.q (.slca s3 none none 1 32)),
 o 1 d7 (.call p134 [s6]),
 o 2 none (.e (.st s2 s7 32))])
 .ret)))
 [.cn p2 32]

noncomputable def f82 : FnE := .code 72
 (.seq (.reg [o 0 d1 (.e (.box s0 4)),
 o 1 d2 (.q (.mv (.v .nils)))])
 (.seq (.reg [o 0 d8 (.q (.fadr s1 0)),
 o 1 d9 (.q (.ld1 s8)),
 o 2 d10 (.call p64 [(.v .nils), s9]),
 o 3 d3 (.q (.mv s10))])
 (.seq (.reg [o 0 d11 (.q (.mv s3)),
 o 1 d12 (.q (.fadr s1 1)),
 o 2 d13 (.q (.ld1 s12)),
 o 3 d14 (.q (.lenv s13)),
 o 4 d15 (.q (.cvi .u64 s14)),
 o 5 d16 (.call p135 [s11, s15]),
 o 6 d3 (.q (.mv s16))])
 (.seq (.seq (.reg [o 0 d17 (.q (.fadr s1 1)),
 o 1 d18 (.q (.ld1 s17)),
 o 2 d19 (.q (.lenv s18)),
 o 3 d20 (.q (.mv (.v (.int .i64 (.ofNat 0)))))])
 (.blk 0 (.loop (.seq (.reg [o 0 d21 (.q (.bin .lss s20 s19))])
 (.seq (.cnd s21 .skip (.exit 0))
 (.seq (.blk 1 (.seq (.reg [o 0 d22 (.q (.iadr s18 s20 35)),
 o 1 d23 (.q (.ldn s22 35)),
 o 2 d5 (.e (.alo (lapp (zz (.int .u8 (.ofNat 0)) 32) [(.int .u32 (.ofNat 0)), .nils, (.int .u32 (.ofNat 0))]))),
 o 3 none (.e (.st s5 s23 35))])
 (.seq (.rgd 0 [o 0 d24 (.q (.mv s3)),
 o 1 d25 (.q (.fadr s5 0)),
 o 2 d26 (.q (.fadr s25 0)),
 o 3 d27 (.q (.slca s26 none none 1 32)),
 o 5 d29 (.q (.fadr s5 0)),
 o 6 d30 (.q (.fadr s29 32)),
 o 7 d31 (.q (.ld1 s30)),
 ⟨4, d28, (.e (.app s24 s27 1 1 false)), none, [(p31, .ld1 s30, none)]⟩,
 o 8 d32 (.call p64 [s28, s31]),
 o 9 d3 (.q (.mv s32))])
 (.seq (.rgd 0 [o 0 d33 (.q (.mv s3)),
 o 1 d34 (.q (.fadr s5 33)),
 o 2 d35 (.q (.ld1 s34)),
 o 3 d36 (.q (.lenv s35)),
 o 4 d37 (.q (.cvi .u64 s36)),
 o 6 d39 (.q (.fadr s5 33)),
 o 7 d40 (.q (.ld1 s39)),
 ⟨5, d38, (.call p135 [s33, s37]), none, [(p40, .ld1 s39, none)]⟩,
 o 8 d41 (.e (.app s38 s40 1 1 false)),
 o 9 d3 (.q (.mv s41))])
 (.reg [o 0 d42 (.q (.mv s3)),
 o 1 d43 (.q (.fadr s5 34)),
 o 2 d44 (.q (.ld1 s43)),
 o 3 d45 (.call p64 [s42, s44]),
 o 4 d3 (.q (.mv s45))])))))
 (.reg [o 0 d46 (.q (.bin .add s20 (.v (.int .i64 (.ofNat 1))))),
 o 1 d20 (.q (.mv s46))])))))))
 (.seq (.reg [o 0 d47 (.q (.mv s3)),
 o 1 d48 (.q (.fadr s1 2)),
 o 2 d49 (.q (.ld1 s48)),
 o 3 d50 (.q (.lenv s49)),
 o 4 d51 (.q (.cvi .u64 s50)),
 o 5 d52 (.call p135 [s47, s51]),
 o 6 d3 (.q (.mv s52))])
 (.seq (.seq (.reg [o 0 d53 (.q (.fadr s1 2)),
 o 1 d54 (.q (.ld1 s53)),
 o 2 d55 (.q (.lenv s54)),
 o 3 d56 (.q (.mv (.v (.int .i64 (.ofNat 0)))))])
 (.blk 2 (.loop (.seq (.reg [o 0 d57 (.q (.bin .lss s56 s55))])
 (.seq (.cnd s57 .skip (.exit 2))
 (.seq (.blk 3 (.seq (.reg [o 0 d58 (.q (.iadr s54 s56 33)),
 o 1 d59 (.q (.ldn s58 33)),
 o 2 d7 (.e (.alo (lapp [(.int .u64 (.ofNat 0))] (zz (.int .u8 (.ofNat 0)) 32)))),
 o 3 none (.e (.st s7 s59 33))])
 (.rgd 0 [o 0 d60 (.q (.mv s3)),
 o 1 d61 (.q (.fadr s7 0)),
 o 2 d62 (.q (.ld1 s61)),
 o 4 d64 (.q (.fadr s7 1)),
 o 5 d65 (.q (.slca s64 none none 1 32)),
 ⟨3, d63, (.call p136 [s60, s62]), none, [(p65, .slca s64 none none 1 32, none)]⟩,
 o 6 d66 (.e (.app s63 s65 1 1 false)),
 o 7 d3 (.q (.mv s66))])))
 (.reg [o 0 d67 (.q (.bin .add s56 (.v (.int .i64 (.ofNat 1))))),
 o 1 d56 (.q (.mv s67))])))))))
 (.seq (.reg [o 0 d68 (.q (.mv s3)),
 o 1 d69 (.q (.fadr s1 3)),
 o 2 d70 (.q (.ld1 s69)),
 o 3 d71 (.call p64 [s68, s70]),
 o 4 d2 (.q (.mv s71))])
 .ret)))))))
 [.t p2]

noncomputable def f83 : FnE := .code 8
 (.seq (.reg [o 0 d2 (.q (.mv (.v .nils)))])
 (.seq (.seq (.reg [o 0 d3 (.q (.mv s0)),
 o 1 d4 (.q (.eqp .slice false s3 (.v .nils)))])
 (.cnd s4 (.seq (.reg [o 0 d2 (.q (.mv (.v .nils)))])
 .ret) .skip))
 (.seq (.reg [o 0 d5 (.e (.bsl [] [] 0 35)),
 o 1 d6 (.q (.mv s0)),
 o 2 d7 (.e (.app s5 s6 35 72 false)),
 o 3 d2 (.q (.mv s7))])
 .ret)))
 [.t p2]

noncomputable def f84 : FnE := .code 8
 (.seq (.reg [o 0 d2 (.q (.mv (.v .nils)))])
 (.seq (.seq (.reg [o 0 d3 (.q (.mv s0)),
 o 1 d4 (.q (.eqp .slice false s3 (.v .nils)))])
 (.cnd s4 (.seq (.reg [o 0 d2 (.q (.mv (.v .nils)))])
 .ret) .skip))
 (.seq (.reg [o 0 d5 (.e (.bsl [] [] 0 33)),
 o 1 d6 (.q (.mv s0)),
 o 2 d7 (.e (.app s5 s6 33 40 false)),
 o 3 d2 (.q (.mv s7))])
 .ret)))
 [.t p2]

noncomputable def f85 : FnE := .code 8
 (.seq (.reg [o 0 d2 (.q (.mv (.v .nils)))])
 (.seq (.seq (.reg [o 0 d3 (.q (.mv s0)),
 o 1 d4 (.q (.eqp .slice false s3 (.v .nils)))])
 (.cnd s4 (.seq (.reg [o 0 d2 (.q (.mv (.v .nils)))])
 .ret) .skip))
 (.seq (.reg [o 0 d5 (.e (.bsl [] [] 0 1)),
 o 1 d6 (.q (.mv s0)),
 o 2 d7 (.e (.app s5 s6 1 1 false)),
 o 3 d2 (.q (.mv s7))])
 .ret)))
 [.t p2]

noncomputable def f86 : FnE := .code 8
 (.seq (.reg [o 0 d2 (.e (.box s0 34)),
 o 1 d3 (.e (.box s1 34)),
 o 2 d4 (.q (.mv (.v (.bool false))))])
 (.seq (.reg [o 0 d5 (.q (.ldn s3 34)),
 o 1 d6 (.q (.ldn s2 34)),
 o 2 d7 (.call p87 [s5, s6]),
 o 3 d4 (.q (.mv s7))])
 .ret))
 [.t p4]

noncomputable def f87 : FnE := .code 18
 (.seq (.reg [o 0 d2 (.e (.box s0 34)),
 o 1 d3 (.e (.box s1 34)),
 o 2 d4 (.q (.mv (.v (.bool false))))])
 (.seq (.seq (.reg [o 0 d6 (.q (.ldn s2 34)),
 o 1 d7 (.q (.ldn s3 34)),
 o 2 d8 (.call p137 [s6, s7]),
 o 3 d5 (.q (.mv s8))])
 (.seq (.reg [o 0 d9 (.q (.mv s5)),
 o 1 d10 (.q (.bin .neq s9 (.v (.int .i64 (.ofNat 0)))))])
 (.cnd s10 (.seq (.reg [o 0 d11 (.q (.mv s5)),
 o 1 d12 (.q (.bin .lss s11 (.v (.int .i64 (.ofNat 0))))),
 o 2 d4 (.q (.mv s12))])
 .ret) .skip)))
 (.seq (.reg [o 0 d13 (.q (.fadr s3 0)),
 o 1 d14 (.q (.ldn s13 32)),
 o 2 d15 (.q (.fadr s2 0)),
 o 3 d16 (.q (.ldn s15 32)),
 o 4 d17 (.call p138 [s14, s16]),
 o 5 d4 (.q (.mv s17))])
 .ret)))
 [.t p4]

noncomputable def f88 : FnE := .code 12
 (.seq (.reg [o 0 d4 (.q (.mv (.v .nils)))])
 (.seq (.reg [o 0 d6 (.q (.mv s0)),
 o 1 d7 (.call p139 [s6]),
 o 2 d5 (.q (.mv s7))])
 (.seq (.reg [o 0 d8 (.q (.mv s5)),
 o 1 d9 (.q (.mv s1)),
 o 2 d10 (.call p140 [s8, s9])])
 (.seq (.reg [o 0 d11 (.q (.mv s5)),
 o 1 d4 (.q (.mv s11))])
 .ret))))
 [.t p4]

noncomputable def f89 : FnE := .code 4
 (.seq (.reg [o 0 d1 (.e (.box s0 1)),
 o 1 d2 (.q (.mv (.v .nilf)))])
 (.seq (.reg [o 0 d3 (.q (.mkf 141 [] [s1])),
 o 1 d2 (.q (.mv s3))])
 .ret))
 [.t p2]

noncomputable def f90 : FnE := .code 8
 (.seq (.reg [o 0 d2 (.e (.box s0 32)),
 o 1 d3 (.e (.box s1 32)),
 o 2 d4 (.q (.mv (.v (.int .i64 (.ofNat 0)))))])
 (.seq (.rgd 0 [o 0 d5 (.q (.slca s2 none none 1 32)),
 o 1 d6 (.q (.slca s3 none none 1 32)),
 o 2 d7 (.call p142 [s5, s6]),
 o 3 d4 (.q (.mv s7))])
 .ret))
 [.t p4]

noncomputable def f91 : FnE := .code 28
 (.seq (.reg [o 0 d3 (.e (.box s1 32)),
 o 1 d4 (.q (.mv (.v (.bool false))))])
 (.seq (.rgd 0 [o 0 d8 (.q (.mv s0)),
 o 1 d9 (.q (.nck s8)),
 o 2 d10 (.q (.fadr s9 0)),
 o 3 d11 (.q (.ld1 s10)),
 o 4 d12 (.q (.nck s11)),
 o 5 d13 (.q (.fadr s12 1)),
 o 6 d14 (.q (.ld1 s13)),
 o 7 d15 (.q (.ldn s3 32)),
 o 8 d16 (.q (.lkp s14 s15 (.cells (kk .u8 32)) (.int .i64 (.ofNat 0)) true)),
 o 9 d7 (.q (.mv s16)),
 o 10 d17 (.q (.ext s7 0)),
 o 11 d18 (.q (.ext s7 1)),
 o 12 d5 (.q (.mv s17)),
 o 13 d6 (.q (.mv s18))])
 (.seq (.seq (.reg [o 0 d19 (.q (.mv s6))])
 (.cnd s19 (.reg [o 0 d20 (.q (.mv s0)),
 o 1 d21 (.q (.nck s20)),
 o 2 d22 (.q (.fadr s21 0)),
 o 3 d23 (.q (.ld1 s22)),
 o 4 d24 (.q (.mki 171 s23)),
 o 5 d25 (.q (.mv s5)),
 o 6 d26 (.call p143 [s24, s25])]) .skip))
 (.seq (.reg [o 0 d27 (.q (.mv s6)),
 o 1 d4 (.q (.mv s27))])
 .ret))))
 [.t p4]

noncomputable def f92 : FnE := .code 12
 (.seq (.reg [o 0 d4 (.q (.mv s0)),
 o 1 d5 (.q (.mv s1)),
 o 2 d6 (.inv s4 "Push" [s5])])
 (.reg [o 0 d7 (.q (.mv s0)),
 o 1 d8 (.q (.mv s0)),
 o 2 d9 (.inv s8 "Len" []),
 o 3 d10 (.q (.bin .sub s9 (.v (.int .i64 (.ofNat 1))))),
 o 4 d11 (.call p144 [s7, s10])]))
 []

noncomputable def f94 : FnE := .code 8
 (.seq (.reg [o 0 d2 (.q (.mv (.v (.int .i64 (.ofNat 0)))))])
 (.seq (.reg [o 0 d3 (.q (.mv s0)),
 o 1 d4 (.q (.nck s3)),
 o 2 d5 (.q (.fadr s4 0)),
 o 3 d6 (.q (.ld1 s5)),
 o 4 d7 (.call p146 [s6]),
 o 5 d2 (.q (.mv s7))])
 .ret))
 [.t p2]

noncomputable def f95 : FnE := .code 24
 (.seq (.reg [o 0 d4 (.e (.alo [(.int .i64 (.ofNat 0)), (.int .i64 (.ofNat 0)), (.int .u64 (.ofNat 0))]))])
 (.seq (.reg [o 0 d5 (.e (.alo [(.int .i64 (.ofNat 0)), (.int .i64 (.ofNat 0)), (.int .u64 (.ofNat 0))]))])
 (.seq (.seq (.reg [o 0 d8 (.q (.mv s1)),
 o 1 d9 (.q (.lenv s8)),
 o 2 d10 (.q (.mv (.v (.int .i64 (.ofNat 0)))))])
 (.blk 0 (.loop (.seq (.reg [o 0 d11 (.q (.bin .lss s10 s9))])
 (.seq (.cnd s11 .skip (.exit 0))
 (.seq (.blk 1 (.seq (.reg [o 0 d12 (.q (.iadr s8 s10 32)),
 o 1 d13 (.q (.ldn s12 32)),
 o 2 d7 (.e (.alo (zz (.int .u8 (.ofNat 0)) 32))),
 o 3 none (.e (.st s7 s13 32))])
 (.rgd 0 [o 0 d14 (.q (.ldn s5 3)),
 o 1 d15 (.q (.mv s0)),
 o 2 d16 (.q (.nck s15)),
 o 3 d17 (.q (.fadr s16 0)),
 o 4 d18 (.q (.ld1 s17)),
 o 5 d19 (.q (.ldn s7 32)),
 o 6 d20 (.q (.lkp s18 s19 (.cells (kk .u8 32)) (.agg [(.int .u32 (.ofNat 0)), .nils, .nils, (.int .u32 (.ofNat 0)), (.int .u64 (.ofNat 0)), (.int .i64 (.ofNat 0)), (.int .i64 (.ofNat 0))]) false)),
 o 7 d21 (.call p48 [s14, s20, (.v (.int .i64 (.ofNat 1)))]),
 o 8 none (.e (.st s5 s21 3))])))
 (.reg [o 0 d22 (.q (.bin .add s10 (.v (.int .i64 (.ofNat 1))))),
 o 1 d10 (.q (.mv s22))])))))))
 (.seq (.reg [o 0 d23 (.q (.ldn s5 3)),
 o 1 none (.e (.st s4 s23 3))])
 .ret))))
 [.cn p4 3]

noncomputable def f96 : FnE := .code 13
 (.seq (.reg [o 0 d2 (.e (.box s0 1)),
 o 1 d3 (.e (.box s1 32)),
 o 2 d4 (.q (.mv (.v .nils)))])
 (.seq (.rgd 0 [o 0 d5 (.q (.ld1 s2)),
 o 1 d6 (.q (.nck s5)),
 o 2 d7 (.q (.fadr s6 0)),
 o 3 d8 (.q (.ld1 s7)),
 o 4 d9 (.q (.ldn s3 32)),
 o 6 d11 (.q (.mkf 149 [] [s2])),
 o 5 d10 (.call p148 [s8, s9]),
 o 7 d12 (.call p147 [s10, s11]),
 o 8 d4 (.q (.mv s12))])
 .ret))
 [.t p4]

noncomputable def f97 : FnE := .code 10
 (.seq (.reg [o 0 d4 (.q (.mv (.v .nils)))])
 (.seq (.reg [o 0 d5 (.q (.mv s0)),
 o 1 d6 (.q (.mv s0)),
 o 2 d7 (.q (.mv s1)),
 o 3 d8 (.call p151 [s6, s7]),
 o 4 d9 (.call p150 [s5, s8]),
 o 5 d4 (.q (.mv s9))])
 .ret))
 [.t p4]

noncomputable def f98 : FnE := .code 17
 (.seq (.reg [o 0 d2 (.e (.box s0 33)),
 o 1 d3 (.e (.box s1 33)),
 o 2 d4 (.q (.mv (.v (.bool false))))])
 (.seq (.reg [o 0 d5 (.q (.fadr s2 0)),
 o 1 d6 (.q (.ldn s5 32)),
 o 2 d7 (.q (.fadr s3 0)),
 o 3 d8 (.q (.ldn s7 32)),
 o 4 d9 (.call p18 [s6, s8]),
 o 5 d10 (.q (.mv s9)),
 ⟨6, d11, (.q (.fadr s2 32)), (some (p10, true)), []⟩,
 ⟨7, d12, (.q (.ld1 s11)), (some (p10, true)), []⟩,
 ⟨8, d13, (.q (.fadr s3 32)), (some (p10, true)), []⟩,
 ⟨9, d14, (.q (.ld1 s13)), (some (p10, true)), []⟩,
 ⟨10, d15, (.q (.bin .eql s12 s14)), (some (p10, true)), []⟩,
 o 11 d16 (.q (.pick s10 s15 (.v (.bool false)))),
 o 12 d4 (.q (.mv s16))])
 .ret))
 [.t p4]

noncomputable def f99 : FnE := .code 29
 (.seq (.reg [o 0 d4 (.q (.mv (.v (.bool false))))])
 (.seq (.seq (.reg [o 0 d7 (.q (.mv s0)),
 o 1 d8 (.q (.lenv s7)),
 o 2 d9 (.q (.mv s1)),
 o 3 d10 (.q (.lenv s9)),
 o 4 d11 (.q (.bin .neq s8 s10))])
 (.cnd s11 (.seq (.reg [o 0 d4 (.q (.mv (.v (.bool false))))])
 .ret) .skip))
 (.seq (.seq (.reg [o 0 d5 (.q (.mv (.v (.int .i64 (.ofNat 0)))))])
 (.blk 0 (.loop (.seq (.seq (.reg [o 0 d12 (.q (.mv s5)),
 o 1 d13 (.q (.mv s0)),
 o 2 d14 (.q (.lenv s13)),
 o 3 d15 (.q (.bin .lss s12 s14))])
 (.cnd s15 .skip (.exit 0)))
 (.seq (.blk 1 (.seq (.rgd 0 [o 0 d18 (.q (.mv s0)),
 o 1 d19 (.q (.mv s5)),
 o 2 d20 (.q (.iadr s18 s19 1)),
 o 3 d21 (.q (.ld1 s20)),
 o 4 d22 (.q (.mv s1)),
 o 5 d23 (.q (.mv s5)),
 o 6 d24 (.q (.iadr s22 s23 1)),
 o 7 d25 (.q (.ld1 s24)),
 o 8 d26 (.q (.bin .eql s21 s25)),
 o 9 d6 (.q (.mv s26))])
 (.seq (.reg [o 0 d27 (.q (.mv s6)),
 o 1 d28 (.q (.not s27))])
 (.cnd s28 (.seq (.reg [o 0 d4 (.q (.mv (.v (.bool false))))])
 .ret) .skip))))
 (.reg [o 0 d16 (.q (.mv s5)),
 o 1 d17 (.q (.bin .add s16 (.v (.int .i64 (.ofNat 1))))),
 o 2 d5 (.q (.mv s17))]))))))
 (.seq (.reg [o 0 d4 (.q (.mv (.v (.bool true))))])
 .ret))))
 [.t p4]

noncomputable def f114 : FnE := .code 19
 (.seq (.reg [o 0 d6 (.q (.mv (.v .nils)))])
 (.seq (.seq (.reg [o 0 d7 (.q (.mv s2)),
 o 1 d8 (.q (.mv (.v (.int .i64 (.ofNat 0)))))])
 (.blk 0 (.loop (.seq (.reg [o 0 d9 (.q (.bin .lss s8 s7))])
 (.seq (.cnd s9 .skip (.exit 0))
 (.seq (.blk 1 (.seq (.reg [o 0 d10 (.q (.mv s0)),
 o 1 d11 (.q (.mv s1)),
 o 2 d12 (.q (.cvi .u8 s11)),
 o 3 d13 (.e (.bsl [(.int .u8 (.ofNat 0))] [(0, 1, s12)] 1 1)),
 o 4 d14 (.e (.app s10 s13 1 1 false)),
 o 5 d0 (.q (.mv s14))])
 (.reg [o 0 d15 (.q (.mv s1)),
 o 1 d16 (.q (.shf false s15 (.v (.int .u64 (.ofNat 8))))),
 o 2 d1 (.q (.mv s16))])))
 (.reg [o 0 d17 (.q (.bin .add s8 (.v (.int .i64 (.ofNat 1))))),
 o 1 d8 (.q (.mv s17))])))))))
 (.seq (.reg [o 0 d18 (.q (.mv s0)),
 o 1 d6 (.q (.mv s18))])
 .ret)))
 [.t p6]

noncomputable def f128 : FnE := .code 12
 (.seq (.reg [o 0 d2 (.e (.box s0 4)),
 o 1 d4 (.e (.alo (lapp [(.int .u32 (.ofNat 0)), .nils, .nils, (.int .u32 (.ofNat 0))] (lapp (zz (.int .u8 (.ofNat 0)) 32) [(.int .u64 (.ofNat 0)), (.int .i64 (.ofNat 0))]))))])
 (.seq (.rgd 0 [o 0 d5 (.q (.ldn s2 4)),
 o 1 d6 (.q (.ldn s2 4)),
 o 3 d8 (.q (.mv s1)),
 o 4 d9 (.q (.ldn s2 4)),
 ⟨2, d7, (.call p15 [s6]), none, [(p5, .ldn s2 4, none), (p9, .ldn s2 4, none)]⟩,
 ⟨5, d10, (.call p22 [s9]), none, [(p5, .ldn s2 4, none)]⟩,
 o 6 d11 (.q (.bld (lapp [(.int .u32 (.ofNat 0)), .nils, .nils, (.int .u32 (.ofNat 0))] (lapp (zz (.int .u8 (.ofNat 0)) 32) [(.int .u64 (.ofNat 0)), (.int .i64 (.ofNat 0))])) [(0, 4, s5), (4, 32, s7), (36, 1, s8), (37, 1, s10)])),
 o 7 none (.e (.st s4 s11 38))])
 .ret))
 [.cn p4 38]

noncomputable def f129 : FnE := .code 26
 (.seq (.reg [o 0 d3 (.e (.box s1 32)),
 o 1 d4 (.q (.mv (.v (.int .i64 (.ofNat 0)))))])
 (.seq (.seq (.reg [o 0 d5 (.q (.mv (.v (.int .i64 (.ofNat 0)))))])
 (.blk 0 (.loop (.seq (.seq (.reg [o 0 d6 (.q (.mv s5)),
 o 1 d7 (.q (.mv s0)),
 o 2 d8 (.q (.nck s7)),
 o 3 d9 (.q (.fadr s8 0)),
 o 4 d10 (.q (.ld1 s9)),
 o 5 d11 (.q (.lenv s10)),
 o 6 d12 (.q (.bin .lss s6 s11))])
 (.cnd s12 .skip (.exit 0)))
 (.seq (.blk 1 (.seq (.rgd 0 [o 0 d15 (.q (.mv s0)),
 o 1 d16 (.q (.nck s15)),
 o 2 d17 (.q (.fadr s16 0)),
 o 3 d18 (.q (.ld1 s17)),
 o 4 d19 (.q (.mv s5)),
 o 5 d20 (.q (.iadr s18 s19 38)),
 o 6 d21 (.q (.fadr s20 4)),
 o 7 d22 (.q (.ldn s21 32)),
 o 8 d23 (.q (.ldn s3 32)),
 o 9 d24 (.call p18 [s22, s23])])
 (.cnd s24 (.seq (.reg [o 0 d25 (.q (.mv s5)),
 o 1 d4 (.q (.mv s25))])
 .ret) .skip)))
 (.reg [o 0 d13 (.q (.mv s5)),
 o 1 d14 (.q (.bin .add s13 (.v (.int .i64 (.ofNat 1))))),
 o 2 d5 (.q (.mv s14))]))))))
 (.seq (.reg [o 0 d4 (.q (.mv (.v (.int .i64 (.negSucc 0)))))])
 .ret)))
 [.t p4]

noncomputable def f130 : FnE := .code 55
 (.seq (.reg [o 0 d3 (.e (.box s1 33)),
 o 1 d4 (.e (.alo (zz (.int .u8 (.ofNat 0)) 32))),
 o 2 d5 (.q (.mv (.v (.bool false))))])
 (.seq (.seq (.reg [o 0 d6 (.q (.mv (.v (.int .i64 (.ofNat 0)))))])
 (.blk 0 (.loop (.seq (.seq (.reg [o 0 d8 (.q (.mv s6)),
 o 1 d9 (.q (.mv s0)),
 o 2 d10 (.q (.nck s9)),
 o 3 d11 (.q (.fadr s10 0)),
 o 4 d12 (.q (.ld1 s11)),
 o 5 d13 (.q (.lenv s12)),
 o 6 d14 (.q (.bin .lss s8 s13))])
 (.cnd s14 .skip (.exit 0)))
 (.seq (.blk 1 (.seq (.reg [o 0 d7 (.q (.mv (.v (.int .i64 (.ofNat 0)))))])
 (.blk 2 (.loop (.seq (.seq (.reg [o 0 d17 (.q (.mv s7)),
 o 1 d18 (.q (.mv s0)),
 o 2 d19 (.q (.nck s18)),
 o 3 d20 (.q (.fadr s19 0)),
 o 4 d21 (.q (.ld1 s20)),
 o 5 d22 (.q (.mv s6)),
 o 6 d23 (.q (.iadr s21 s22 38)),
 o 7 d24 (.q (.fadr s23 0)),
 o 8 d25 (.q (.fadr s24 1)),
 o 9 d26 (.q (.ld1 s25)),
 o 10 d27 (.q (.lenv s26)),
 o 11 d28 (.q (.bin .lss s17 s27))])
 (.cnd s28 .skip (.exit 2)))
 (.seq (.blk 3 (.seq (.rgd 0 [o 0 d31 (.q (.mv s0)),
 o 1 d32 (.q (.nck s31)),
 o 2 d33 (.q (.fadr s32 0)),
 o 3 d34 (.q (.ld1 s33)),
 o 4 d35 (.q (.mv s6)),
 o 5 d36 (.q (.iadr s34 s35 38)),
 o 6 d37 (.q (.fadr s36 0)),
 o 7 d38 (.q (.fadr s37 1)),
 o 8 d39 (.q (.ld1 s38)),
 o 9 d40 (.q (.mv s7)),
 o 10 d41 (.q (.iadr s39 s40 35)),
 o 11 d42 (.q (.fadr s41 0)),
 o 12 d43 (.q (.ldn s42 33)),
 o 13 d44 (.q (.ldn s3 33)),
 o 14 d45 (.call p98 [s43, s44])])
 (.cnd s45 (.seq (.reg [o 0 d46 (.q (.mv s0)),
 o 1 d47 (.q (.nck s46)),
 o 2 d48 (.q (.fadr s47 0)),
 o 3 d49 (.q (.ld1 s48)),
 o 4 d50 (.q (.mv s6)),
 o 5 d51 (.q (.iadr s49 s50 38)),
 o 6 d52 (.q (.fadr s51 4)),
 o 7 d53 (.q (.ldn s52 32)),
 o 8 none (.e (.st s4 s53 32)),
 o 9 d5 (.q (.mv (.v (.bool true))))])
 .ret) .skip)))
 (.reg [o 0 d29 (.q (.mv s7)),
 o 1 d30 (.q (.bin .add s29 (.v (.int .i64 (.ofNat 1))))),
 o 2 d7 (.q (.mv s30))])))))))
 (.reg [o 0 d15 (.q (.mv s6)),
 o 1 d16 (.q (.bin .add s15 (.v (.int .i64 (.ofNat 1))))),
 o 2 d6 (.q (.mv s16))]))))))
 (.seq (.reg [o 0 d54 (.q (.bld (zz (.int .u8 (.ofNat 0)) 32) [])),
 o 1 none (.e (.st s4 s54 32)),
 o 2 d5 (.q (.mv (.v (.bool false))))])
 .ret)))
 [.cn p4 32, .t p5]

noncomputable def f132 : FnE := .code 12
 (.seq (.reg [o 0 d2 (.q (.mv (.v (.int .i64 (.ofNat 0)))))])
 (.seq (.blk 0 (.seq (.reg [o 0 d4 (.q (.mv s0)),
 o 1 d5 (.q (.bin .lss s4 (.v (.int .u64 (.ofNat 253))))),
 o 2 d3 (.q (.mv s5))])
 (.cnd s3 (.seq (.reg [o 0 d2 (.q (.mv (.v (.int .i64 (.ofNat 1)))))])
 .ret) (.seq (.reg [o 0 d7 (.q (.mv s0)),
 o 1 d8 (.q (.bin .lss s7 (.v (.int .u64 (.ofNat 65536))))),
 o 2 d6 (.q (.mv s8))])
 (.cnd s6 (.seq (.reg [o 0 d2 (.q (.mv (.v (.int .i64 (.ofNat 3)))))])
 .ret) (.seq (.reg [o 0 d10 (.q (.mv s0)),
 o 1 d11 (.q (.bin .lss s10 (.v (.int .u64 (.ofNat 4294967296))))),
 o 2 d9 (.q (.mv s11))])
 (.cnd s9 (.seq (.reg [o 0 d2 (.q (.mv (.v (.int .i64 (.ofNat 5)))))])
 .ret) .skip)))))))
 (.seq (.reg [o 0 d2 (.q (.mv (.v (.int .i64 (.ofNat 9)))))])
 .ret)))
 [.t p2]

noncomputable def f133 : FnE := .code 23
 (.seq (.reg [o 0 d6 (.q (.mv (.v .nils)))])
 (.seq (.seq (.reg [o 0 d7 (.q (.mv (.v (.int .i64 (.ofNat 0)))))])
 (.blk 0 (.loop (.seq (.seq (.reg [o 0 d8 (.q (.mv s7)),
 o 1 d9 (.q (.mv s2)),
 o 2 d10 (.q (.bin .lss s8 s9))])
 (.cnd s10 .skip (.exit 0)))
 (.seq (.blk 1 (.reg [o 0 d13 (.q (.mv s0)),
 o 1 d14 (.q (.mv s1)),
 o 2 d15 (.q (.mv s7)),
 o 3 d16 (.q (.bin .mul (.v (.int .i64 (.ofNat 8))) s15)),
 o 4 d17 (.q (.cvi .u64 s16)),
 o 5 d18 (.q (.shf false s14 s17)),
 o 6 d19 (.q (.cvi .u8 s18)),
 o 7 d20 (.e (.bsl [(.int .u8 (.ofNat 0))] [(0, 1, s19)] 1 1)),
 o 8 d21 (.e (.app s13 s20 1 1 false)),
 o 9 d0 (.q (.mv s21))]))
 (.reg [o 0 d11 (.q (.mv s7)),
 o 1 d12 (.q (.bin .add s11 (.v (.int .i64 (.ofNat 1))))),
 o 2 d7 (.q (.mv s12))]))))))
 (.seq (.reg [o 0 d22 (.q (.mv s0)),
 o 1 d6 (.q (.mv s22))])
 .ret)))
 [.t p6]

noncomputable def f135 : FnE := .code 38
 (.seq (.reg [o 0 d4 (.q (.mv (.v .nils)))])
 (.seq (.reg [o 0 d7 (.q (.mv s0)),
 o 1 d8 (.call p85 [s7]),
 o 2 d5 (.q (.mv s8))])
 (.seq (.seq (.reg [o 0 d9 (.q (.mv s1)),
 o 1 d10 (.call p171 [s9]),
 o 2 d6 (.q (.mv s10))])
 (.seq (.reg [o 0 d11 (.q (.mv s6))])
 (.blk 0 (.seq (.reg [o 0 d13 (.q (.bin .eql s11 (.v (.int .i64 (.ofNat 1))))),
 o 1 d12 (.q (.mv s13))])
 (.cnd s12 (.seq (.reg [o 0 d14 (.q (.mv s5)),
 o 1 d15 (.q (.mv s1)),
 o 2 d16 (.q (.cvi .u8 s15)),
 o 3 d17 (.e (.bsl [(.int .u8 (.ofNat 0))] [(0, 1, s16)] 1 1)),
 o 4 d18 (.e (.app s14 s17 1 1 false)),
 o 5 d4 (.q (.mv s18))])
 .ret) (.seq (.reg [o 0 d20 (.q (.bin .eql s11 (.v (.int .i64 (.ofNat 3))))),
 o 1 d19 (.q (.mv s20))])
 (.cnd s19 (.seq (.reg [o 0 d21 (.q (.mv s5)),
 o 1 d22 (.e (.bsl [(.int .u8 (.ofNat 0))] [(0, 1, (.v (.int .u8 (.ofNat 253))))] 1 1)),
 o 2 d23 (.e (.app s21 s22 1 1 false)),
 o 3 d24 (.q (.mv s1)),
 o 4 d25 (.call p114 [s23, s24, (.v (.int .i64 (.ofNat 2)))]),
 o 5 d4 (.q (.mv s25))])
 .ret) (.seq (.reg [o 0 d27 (.q (.bin .eql s11 (.v (.int .i64 (.ofNat 5))))),
 o 1 d26 (.q (.mv s27))])
 (.cnd s26 (.seq (.reg [o 0 d28 (.q (.mv s5)),
 o 1 d29 (.e (.bsl [(.int .u8 (.ofNat 0))] [(0, 1, (.v (.int .u8 (.ofNat 254))))] 1 1)),
 o 2 d30 (.e (.app s28 s29 1 1 false)),
 o 3 d31 (.q (.mv s1)),
 o 4 d32 (.call p114 [s30, s31, (.v (.int .i64 (.ofNat 4)))]),
 o 5 d4 (.q (.mv s32))])
 .ret) .skip)))))))))
 (.seq (.reg [o 0 d33 (.q (.mv s5)),
 o 1 d34 (.e (.bsl [(.int .u8 (.ofNat 0))] [(0, 1, (.v (.int .u8 (.ofNat 255))))] 1 1)),
 o 2 d35 (.e (.app s33 s34 1 1 false)),
 o 3 d36 (.q (.mv s1)),
 o 4 d37 (.call p114 [s35, s36, (.v (.int .i64 (.ofNat 8)))]),
 o 5 d4 (.q (.mv s37))])
 .ret))))
 [.t p4]

noncomputable def f136 : FnE := .code 9
 (.seq (.reg [o 0 d4 (.q (.mv (.v .nils)))])
 (.seq (.reg [o 0 d5 (.q (.mv s0)),
 o 1 d6 (.call p85 [s5]),
 o 2 d7 (.q (.mv s1)),
 o 3 d8 (.call p114 [s6, s7, (.v (.int .i64 (.ofNat 8)))]),
 o 4 d4 (.q (.mv s8))])
 .ret))
 [.t p4]

noncomputable def f139 : FnE := .code 5
 (.seq (.reg [o 0 d2 (.q (.mv (.v .nils)))])
 (.seq (.reg [o 0 d3 (.q (.mv s0)),
 o 1 d4 (.call p173 [(.v .nils), s3]),
 o 2 d2 (.q (.mv s4))])
 .ret))
 [.t p2]

noncomputable def f140 : FnE := .code 14
 (.seq (.reg [o 0 d5 (.q (.mv s0)),
 o 1 d6 (.q (.lenv s5)),
 o 2 d4 (.q (.mv s6))])
 (.reg [o 0 d7 (.q (.mv s0)),
 o 1 d8 (.q (.mv s4)),
 o 2 d9 (.q (.mv s4)),
 o 3 d10 (.q (.cvi .u64 s9)),
 o 4 d11 (.call p175 [s10]),
 o 5 d12 (.q (.mv s1)),
 o 6 d13 (.call p174 [s7, (.v (.int .i64 (.ofNat 0))), s8, s11, s12])]))
 []

noncomputable def f144 : FnE := .code 23
 (.blk 0 (.loop (.blk 1 (.seq (.reg [o 0 d5 (.q (.mv s1)),
 o 1 d6 (.q (.bin .sub s5 (.v (.int .i64 (.ofNat 1))))),
 o 2 d7 (.q (.bin .quo s6 (.v (.int .i64 (.ofNat 2))))),
 o 3 d4 (.q (.mv s7))])
 (.seq (.seq (.reg [o 0 d8 (.q (.mv s4)),
 o 1 d9 (.q (.mv s1)),
 o 2 d10 (.q (.bin .eql s8 s9)),
 o 3 d11 (.q (.mv s10)),
 ⟨4, d12, (.q (.mv s0)), (some (p11, false)), []⟩,
 ⟨5, d13, (.q (.mv s1)), (some (p11, false)), []⟩,
 ⟨6, d14, (.q (.mv s4)), (some (p11, false)), []⟩,
 ⟨7, d15, (.inv s12 "Less" [s13, s14]), (some (p11, false)), []⟩,
 ⟨8, d16, (.q (.not s15)), (some (p11, false)), []⟩,
 o 9 d17 (.q (.pick s11 (.v (.bool true)) s16))])
 (.cnd s17 (.exit 0) .skip))
 (.seq (.reg [o 0 d18 (.q (.mv s0)),
 o 1 d19 (.q (.mv s4)),
 o 2 d20 (.q (.mv s1)),
 o 3 d21 (.inv s18 "Swap" [s19, s20])])
 (.reg [o 0 d22 (.q (.mv s4)),
 o 1 d1 (.q (.mv s22))])))))))
 []

noncomputable def f146 : FnE := .code 8
 (.seq (.reg [o 0 d2 (.q (.mv (.v (.int .i64 (.ofNat 0)))))])
 (.seq (.reg [o 0 d3 (.q (.mv s0)),
 o 1 d4 (.q (.nck s3)),
 o 2 d5 (.q (.fadr s4 0)),
 o 3 d6 (.q (.ld1 s5)),
 o 4 d7 (.q (.lenv s6)),
 o 5 d2 (.q (.mv s7))])
 .ret))
 [.t p2]

noncomputable def f147 : FnE := .code 42
 (.seq (.reg [o 0 d4 (.q (.mv (.v .nils)))])
 (.seq (.reg [o 0 d8 (.q (.mv s0)),
 o 1 d9 (.q (.mv s1)),
 o 2 d10 (.call p180 [s8, s9]),
 o 3 d5 (.q (.mv s10))])
 (.seq (.seq (.reg [o 0 d11 (.q (.mv s5)),
 o 1 d12 (.q (.bin .eql s11 (.v (.int .i64 (.negSucc 0)))))])
 (.cnd s12 (.seq (.reg [o 0 d13 (.q (.mv s0)),
 o 1 d4 (.q (.mv s13))])
 .ret) .skip))
 (.seq (.seq (.reg [o 0 d14 (.q (.mv s5)),
 o 1 d15 (.q (.bin .add s14 (.v (.int .i64 (.ofNat 1))))),
 o 2 d6 (.q (.mv s15))])
 (.blk 0 (.loop (.seq (.seq (.reg [o 0 d16 (.q (.mv s6)),
 o 1 d17 (.q (.mv s0)),
 o 2 d18 (.q (.lenv s17)),
 o 3 d19 (.q (.bin .lss s16 s18))])
 (.cnd s19 .skip (.exit 0)))
 (.seq (.blk 1 (.seq (.reg [o 0 d22 (.q (.mv s0)),
 o 1 d23 (.q (.mv s6)),
 o 2 d24 (.q (.iadr s22 s23 32)),
 o 3 d25 (.q (.ldn s24 32)),
 o 4 d7 (.e (.alo (zz (.int .u8 (.ofNat 0)) 32))),
 o 5 none (.e (.st s7 s25 32))])
 (.seq (.reg [o 0 d26 (.q (.mv s1)),
 o 1 d27 (.q (.ldn s7 32)),
 o 2 d28 (.callv s26 [s27]),
 o 3 d29 (.q (.not s28))])
 (.cnd s29 (.seq (.reg [o 0 d30 (.q (.mv s0)),
 o 1 d31 (.q (.mv s5)),
 o 2 d32 (.q (.ldn s7 32)),
 o 3 d33 (.q (.iadr s30 s31 32)),
 o 4 none (.e (.st s33 s32 32))])
 (.reg [o 0 d34 (.q (.mv s5)),
 o 1 d35 (.q (.bin .add s34 (.v (.int .i64 (.ofNat 1))))),
 o 2 d5 (.q (.mv s35))])) .skip))))
 (.reg [o 0 d20 (.q (.mv s6)),
 o 1 d21 (.q (.bin .add s20 (.v (.int .i64 (.ofNat 1))))),
 o 2 d6 (.q (.mv s21))]))))))
 (.seq (.reg [o 0 d36 (.q (.mv s0)),
 o 1 d37 (.q (.mv s5)),
 o 2 d38 (.q (.slc s36 (some s37) none 32)),
 o 3 none (.e (.clr s38 (zz (.int .u8 (.ofNat 0)) 32) 32))])
 (.seq (.reg [o 0 d39 (.q (.mv s0)),
 o 1 d40 (.q (.mv s5)),
 o 2 d41 (.q (.slc s39 none (some s40) 32)),
 o 3 d4 (.q (.mv s41))])
 .ret))))))
 [.t p4]

noncomputable def f148 : FnE := .code 10
 (.seq (.reg [o 0 d3 (.e (.box s1 32)),
 o 1 d4 (.q (.mv (.v .nils)))])
 (.seq (.reg [o 0 d5 (.q (.mv s0)),
 o 1 d6 (.q (.ldn s3 32)),
 o 2 d7 (.q (.mv s0)),
 o 3 d8 (.q (.mkf 181 [s7] [])),
 o 4 d9 (.call p178 [s5, s6, s8]),
 o 5 d4 (.q (.mv s9))])
 .ret))
 [.t p4]

noncomputable def f149 : FnE := .code 10
 (.seq (.reg [o 0 d2 (.e (.box s0 32)),
 o 1 d3 (.q (.mv (.v (.bool false))))])
 (.seq (.rgd 0 [o 0 d4 (.q (.ld1 s1)),
 o 1 d5 (.q (.nck s4)),
 o 2 d6 (.q (.fadr s5 1)),
 o 3 d7 (.q (.ld1 s6)),
 o 4 d8 (.q (.ldn s2 32)),
 o 5 d9 (.q (.lkp s7 s8 (.cells (kk .u8 32)) (.bool false) false)),
 o 6 d3 (.q (.mv s9))])
 .ret))
 [.t p3]

noncomputable def f150 : FnE := .code 27
 (.seq (.reg [o 0 d4 (.q (.mv (.v .nils)))])
 (.seq (.reg [o 0 d5 (.q (.mv (.v .nils)))])
 (.seq (.seq (.reg [o 0 d8 (.q (.mv s1)),
 o 1 d9 (.q (.lenv s8)),
 o 2 d10 (.q (.mv (.v (.int .i64 (.ofNat 0)))))])
 (.blk 0 (.loop (.seq (.reg [o 0 d11 (.q (.bin .lss s10 s9))])
 (.seq (.cnd s11 .skip (.exit 0))
 (.seq (.blk 1 (.seq (.reg [o 0 d12 (.q (.iadr s8 s10 32)),
 o 1 d13 (.q (.ldn s12 32)),
 o 2 d7 (.e (.alo (zz (.int .u8 (.ofNat 0)) 32))),
 o 3 none (.e (.st s7 s13 32))])
 (.rgd 0 [o 0 d14 (.q (.mv s5)),
 o 1 d15 (.q (.mv s0)),
 o 2 d16 (.q (.nck s15)),
 o 3 d17 (.q (.fadr s16 0)),
 o 4 d18 (.q (.ld1 s17)),
 o 5 d19 (.q (.ldn s7 32)),
 o 6 d20 (.q (.lkp s18 s19 (.cells (kk .u8 32)) (.agg [(.int .u32 (.ofNat 0)), .nils, .nils, (.int .u32 (.ofNat 0)), (.int .u64 (.ofNat 0)), (.int .i64 (.ofNat 0)), (.int .i64 (.ofNat 0))]) false)),
 o 7 d21 (.q (.fld s20 0 4 true)),
 o 8 d22 (.call p46 [s21]),
 o 9 d23 (.e (.bsl [(.int .u32 (.ofNat 0)), .nils, .nils, (.int .u32 (.ofNat 0))] [(0, 4, s22)] 1 4)),
 o 10 d24 (.e (.app s14 s23 4 64 false)),
 o 11 d5 (.q (.mv s24))])))
 (.reg [o 0 d25 (.q (.bin .add s10 (.v (.int .i64 (.ofNat 1))))),
 o 1 d10 (.q (.mv s25))])))))))
 (.seq (.reg [o 0 d26 (.q (.mv s5)),
 o 1 d4 (.q (.mv s26))])
 .ret))))
 [.t p4]

noncomputable def f151 : FnE := .code 9
 (.seq (.reg [o 0 d2 (.e (.box s0 1)),
 o 1 d4 (.q (.mv (.v .nils)))])
 (.seq (.reg [o 0 d5 (.q (.mv s1)),
 o 1 d6 (.call p182 [s5]),
 o 2 d7 (.q (.mkf 183 [] [s2])),
 o 3 d8 (.call p88 [s6, s7]),
 o 4 d4 (.q (.mv s8))])
 .ret))
 [.t p4]

noncomputable def f156 : FnE := .code 48
 (.seq (.reg [o 0 d3 (.e (.box s1 4)),
 o 1 d4 (.q (.mv (.v .nils)))])
 (.seq (.reg [o 0 d5 (.q (.mv (.v .nils)))])
 (.seq (.seq (.reg [o 0 d10 (.q (.fadr s3 1)),
 o 1 d11 (.q (.ld1 s10)),
 o 2 d12 (.q (.lenv s11)),
 o 3 d13 (.q (.mv (.v (.int .i64 (.ofNat 0)))))])
 (.blk 0 (.loop (.seq (.reg [o 0 d14 (.q (.bin .lss s13 s12))])
 (.seq (.cnd s14 .skip (.exit 0))
 (.seq (.blk 1 (.seq (.reg [o 0 d15 (.q (.iadr s11 s13 35)),
 o 1 d16 (.q (.ldn s15 35)),
 o 2 d7 (.e (.alo (lapp (zz (.int .u8 (.ofNat 0)) 32) [(.int .u32 (.ofNat 0)), .nils, (.int .u32 (.ofNat 0))]))),
 o 3 none (.e (.st s7 s16 35))])
 (.seq (.rgd 0 [o 0 d18 (.q (.mv s0)),
 o 1 d19 (.q (.nck s18)),
 o 2 d20 (.q (.fadr s19 0)),
 o 3 d21 (.q (.ld1 s20)),
 o 4 d22 (.q (.fadr s7 0)),
 o 5 d23 (.q (.fadr s22 0)),
 o 6 d24 (.q (.ldn s23 32)),
 o 7 d25 (.q (.lkp s21 s24 (.cells (kk .u8 32)) (.agg [(.int .u32 (.ofNat 0)), .nils, .nils, (.int .u32 (.ofNat 0)), (.int .u64 (.ofNat 0)), (.int .i64 (.ofNat 0)), (.int .i64 (.ofNat 0))]) true)),
 o 8 d17 (.q (.mv s25)),
 o 9 d26 (.q (.ext s17 0)),
 o 10 d27 (.q (.ext s17 1)),
 ⟨11, d8, (.e (.alo [(.int .u32 (.ofNat 0)), .nils, .nils, (.int .u32 (.ofNat 0)), (.int .u64 (.ofNat 0)), (.int .i64 (.ofNat 0)), (.int .i64 (.ofNat 0))])), none, [(p21, .ld1 s20, none), (p24, .ldn s23 32, none), (p25, .lkp s21 s24 (.cells (kk .u8 32)) (.agg [(.int .u32 (.ofNat 0)), .nils, .nils, (.int .u32 (.ofNat 0)), (.int .u64 (.ofNat 0)), (.int .i64 (.ofNat 0)), (.int .i64 (.ofNat 0))]) true, none)]⟩,
 o 12 none (.e (.st s8 s26 7)),
 o 13 d9 (.q (.mv s27))])
 (.seq (.reg [o 0 d28 (.q (.mv s9)),
 o 1 d29 (.q (.mv s28)),
 ⟨2, d30, (.q (.fadr s7 0)), (some (p29, true)), []⟩,
 ⟨3, d31, (.q (.fadr s30 32)), (some (p29, true)), []⟩,
 ⟨4, d32, (.q (.ld1 s31)), (some (p29, true)), []⟩,
 ⟨5, d33, (.q (.cvi .i64 s32)), (some (p29, true)), []⟩,
 ⟨6, d34, (.q (.fadr s8 0)), (some (p29, true)), []⟩,
 ⟨7, d35, (.q (.fadr s34 2)), (some (p29, true)), []⟩,
 ⟨8, d36, (.q (.ld1 s35)), (some (p29, true)), []⟩,
 ⟨9, d37, (.q (.lenv s36)), (some (p29, true)), []⟩,
 ⟨10, d38, (.q (.bin .lss s33 s37)), (some (p29, true)), []⟩,
 o 11 d39 (.q (.pick s29 s38 (.v (.bool false))))])
 (.cnd s39 (.reg [o 0 d40 (.q (.mv s5)),
 o 1 d41 (.q (.fadr s7 0)),
 o 2 d42 (.q (.fadr s41 0)),
 o 3 d43 (.q (.ldn s42 32)),
 o 4 d44 (.e (.bsl (zz (.int .u8 (.ofNat 0)) 32) [(0, 32, s43)] 1 32)),
 o 5 d45 (.e (.app s40 s44 32 32 false)),
 o 6 d5 (.q (.mv s45))]) .skip)))))
 (.reg [o 0 d46 (.q (.bin .add s13 (.v (.int .i64 (.ofNat 1))))),
 o 1 d13 (.q (.mv s46))])))))))
 (.seq (.reg [o 0 d47 (.q (.mv s5)),
 o 1 d4 (.q (.mv s47))])
 .ret))))
 [.t p4]

noncomputable def f171 : FnE := .code 12
 (.seq (.reg [o 0 d2 (.q (.mv (.v (.int .i64 (.ofNat 0)))))])
 (.seq (.blk 0 (.seq (.reg [o 0 d4 (.q (.mv s0)),
 o 1 d5 (.q (.bin .lss s4 (.v (.int .u64 (.ofNat 253))))),
 o 2 d3 (.q (.mv s5))])
 (.cnd s3 (.seq (.reg [o 0 d2 (.q (.mv (.v (.int .i64 (.ofNat 1)))))])
 .ret) (.seq (.reg [o 0 d7 (.q (.mv s0)),
 o 1 d8 (.q (.bin .lss s7 (.v (.int .u64 (.ofNat 65536))))),
 o 2 d6 (.q (.mv s8))])
 (.cnd s6 (.seq (.reg [o 0 d2 (.q (.mv (.v (.int .i64 (.ofNat 3)))))])
 .ret) (.seq (.reg [o 0 d10 (.q (.mv s0)),
 o 1 d11 (.q (.bin .lss s10 (.v (.int .u64 (.ofNat 4294967296))))),
 o 2 d9 (.q (.mv s11))])
 (.cnd s9 (.seq (.reg [o 0 d2 (.q (.mv (.v (.int .i64 (.ofNat 5)))))])
 .ret) .skip)))))))
 (.seq (.reg [o 0 d2 (.q (.mv (.v (.int .i64 (.ofNat 9)))))])
 .ret)))
 [.t p2]

noncomputable def f174 : FnE := .code 148
 (.seq (.reg [o 0 d10 (.q (.mv (.v (.bool true))))])
 (.seq (.reg [o 0 d11 (.q (.mv (.v (.bool true))))])
 (.blk 0 (.loop (.blk 1 (.seq (.reg [o 0 d21 (.q (.mv s2)),
 o 1 d22 (.q (.mv s1)),
 o 2 d23 (.q (.bin .sub s21 s22)),
 o 3 d12 (.q (.mv s23))])
 (.seq (.seq (.reg [o 0 d24 (.q (.mv s12)),
 o 1 d25 (.q (.bin .leq s24 (.v (.int .i64 (.ofNat 12)))))])
 (.cnd s25 (.seq (.reg [o 0 d26 (.q (.mv s0)),
 o 1 d27 (.q (.mv s1)),
 o 2 d28 (.q (.mv s2)),
 o 3 d29 (.q (.mv s4)),
 o 4 d30 (.call p194 [s26, s27, s28, s29])])
 .ret) .skip))
 (.seq (.seq (.reg [o 0 d31 (.q (.mv s3)),
 o 1 d32 (.q (.bin .eql s31 (.v (.int .i64 (.ofNat 0)))))])
 (.cnd s32 (.seq (.reg [o 0 d33 (.q (.mv s0)),
 o 1 d34 (.q (.mv s1)),
 o 2 d35 (.q (.mv s2)),
 o 3 d36 (.q (.mv s4)),
 o 4 d37 (.call p195 [s33, s34, s35, s36])])
 .ret) .skip))
 (.seq (.seq (.reg [o 0 d38 (.q (.mv s10)),
 o 1 d39 (.q (.not s38))])
 (.cnd s39 (.seq (.reg [o 0 d40 (.q (.mv s0)),
 o 1 d41 (.q (.mv s1)),
 o 2 d42 (.q (.mv s2)),
 o 3 d43 (.q (.mv s4)),
 o 4 d44 (.call p196 [s40, s41, s42, s43])])
 (.reg [o 0 d45 (.q (.mv s3)),
 o 1 d46 (.q (.bin .sub s45 (.v (.int .i64 (.ofNat 1))))),
 o 2 d3 (.q (.mv s46))])) .skip))
 (.seq (.reg [o 0 d48 (.q (.mv s0)),
 o 1 d49 (.q (.mv s1)),
 o 2 d50 (.q (.mv s2)),
 o 3 d51 (.q (.mv s4)),
 o 4 d52 (.call p197 [s48, s49, s50, s51]),
 o 5 d47 (.q (.mv s52)),
 o 6 d53 (.q (.ext s47 0)),
 o 7 d54 (.q (.ext s47 1)),
 o 8 d13 (.q (.mv s53)),
 o 9 d14 (.q (.mv s54))])
 (.seq (.seq (.reg [o 0 d55 (.q (.mv s14)),
 o 1 d56 (.q (.bin .eql s55 (.v (.int .i64 (.ofNat 2)))))])
 (.cnd s56 (.seq (.reg [o 0 d57 (.q (.mv s0)),
 o 1 d58 (.q (.mv s1)),
 o 2 d59 (.q (.mv s2)),
 o 3 d60 (.q (.mv s4)),
 o 4 d61 (.call p198 [s57, s58, s59, s60])])
 (.seq (.reg [o 0 d62 (.q (.mv s2)),
 o 1 d63 (.q (.bin .sub s62 (.v (.int .i64 (.ofNat 1))))),
 o 2 d64 (.q (.mv s13)),
 o 3 d65 (.q (.mv s1)),
 o 4 d66 (.q (.bin .sub s64 s65)),
 o 5 d67 (.q (.bin .sub s63 s66)),
 o 6 d13 (.q (.mv s67))])
 (.reg [o 0 d14 (.q (.mv (.v (.int .i64 (.ofNat 1)))))]))) .skip))
 (.seq (.seq (.reg [o 0 d68 (.q (.mv s10)),
 o 1 d69 (.q (.mv s68)),
 ⟨2, d70, (.q (.mv s11)), (some (p69, true)), []⟩,
 o 3 d71 (.q (.pick s69 s70 (.v (.bool false)))),
 o 4 d72 (.q (.mv s71)),
 ⟨5, d73, (.q (.mv s14)), (some (p72, true)), []⟩,
 ⟨6, d74, (.q (.bin .eql s73 (.v (.int .i64 (.ofNat 1))))), (some (p72, true)), []⟩,
 o 7 d75 (.q (.pick s72 s74 (.v (.bool false))))])
 (.cnd s75 (.seq (.reg [o 0 d76 (.q (.mv s0)),
 o 1 d77 (.q (.mv s1)),
 o 2 d78 (.q (.mv s2)),
 o 3 d79 (.q (.mv s4)),
 o 4 d80 (.call p199 [s76, s77, s78, s79])])
 (.cnd s80 .ret .skip)) .skip))
 (.seq (.seq (.rgd 0 [o 0 d81 (.q (.mv s1)),
 o 1 d82 (.q (.bin .gtr s81 (.v (.int .i64 (.ofNat 0))))),
 o 2 d83 (.q (.mv s82)),
 ⟨3, d84, (.q (.mv s4)), (some (p83, true)), []⟩,
 ⟨4, d85, (.q (.mv s0)), (some (p83, true)), []⟩,
 ⟨5, d86, (.q (.mv s1)), (some (p83, true)), []⟩,
 ⟨6, d87, (.q (.bin .sub s86 (.v (.int .i64 (.ofNat 1))))), (some (p83, true)), []⟩,
 ⟨7, d88, (.q (.iadr s85 s87 32)), (some (p83, true)), []⟩,
 ⟨8, d89, (.q (.ldn s88 32)), (some (p83, true)), []⟩,
 ⟨9, d90, (.q (.mv s0)), (some (p83, true)), []⟩,
 ⟨10, d91, (.q (.mv s13)), (some (p83, true)), []⟩,
 ⟨11, d92, (.q (.iadr s90 s91 32)), (some (p83, true)), []⟩,
 ⟨12, d93, (.q (.ldn s92 32)), (some (p83, true)), []⟩,
 ⟨13, d94, (.callv s84 [s89, s93]), (some (p83, true)), []⟩,
 ⟨14, d95, (.q (.bin .lss s94 (.v (.int .i64 (.ofNat 0))))), (some (p83, true)), []⟩,
 ⟨15, d96, (.q (.not s95)), (some (p83, true)), []⟩,
 o 16 d97 (.q (.pick s83 s96 (.v (.bool false))))])
 (.cnd s97 (.seq (.reg [o 0 d98 (.q (.mv s0)),
 o 1 d99 (.q (.mv s1)),
 o 2 d100 (.q (.mv s2)),
 o 3 d101 (.q (.mv s13)),
 o 4 d102 (.q (.mv s4)),
 o 5 d103 (.call p200 [s98, s99, s100, s101, s102]),
 o 6 d15 (.q (.mv s103))])
 (.seq (.reg [o 0 d104 (.q (.mv s15)),
 o 1 d1 (.q (.mv s104))])
 (.exit 1))) .skip))
 (.seq (.reg [o 0 d106 (.q (.mv s0)),
 o 1 d107 (.q (.mv s1)),
 o 2 d108 (.q (.mv s2)),
 o 3 d109 (.q (.mv s13)),
 o 4 d110 (.q (.mv s4)),
 o 5 d111 (.call p201 [s106, s107, s108, s109, s110]),
 o 6 d105 (.q (.mv s111)),
 o 7 d112 (.q (.ext s105 0)),
 o 8 d113 (.q (.ext s105 1)),
 o 9 d16 (.q (.mv s112)),
 o 10 d17 (.q (.mv s113))])
 (.seq (.reg [o 0 d114 (.q (.mv s17)),
 o 1 d11 (.q (.mv s114))])
 (.seq (.reg [o 0 d115 (.q (.mv s16)),
 o 1 d116 (.q (.mv s1)),
 o 2 d117 (.q (.bin .sub s115 s116)),
 o 3 d118 (.q (.mv s2)),
 o 4 d119 (.q (.mv s16)),
 o 5 d120 (.q (.bin .sub s118 s119)),
 o 6 d18 (.q (.mv s117)),
 o 7 d19 (.q (.mv s120))])
 (.seq (.reg [o 0 d121 (.q (.mv s12)),
 o 1 d122 (.q (.bin .quo s121 (.v (.int .i64 (.ofNat 8))))),
 o 2 d20 (.q (.mv s122))])
 (.seq (.reg [o 0 d123 (.q (.mv s18)),
 o 1 d124 (.q (.mv s19)),
 o 2 d125 (.q (.bin .lss s123 s124))])
 (.cnd s125 (.seq (.reg [o 0 d126 (.q (.mv s18)),
 o 1 d127 (.q (.mv s20)),
 o 2 d128 (.q (.bin .geq s126 s127)),
 o 3 d10 (.q (.mv s128))])
 (.seq (.reg [o 0 d129 (.q (.mv s0)),
 o 1 d130 (.q (.mv s1)),
 o 2 d131 (.q (.mv s16)),
 o 3 d132 (.q (.mv s3)),
 o 4 d133 (.q (.mv s4)),
 o 5 d134 (.call p174 [s129, s130, s131, s132, s133])])
 (.reg [o 0 d135 (.q (.mv s16)),
 o 1 d136 (.q (.bin .add s135 (.v (.int .i64 (.ofNat 1))))),
 o 2 d1 (.q (.mv s136))]))) (.seq (.reg [o 0 d137 (.q (.mv s19)),
 o 1 d138 (.q (.mv s20)),
 o 2 d139 (.q (.bin .geq s137 s138)),
 o 3 d10 (.q (.mv s139))])
 (.seq (.reg [o 0 d140 (.q (.mv s0)),
 o 1 d141 (.q (.mv s16)),
 o 2 d142 (.q (.bin .add s141 (.v (.int .i64 (.ofNat 1))))),
 o 3 d143 (.q (.mv s2)),
 o 4 d144 (.q (.mv s3)),
 o 5 d145 (.q (.mv s4)),
 o 6 d146 (.call p174 [s140, s142, s143, s144, s145])])
 (.reg [o 0 d147 (.q (.mv s16)),
 o 1 d2 (.q (.mv s147))]))))))))))))))))))))))
 []

noncomputable def f175 : FnE := .code 8
 (.seq (.reg [o 0 d2 (.q (.mv (.v (.int .i64 (.ofNat 0)))))])
 (.seq (.cnd (.v (.bool false)) (.seq (.reg [o 0 d3 (.q (.mv s0)),
 o 1 d4 (.q (.cvi .u32 s3)),
 o 2 d5 (.call p202 [s4]),
 o 3 d2 (.q (.mv s5))])
 .ret) .skip)
 (.seq (.reg [o 0 d6 (.q (.mv s0)),
 o 1 d7 (.call p203 [s6]),
 o 2 d2 (.q (.mv s7))])
 .ret)))
 [.t p2]

noncomputable def f178 : FnE := .code 61
 (.seq (.reg [o 0 d4 (.e (.box s1 32)),
 o 1 d6 (.q (.mv (.v .nils)))])
 (.seq (.seq (.rgd 0 [o 0 d15 (.q (.mv s0)),
 o 1 d16 (.q (.nck s15)),
 o 2 d17 (.q (.fadr s16 0)),
 o 3 d18 (.q (.ld1 s17)),
 o 4 d19 (.q (.ldn s4 32)),
 o 5 d20 (.q (.lkp s18 s19 (.cells (kk .u8 32)) (.agg [(.int .u32 (.ofNat 0)), .nils, .nils, (.int .u32 (.ofNat 0)), (.int .u64 (.ofNat 0)), (.int .i64 (.ofNat 0)), (.int .i64 (.ofNat 0))]) true)),
 o 6 d14 (.q (.mv s20)),
 o 7 d21 (.q (.ext s14 0)),
 o 8 d22 (.q (.ext s14 1)),
 ⟨9, d7, (.e (.alo [(.int .u32 (.ofNat 0)), .nils, .nils, (.int .u32 (.ofNat 0)), (.int .u64 (.ofNat 0)), (.int .i64 (.ofNat 0)), (.int .i64 (.ofNat 0))])), none, [(p18, .ld1 s17, none), (p19, .ldn s4 32, none), (p20, .lkp s18 s19 (.cells (kk .u8 32)) (.agg [(.int .u32 (.ofNat 0)), .nils, .nils, (.int .u32 (.ofNat 0)), (.int .u64 (.ofNat 0)), (.int .i64 (.ofNat 0)), (.int .i64 (.ofNat 0))]) true, none)]⟩,
 o 10 none (.e (.st s7 s21 7)),
 o 11 d8 (.q (.mv s22))])
 (.seq (.reg [o 0 d23 (.q (.mv s8)),
 o 1 d24 (.q (.not s23))])
 (.cnd s24 (.seq (.reg [o 0 d6 (.q (.mv (.v .nils)))])
 .ret) .skip)))
 (.seq (.reg [o 0 d25 (.e (.mkm (.cells (kk .u8 32)))),
 o 1 d26 (.q (.ldn s4 32)),
 o 2 none (.e (.mup s25 s26 (.v (.bool true)) (.cells (kk .u8 32)))),
 o 3 d27 (.q (.mv s25)),
 o 4 d9 (.q (.mv s27))])
 (.seq (.reg [o 0 d28 (.q (.ldn s4 32)),
 o 1 d29 (.e (.bsl (zz (.int .u8 (.ofNat 0)) 32) [(0, 32, s28)] 1 32)),
 o 2 d10 (.q (.mv s29))])
 (.seq (.seq (.reg [o 0 d11 (.q (.mv (.v (.int .i64 (.ofNat 0)))))])
 (.blk 0 (.loop (.seq (.seq (.reg [o 0 d30 (.q (.mv s11)),
 o 1 d31 (.q (.mv s10)),
 o 2 d32 (.q (.lenv s31)),
 o 3 d33 (.q (.bin .lss s30 s32))])
 (.cnd s33 .skip (.exit 0)))
 (.seq (.blk 1 (.seq (.reg [o 0 d36 (.q (.mv s2)),
 o 1 d37 (.q (.mv s10)),
 o 2 d38 (.q (.mv s11)),
 o 3 d39 (.q (.iadr s37 s38 32)),
 o 4 d40 (.q (.ldn s39 32)),
 o 5 d41 (.callv s36 [s40]),
 o 6 d42 (.q (.lenv s41)),
 o 7 d43 (.q (.mv (.v (.int .i64 (.ofNat 0)))))])
 (.blk 2 (.loop (.seq (.reg [o 0 d44 (.q (.bin .lss s43 s42))])
 (.seq (.cnd s44 .skip (.exit 2))
 (.seq (.blk 3 (.seq (.reg [o 0 d45 (.q (.iadr s41 s43 32)),
 o 1 d46 (.q (.ldn s45 32)),
 o 2 d13 (.e (.alo (zz (.int .u8 (.ofNat 0)) 32))),
 o 3 none (.e (.st s13 s46 32))])
 (.seq (.reg [o 0 d47 (.q (.mv s9)),
 o 1 d48 (.q (.ldn s13 32)),
 o 2 d49 (.q (.lkp s47 s48 (.cells (kk .u8 32)) (.bool false) false)),
 o 3 d50 (.q (.not s49))])
 (.cnd s50 (.seq (.reg [o 0 d51 (.q (.mv s9)),
 o 1 d52 (.q (.ldn s13 32)),
 o 2 none (.e (.mup s51 s52 (.v (.bool true)) (.cells (kk .u8 32))))])
 (.reg [o 0 d53 (.q (.mv s10)),
 o 1 d54 (.q (.ldn s13 32)),
 o 2 d55 (.e (.bsl (zz (.int .u8 (.ofNat 0)) 32) [(0, 32, s54)] 1 32)),
 o 3 d56 (.e (.app s53 s55 32 32 false)),
 o 4 d10 (.q (.mv s56))])) .skip))))
 (.reg [o 0 d57 (.q (.bin .add s43 (.v (.int .i64 (.ofNat 1))))),
 o 1 d43 (.q (.mv s57))]))))))))
 (.reg [o 0 d34 (.q (.mv s11)),
 o 1 d35 (.q (.bin .add s34 (.v (.int .i64 (.ofNat 1))))),
 o 2 d11 (.q (.mv s35))]))))))
 (.seq (.reg [o 0 d58 (.q (.mv s10)),
 o 1 d59 (.call p140 [s58, (.f 90)])])
 (.seq (.reg [o 0 d60 (.q (.mv s10)),
 o 1 d6 (.q (.mv s60))])
 .ret)))))))
 [.t p6]

noncomputable def f180 : FnE := .code 19
 (.seq (.reg [o 0 d4 (.q (.mv (.v (.int .i64 (.ofNat 0)))))])
 (.seq (.seq (.reg [o 0 d6 (.q (.mv s0)),
 o 1 d7 (.q (.lenv s6)),
 o 2 d8 (.q (.mv (.v (.int .i64 (.ofNat 0)))))])
 (.blk 0 (.loop (.seq (.reg [o 0 d9 (.q (.bin .lss s8 s7))])
 (.seq (.cnd s9 .skip (.exit 0))
 (.seq (.blk 1 (.seq (.reg [o 0 d10 (.q (.mv s8)),
 o 1 d5 (.q (.mv s10))])
 (.seq (.reg [o 0 d11 (.q (.mv s1)),
 o 1 d12 (.q (.mv s0)),
 o 2 d13 (.q (.mv s5)),
 o 3 d14 (.q (.iadr s12 s13 32)),
 o 4 d15 (.q (.ldn s14 32)),
 o 5 d16 (.callv s11 [s15])])
 (.cnd s16 (.seq (.reg [o 0 d17 (.q (.mv s5)),
 o 1 d4 (.q (.mv s17))])
 .ret) .skip))))
 (.reg [o 0 d18 (.q (.bin .add s8 (.v (.int .i64 (.ofNat 1))))),
 o 1 d8 (.q (.mv s18))])))))))
 (.seq (.reg [o 0 d4 (.q (.mv (.v (.int .i64 (.negSucc 0)))))])
 .ret)))
 [.t p4]

noncomputable def f181 : FnE := .code 14
 (.seq (.reg [o 0 d3 (.e (.box s1 32)),
 o 1 d4 (.q (.mv (.v .nils)))])
 (.seq (.rgd 0 [o 0 d5 (.q (.mv s0)),
 o 1 d6 (.q (.mv s0)),
 o 2 d7 (.q (.nck s6)),
 o 3 d8 (.q (.fadr s7 0)),
 o 4 d9 (.q (.ld1 s8)),
 o 5 d10 (.q (.ldn s3 32)),
 o 6 d11 (.q (.lkp s9 s10 (.cells (kk .u8 32)) (.agg [(.int .u32 (.ofNat 0)), .nils, .nils, (.int .u32 (.ofNat 0)), (.int .u64 (.ofNat 0)), (.int .i64 (.ofNat 0)), (.int .i64 (.ofNat 0))]) false)),
 o 7 d12 (.q (.fld s11 0 4 true)),
 o 8 d13 (.call p156 [s5, s12]),
 o 9 d4 (.q (.mv s13))])
 .ret))
 [.t p4]

noncomputable def f182 : FnE := .code 4
 (.seq (.reg [o 0 d1 (.e (.box s0 1)),
 o 1 d2 (.q (.mv (.v .nilf)))])
 (.seq (.reg [o 0 d3 (.q (.mkf 204 [] [s1])),
 o 1 d2 (.q (.mv s3))])
 .ret))
 [.t p2]

noncomputable def f183 : FnE := .code 21
 (.seq (.reg [o 0 d3 (.e (.box s0 32)),
 o 1 d4 (.e (.box s1 32)),
 o 2 d5 (.q (.mv (.v (.int .i64 (.ofNat 0)))))])
 (.seq (.rgd 0 [o 0 d6 (.q (.ld1 s2)),
 o 1 d7 (.q (.nck s6)),
 o 2 d8 (.q (.fadr s7 0)),
 o 3 d9 (.q (.ld1 s8)),
 o 4 d10 (.q (.ldn s3 32)),
 o 5 d11 (.q (.lkp s9 s10 (.cells (kk .u8 32)) (.agg [(.int .u32 (.ofNat 0)), .nils, .nils, (.int .u32 (.ofNat 0)), (.int .u64 (.ofNat 0)), (.int .i64 (.ofNat 0)), (.int .i64 (.ofNat 0))]) false)),
 o 6 d12 (.q (.fld s11 6 1 false)),
 o 7 d13 (.q (.ld1 s2)),
 o 8 d14 (.q (.nck s13)),
 o 9 d15 (.q (.fadr s14 0)),
 o 10 d16 (.q (.ld1 s15)),
 o 11 d17 (.q (.ldn s4 32)),
 o 12 d18 (.q (.lkp s16 s17 (.cells (kk .u8 32)) (.agg [(.int .u32 (.ofNat 0)), .nils, .nils, (.int .u32 (.ofNat 0)), (.int .u64 (.ofNat 0)), (.int .i64 (.ofNat 0)), (.int .i64 (.ofNat 0))]) false)),
 o 13 d19 (.q (.fld s18 6 1 false)),
 o 14 d20 (.q (.bin .sub s12 s19)),
 o 15 d5 (.q (.mv s20))])
 .ret))
 [.t p5]

noncomputable def f194 : FnE := .code 53
 (.seq (.reg [o 0 d10 (.q (.mv s1)),
 o 1 d11 (.q (.bin .add s10 (.v (.int .i64 (.ofNat 1))))),
 o 2 d8 (.q (.mv s11))])
 (.blk 0 (.loop (.seq (.seq (.reg [o 0 d12 (.q (.mv s8)),
 o 1 d13 (.q (.mv s2)),
 o 2 d14 (.q (.bin .lss s12 s13))])
 (.cnd s14 .skip (.exit 0)))
 (.seq (.blk 1 (.seq (.reg [o 0 d17 (.q (.mv s8)),
 o 1 d9 (.q (.mv s17))])
 (.blk 2 (.loop (.seq (.seq (.rgd 0 [o 0 d18 (.q (.mv s9)),
 o 1 d19 (.q (.mv s1)),
 o 2 d20 (.q (.bin .gtr s18 s19)),
 o 3 d21 (.q (.mv s20)),
 ⟨4, d22, (.q (.mv s3)), (some (p21, true)), []⟩,
 ⟨5, d23, (.q (.mv s0)), (some (p21, true)), []⟩,
 ⟨6, d24, (.q (.mv s9)), (some (p21, true)), []⟩,
 ⟨7, d25, (.q (.iadr s23 s24 32)), (some (p21, true)), []⟩,
 ⟨8, d26, (.q (.ldn s25 32)), (some (p21, true)), []⟩,
 ⟨9, d27, (.q (.mv s0)), (some (p21, true)), []⟩,
 ⟨10, d28, (.q (.mv s9)), (some (p21, true)), []⟩,
 ⟨11, d29, (.q (.bin .sub s28 (.v (.int .i64 (.ofNat 1))))), (some (p21, true)), []⟩,
 ⟨12, d30, (.q (.iadr s27 s29 32)), (some (p21, true)), []⟩,
 ⟨13, d31, (.q (.ldn s30 32)), (some (p21, true)), []⟩,
 ⟨14, d32, (.callv s22 [s26, s31]), (some (p21, true)), []⟩,
 ⟨15, d33, (.q (.bin .lss s32 (.v (.int .i64 (.ofNat 0))))), (some (p21, true)), []⟩,
 o 16 d34 (.q (.pick s21 s33 (.v (.bool false))))])
 (.cnd s34 .skip (.exit 2)))
 (.seq (.blk 3 (.rgd 0 [o 0 d37 (.q (.mv s0)),
 o 1 d38 (.q (.mv s9)),
 o 2 d39 (.q (.mv s0)),
 o 3 d40 (.q (.mv s9)),
 o 4 d41 (.q (.bin .sub s40 (.v (.int .i64 (.ofNat 1))))),
 o 5 d42 (.q (.mv s0)),
 o 6 d43 (.q (.mv s9)),
 o 7 d44 (.q (.bin .sub s43 (.v (.int .i64 (.ofNat 1))))),
 o 8 d45 (.q (.iadr s42 s44 32)),
 o 9 d46 (.q (.ldn s45 32)),
 o 10 d47 (.q (.mv s0)),
 o 11 d48 (.q (.mv s9)),
 o 12 d49 (.q (.iadr s47 s48 32)),
 o 13 d50 (.q (.ldn s49 32)),
 o 14 d51 (.q (.iadr s37 s38 32)),
 o 15 none (.e (.st s51 s46 32)),
 o 16 d52 (.q (.iadr s39 s41 32)),
 o 17 none (.e (.st s52 s50 32))]))
 (.reg [o 0 d35 (.q (.mv s9)),
 o 1 d36 (.q (.bin .sub s35 (.v (.int .i64 (.ofNat 1))))),
 o 2 d9 (.q (.mv s36))])))))))
 (.reg [o 0 d15 (.q (.mv s8)),
 o 1 d16 (.q (.bin .add s15 (.v (.int .i64 (.ofNat 1))))),
 o 2 d8 (.q (.mv s16))]))))))
 []

noncomputable def f203 : FnE := .code 25
 (.seq (.reg [o 0 d2 (.q (.mv (.v (.int .i64 (.ofNat 0)))))])
 (.seq (.seq (.reg [o 0 d3 (.q (.mv s0)),
 o 1 d4 (.q (.bin .geq s3 (.v (.int .u64 (.ofNat 4294967296)))))])
 (.cnd s4 (.seq (.reg [o 0 d5 (.q (.mv s0)),
 o 1 d6 (.q (.shf false s5 (.v (.int .u64 (.ofNat 32))))),
 o 2 d0 (.q (.mv s6))])
 (.reg [o 0 d2 (.q (.mv (.v (.int .i64 (.ofNat 32)))))])) .skip))
 (.seq (.seq (.reg [o 0 d7 (.q (.mv s0)),
 o 1 d8 (.q (.bin .geq s7 (.v (.int .u64 (.ofNat 65536)))))])
 (.cnd s8 (.seq (.reg [o 0 d9 (.q (.mv s0)),
 o 1 d10 (.q (.shf false s9 (.v (.int .u64 (.ofNat 16))))),
 o 2 d0 (.q (.mv s10))])
 (.reg [o 0 d11 (.q (.mv s2)),
 o 1 d12 (.q (.bin .add s11 (.v (.int .i64 (.ofNat 16))))),
 o 2 d2 (.q (.mv s12))])) .skip))
 (.seq (.seq (.reg [o 0 d13 (.q (.mv s0)),
 o 1 d14 (.q (.bin .geq s13 (.v (.int .u64 (.ofNat 256)))))])
 (.cnd s14 (.seq (.reg [o 0 d15 (.q (.mv s0)),
 o 1 d16 (.q (.shf false s15 (.v (.int .u64 (.ofNat 8))))),
 o 2 d0 (.q (.mv s16))])
 (.reg [o 0 d17 (.q (.mv s2)),
 o 1 d18 (.q (.bin .add s17 (.v (.int .i64 (.ofNat 8))))),
 o 2 d2 (.q (.mv s18))])) .skip))
 (.seq (.reg [o 0 d19 (.q (.mv s2)),
 o 1 d20 (.q (.mv s0)),
 o 2 d21 (.q (.cvi .u8 s20)),
 o 3 d22 (.q (.idxs (.v (.str [0, 1, 2, 2, 3, 3, 3, 3, 4, 4, 4, 4, 4, 4, 4, 4, 5, 5, 5, 5, 5, 5, 5, 5, 5, 5, 5, 5, 5, 5, 5, 5, 6, 6, 6, 6, 6, 6, 6, 6, 6, 6, 6, 6, 6, 6, 6, 6, 6, 6, 6, 6, 6, 6, 6, 6, 6, 6, 6, 6, 6, 6, 6, 6, 7, 7, 7, 7, 7, 7, 7, 7, 7, 7, 7, 7, 7, 7, 7, 7, 7, 7, 7, 7, 7, 7, 7, 7, 7, 7, 7, 7, 7, 7, 7, 7, 7, 7, 7, 7, 7, 7, 7, 7, 7, 7, 7, 7, 7, 7, 7, 7, 7, 7, 7, 7, 7, 7, 7, 7, 7, 7, 7, 7, 7, 7, 7, 7, 8, 8, 8, 8, 8, 8, 8, 8, 8, 8, 8, 8, 8, 8, 8, 8, 8, 8, 8, 8, 8, 8, 8, 8, 8, 8, 8, 8, 8, 8, 8, 8, 8, 8, 8, 8, 8, 8, 8, 8, 8, 8, 8, 8, 8, 8, 8, 8, 8, 8, 8, 8, 8, 8, 8, 8, 8, 8, 8, 8, 8, 8, 8, 8, 8, 8, 8, 8, 8, 8, 8, 8, 8, 8, 8, 8, 8, 8, 8, 8, 8, 8, 8, 8, 8, 8, 8, 8, 8, 8, 8, 8, 8, 8, 8, 8, 8, 8, 8, 8, 8, 8, 8, 8, 8, 8, 8, 8, 8, 8, 8, 8, 8, 8, 8, 8, 8, 8, 8, 8, 8, 8, 8, 8, 8, 8, 8, 8])) s21)),
 o 4 d23 (.q (.cvi .i64 s22)),
 o 5 d24 (.q (.bin .add s19 s23)),
 o 6 d2 (.q (.mv s24))])
 .ret)))))
 [.t p2]

noncomputable def f241 : FnE := .code 26
 (.seq (.reg [o 0 d6 (.q (.mv (.v (.bool false))))])
 (.seq (.rgd 0 [o 0 d7 (.q (.mv s0)),
 o 1 d8 (.q (.nck s7)),
 o 2 d9 (.q (.fadr s8 2)),
 o 3 d10 (.q (.ld1 s9)),
 o 4 d11 (.q (.mv s0)),
 o 5 d12 (.q (.nck s11)),
 o 6 d13 (.q (.fadr s12 0)),
 o 7 d14 (.q (.ld1 s13)),
 o 8 d15 (.q (.mv s1)),
 o 9 d16 (.q (.iadr s14 s15 34)),
 o 10 d17 (.q (.ldn s16 34)),
 o 11 d18 (.q (.mv s0)),
 o 12 d19 (.q (.nck s18)),
 o 13 d20 (.q (.fadr s19 0)),
 o 14 d21 (.q (.ld1 s20)),
 o 15 d22 (.q (.mv s2)),
 o 16 d23 (.q (.iadr s21 s22 34)),
 o 17 d24 (.q (.ldn s23 34)),
 o 18 d25 (.callv s10 [s17, s24]),
 o 19 d6 (.q (.mv s25))])
 .ret))
 [.t p6]

noncomputable def f243 : FnE := .code 32
 (.seq (.reg [o 0 d7 (.q (.mv s1)),
 o 1 d8 (.q (.tas s7 127 (.agg (lapp (zz (.int .u8 (.ofNat 0)) 32) [(.int .u64 (.ofNat 0)), (.int .i64 (.ofNat 0))])) true)),
 o 2 d6 (.q (.mv s8)),
 o 3 d9 (.q (.ext s6 0)),
 o 4 d10 (.q (.ext s6 1)),
 o 5 d4 (.e (.alo (lapp (zz (.int .u8 (.ofNat 0)) 32) [(.int .u64 (.ofNat 0)), (.int .i64 (.ofNat 0))]))),
 o 6 none (.e (.st s4 s9 34)),
 o 7 d5 (.q (.mv s10))])
 (.seq (.rgd 0 [o 0 d11 (.q (.mv s0)),
 o 1 d12 (.q (.nck s11)),
 o 2 d13 (.q (.fadr s12 1)),
 o 3 d14 (.q (.ld1 s13)),
 o 4 d15 (.q (.fadr s4 0)),
 o 5 d16 (.q (.ldn s15 32)),
 o 6 d17 (.q (.mv s0)),
 o 7 d18 (.q (.nck s17)),
 o 8 d19 (.q (.fadr s18 0)),
 o 9 d20 (.q (.ld1 s19)),
 o 10 d21 (.q (.lenv s20)),
 o 11 none (.e (.mup s14 s16 s21 (.cells (kk .u8 32))))])
 (.rgd 0 [o 0 d22 (.q (.mv s0)),
 o 1 d23 (.q (.mv s0)),
 o 2 d24 (.q (.nck s23)),
 o 3 d25 (.q (.fadr s24 0)),
 o 4 d26 (.q (.ld1 s25)),
 o 5 d27 (.q (.ldn s4 34)),
 ⟨6, d28, (.e (.bsl (lapp (zz (.int .u8 (.ofNat 0)) 32) [(.int .u64 (.ofNat 0)), (.int .i64 (.ofNat 0))]) [(0, 34, s27)] 1 34)), none, [(p26, .ld1 s25, none)]⟩,
 o 7 d29 (.e (.app s26 s28 34 48 false)),
 o 8 d30 (.q (.nck s22)),
 o 9 d31 (.q (.fadr s30 0)),
 o 10 none (.e (.st s31 s29 1))])))
 []

noncomputable def f244 : FnE := .code 62
 (.seq (.rgd 0 [o 0 d6 (.q (.mv s0)),
 o 1 d7 (.q (.nck s6)),
 o 2 d8 (.q (.fadr s7 0)),
 o 3 d9 (.q (.ld1 s8)),
 o 4 d10 (.q (.mv s1)),
 o 5 d11 (.q (.mv s0)),
 o 6 d12 (.q (.nck s11)),
 o 7 d13 (.q (.fadr s12 0)),
 o 8 d14 (.q (.ld1 s13)),
 o 9 d15 (.q (.mv s2)),
 o 10 d16 (.q (.mv s0)),
 o 11 d17 (.q (.nck s16)),
 o 12 d18 (.q (.fadr s17 0)),
 o 13 d19 (.q (.ld1 s18)),
 o 14 d20 (.q (.mv s2)),
 o 15 d21 (.q (.iadr s19 s20 34)),
 o 16 d22 (.q (.ldn s21 34)),
 o 17 d23 (.q (.mv s0)),
 o 18 d24 (.q (.nck s23)),
 o 19 d25 (.q (.fadr s24 0)),
 o 20 d26 (.q (.ld1 s25)),
 o 21 d27 (.q (.mv s1)),
 o 22 d28 (.q (.iadr s26 s27 34)),
 o 23 d29 (.q (.ldn s28 34)),
 o 24 d30 (.q (.iadr s9 s10 34)),
 o 25 none (.e (.st s30 s22 34)),
 o 26 d31 (.q (.iadr s14 s15 34)),
 o 27 none (.e (.st s31 s29 34))])
 (.rgd 0 [o 0 d32 (.q (.mv s0)),
 o 1 d33 (.q (.nck s32)),
 o 2 d34 (.q (.fadr s33 1)),
 o 3 d35 (.q (.ld1 s34)),
 o 4 d36 (.q (.mv s0)),
 o 5 d37 (.q (.nck s36)),
 o 6 d38 (.q (.fadr s37 0)),
 o 7 d39 (.q (.ld1 s38)),
 o 8 d40 (.q (.mv s1)),
 o 9 d41 (.q (.iadr s39 s40 34)),
 o 10 d42 (.q (.fadr s41 0)),
 o 11 d43 (.q (.ldn s42 32)),
 o 12 d44 (.q (.mv s0)),
 o 13 d45 (.q (.nck s44)),
 o 14 d46 (.q (.fadr s45 1)),
 o 15 d47 (.q (.ld1 s46)),
 o 16 d48 (.q (.mv s0)),
 o 17 d49 (.q (.nck s48)),
 o 18 d50 (.q (.fadr s49 0)),
 o 19 d51 (.q (.ld1 s50)),
 o 20 d52 (.q (.mv s2)),
 o 21 d53 (.q (.iadr s51 s52 34)),
 o 22 d54 (.q (.fadr s53 0)),
 o 23 d55 (.q (.ldn s54 32)),
 o 24 d56 (.q (.mv s1)),
 o 25 d57 (.q (.mv s2)),
 o 26 d58 (.e (.men s35 s43 (.cells (kk .u8 32)) (.int .i64 (.ofNat 0)))),
 o 27 d59 (.q (.ext s58 1)),
 o 28 none (.e (.mes s35 s59 s56)),
 o 29 d60 (.e (.men s47 s55 (.cells (kk .u8 32)) (.int .i64 (.ofNat 0)))),
 o 30 d61 (.q (.ext s60 1)),
 o 31 none (.e (.mes s47 s61 s57))]))
 []

noncomputable def f11 : FnE := .code 282
 (.seq (.reg [o 0 d2 (.e (.alo (zz (.int .u8 (.ofNat 0)) 32)))])
 (.seq (.reg [o 0 d23 (.e (.bsl (zz (.int .u32 (.ofNat 0)) 8) [(0, 1, (.v (.int .u32 (.ofNat 1779033703)))), (1, 1, (.v (.int .u32 (.ofNat 3144134277)))), (2, 1, (.v (.int .u32 (.ofNat 1013904242)))), (3, 1, (.v (.int .u32 (.ofNat 2773480762)))), (4, 1, (.v (.int .u32 (.ofNat 1359893119)))), (5, 1, (.v (.int .u32 (.ofNat 2600822924)))), (6, 1, (.v (.int .u32 (.ofNat 528734635)))), (7, 1, (.v (.int .u32 (.ofNat 1541459225))))] 8 1)),
 o 1 d3 (.q (.mv s23))])
 (.seq (.reg [o 0 d24 (.q (.mv s0)),
 o 1 d25 (.call p30 [s24]),
 o 2 d26 (.e (.bsl [(.int .u8 (.ofNat 0))] [(0, 1, (.v (.int .u8 (.ofNat 128))))] 1 1)),
 o 3 d27 (.e (.app s25 s26 1 1 false)),
 o 4 d4 (.q (.mv s27))])
 (.seq (.blk 0 (.loop (.seq (.seq (.reg [o 0 d28 (.q (.mv s4)),
 o 1 d29 (.q (.lenv s28)),
 o 2 d30 (.q (.bin .rem s29 (.v (.int .i64 (.ofNat 64))))),
 o 3 d31 (.q (.bin .neq s30 (.v (.int .i64 (.ofNat 56)))))])
 (.cnd s31 .skip (.exit 0)))
 (.blk 1 (.reg [o 0 d32 (.q (.mv s4)),
 o 1 d33 (.e (.bsl [(.int .u8 (.ofNat 0))] [(0, 1, (.v (.int .u8 (.ofNat 0))))] 1 1)),
 o 2 d34 (.e (.app s32 s33 1 1 false)),
 o 3 d4 (.q (.mv s34))])))))
 (.seq (.reg [o 0 d35 (.q (.mv s0)),
 o 1 d36 (.q (.lenv s35)),
 o 2 d37 (.q (.cvi .u64 s36)),
 o 3 d38 (.q (.bin .mul (.v (.int .u64 (.ofNat 8))) s37)),
 o 4 d5 (.q (.mv s38))])
 (.seq (.seq (.reg [o 0 d6 (.q (.mv (.v (.int .i64 (.ofNat 7)))))])
 (.blk 2 (.loop (.seq (.seq (.reg [o 0 d39 (.q (.mv s6)),
 o 1 d40 (.q (.bin .geq s39 (.v (.int .i64 (.ofNat 0)))))])
 (.cnd s40 .skip (.exit 2)))
 (.seq (.blk 3 (.reg [o 0 d43 (.q (.mv s4)),
 o 1 d44 (.q (.mv s5)),
 o 2 d45 (.q (.mv s6)),
 o 3 d46 (.q (.bin .mul (.v (.int .i64 (.ofNat 8))) s45)),
 o 4 d47 (.q (.cvi .u64 s46)),
 o 5 d48 (.q (.shf false s44 s47)),
 o 6 d49 (.q (.cvi .u8 s48)),
 o 7 d50 (.e (.bsl [(.int .u8 (.ofNat 0))] [(0, 1, s49)] 1 1)),
 o 8 d51 (.e (.app s43 s50 1 1 false)),
 o 9 d4 (.q (.mv s51))]))
 (.reg [o 0 d41 (.q (.mv s6)),
 o 1 d42 (.q (.bin .sub s41 (.v (.int .i64 (.ofNat 1))))),
 o 2 d6 (.q (.mv s42))]))))))
 (.seq (.reg [o 0 d52 (.call p31 []),
 o 1 d7 (.q (.mv s52))])
 (.seq (.seq (.reg [o 0 d8 (.q (.mv (.v (.int .i64 (.ofNat 0)))))])
 (.blk 4 (.loop (.seq (.seq (.reg [o 0 d53 (.q (.mv s8)),
 o 1 d54 (.q (.mv s4)),
 o 2 d55 (.q (.lenv s54)),
 o 3 d56 (.q (.bin .lss s53 s55))])
 (.cnd s56 .skip (.exit 4)))
 (.seq (.blk 5 (.seq (.reg [o 0 d59 (.e (.mks (.v (.int .i64 (.ofNat 64))) (.v (.int .i64 (.ofNat 64))) [(.int .u32 (.ofNat 0))] 1 4)),
 o 1 d9 (.q (.mv s59))])
 (.seq (.seq (.reg [o 0 d10 (.q (.mv (.v (.int .i64 (.ofNat 0)))))])
 (.blk 6 (.loop (.seq (.seq (.reg [o 0 d60 (.q (.mv s10)),
 o 1 d61 (.q (.bin .lss s60 (.v (.int .i64 (.ofNat 64)))))])
 (.cnd s61 .skip (.exit 6)))
 (.seq (.blk 7 (.seq (.seq (.reg [o 0 d64 (.q (.mv s10)),
 o 1 d65 (.q (.bin .lss s64 (.v (.int .i64 (.ofNat 16)))))])
 (.cnd s65 (.seq (.reg [o 0 d66 (.q (.mv s8)),
 o 1 d67 (.q (.mv s10)),
 o 2 d68 (.q (.bin .mul (.v (.int .i64 (.ofNat 4))) s67)),
 o 3 d69 (.q (.bin .add s66 s68)),
 o 4 d11 (.q (.mv s69))])
 (.seq (.rgd 0 [o 0 d70 (.q (.mv s9)),
 o 1 d71 (.q (.mv s10)),
 o 2 d72 (.q (.mv s4)),
 o 3 d73 (.q (.mv s11)),
 o 4 d74 (.q (.iadr s72 s73 1)),
 o 5 d75 (.q (.ld1 s74)),
 o 6 d76 (.q (.cvi .u32 s75)),
 o 7 d77 (.q (.shf true s76 (.v (.int .u64 (.ofNat 24))))),
 o 8 d78 (.q (.mv s4)),
 o 9 d79 (.q (.mv s11)),
 o 10 d80 (.q (.bin .add s79 (.v (.int .i64 (.ofNat 1))))),
 o 11 d81 (.q (.iadr s78 s80 1)),
 o 12 d82 (.q (.ld1 s81)),
 o 13 d83 (.q (.cvi .u32 s82)),
 o 14 d84 (.q (.shf true s83 (.v (.int .u64 (.ofNat 16))))),
 o 15 d85 (.q (.bin .or s77 s84)),
 o 16 d86 (.q (.mv s4)),
 o 17 d87 (.q (.mv s11)),
 o 18 d88 (.q (.bin .add s87 (.v (.int .i64 (.ofNat 2))))),
 o 19 d89 (.q (.iadr s86 s88 1)),
 o 20 d90 (.q (.ld1 s89)),
 o 21 d91 (.q (.cvi .u32 s90)),
 o 22 d92 (.q (.shf true s91 (.v (.int .u64 (.ofNat 8))))),
 o 23 d93 (.q (.bin .or s85 s92)),
 o 24 d94 (.q (.mv s4)),
 o 25 d95 (.q (.mv s11)),
 o 26 d96 (.q (.bin .add s95 (.v (.int .i64 (.ofNat 3))))),
 o 27 d97 (.q (.iadr s94 s96 1)),
 o 28 d98 (.q (.ld1 s97)),
 o 29 d99 (.q (.cvi .u32 s98)),
 o 30 d100 (.q (.bin .or s93 s99)),
 o 31 d101 (.q (.iadr s70 s71 1)),
 o 32 none (.e (.st s101 s100 1))])
 (.exit 7))) .skip))
 (.seq (.reg [o 0 d102 (.q (.mv s9)),
 o 1 d103 (.q (.mv s10)),
 o 2 d104 (.q (.bin .sub s103 (.v (.int .i64 (.ofNat 15))))),
 o 3 d105 (.q (.iadr s102 s104 1)),
 o 4 d106 (.q (.ld1 s105)),
 o 5 d12 (.q (.mv s106))])
 (.seq (.reg [o 0 d107 (.q (.mv s9)),
 o 1 d108 (.q (.mv s10)),
 o 2 d109 (.q (.bin .sub s108 (.v (.int .i64 (.ofNat 2))))),
 o 3 d110 (.q (.iadr s107 s109 1)),
 o 4 d111 (.q (.ld1 s110)),
 o 5 d13 (.q (.mv s111))])
 (.rgd 0 [o 0 d112 (.q (.mv s9)),
 o 1 d113 (.q (.mv s10)),
 o 2 d114 (.q (.mv s9)),
 o 3 d115 (.q (.mv s10)),
 o 4 d116 (.q (.bin .sub s115 (.v (.int .i64 (.ofNat 16))))),
 o 5 d117 (.q (.iadr s114 s116 1)),
 o 6 d118 (.q (.ld1 s117)),
 o 7 d119 (.q (.mv s12)),
 o 9 d121 (.q (.mv s12)),
 o 12 d124 (.q (.mv s12)),
 o 13 d125 (.q (.shf false s124 (.v (.int .u64 (.ofNat 3))))),
 o 16 d128 (.q (.mv s9)),
 o 17 d129 (.q (.mv s10)),
 o 18 d130 (.q (.bin .sub s129 (.v (.int .i64 (.ofNat 7))))),
 o 19 d131 (.q (.iadr s128 s130 1)),
 o 20 d132 (.q (.ld1 s131)),
 o 22 d134 (.q (.mv s13)),
 o 24 d136 (.q (.mv s13)),
 o 27 d139 (.q (.mv s13)),
 o 28 d140 (.q (.shf false s139 (.v (.int .u64 (.ofNat 10))))),
 ⟨8, d120, (.call p32 [s119, (.v (.int .u64 (.ofNat 7)))]), none, [(p118, .ld1 s117, none), (p132, .ld1 s131, none)]⟩,
 ⟨10, d122, (.call p32 [s121, (.v (.int .u64 (.ofNat 18)))]), none, [(p118, .ld1 s117, none), (p132, .ld1 s131, none)]⟩,
 o 11 d123 (.q (.bin .xor s120 s122)),
 o 14 d126 (.q (.bin .xor s123 s125)),
 o 15 d127 (.q (.bin .add s118 s126)),
 o 21 d133 (.q (.bin .add s127 s132)),
 ⟨23, d135, (.call p32 [s134, (.v (.int .u64 (.ofNat 17)))]), none, [(p118, .ld1 s117, none), (p132, .ld1 s131, none)]⟩,
 ⟨25, d137, (.call p32 [s136, (.v (.int .u64 (.ofNat 19)))]), none, [(p118, .ld1 s117, none), (p132, .ld1 s131, none)]⟩,
 o 26 d138 (.q (.bin .xor s135 s137)),
 o 29 d141 (.q (.bin .xor s138 s140)),
 o 30 d142 (.q (.bin .add s133 s141)),
 o 31 d143 (.q (.iadr s112 s113 1)),
 o 32 none (.e (.st s143 s142 1))])))))
 (.reg [o 0 d62 (.q (.mv s10)),
 o 1 d63 (.q (.bin .add s62 (.v (.int .i64 (.ofNat 1))))),
 o 2 d10 (.q (.mv s63))]))))))
 (.seq (.reg [o 0 d144 (.e (.bsl [] [] 0 1)),
 o 1 d145 (.q (.mv s3)),
 o 2 d146 (.e (.app s144 s145 1 4 false)),
 o 3 d14 (.q (.mv s146))])
 (.seq (.seq (.reg [o 0 d15 (.q (.mv (.v (.int .i64 (.ofNat 0)))))])
 (.blk 8 (.loop (.seq (.seq (.reg [o 0 d147 (.q (.mv s15)),
 o 1 d148 (.q (.bin .lss s147 (.v (.int .i64 (.ofNat 64)))))])
 (.cnd s148 .skip (.exit 8)))
 (.seq (.blk 9 (.seq (.reg [o 0 d151 (.q (.mv s14)),
 o 1 d152 (.q (.iadr s151 (.v (.int .i64 (.ofNat 4))) 1)),
 o 2 d153 (.q (.ld1 s152)),
 o 3 d16 (.q (.mv s153))])
 (.seq (.reg [o 0 d154 (.q (.mv s14)),
 o 1 d155 (.q (.iadr s154 (.v (.int .i64 (.ofNat 0))) 1)),
 o 2 d156 (.q (.ld1 s155)),
 o 3 d17 (.q (.mv s156))])
 (.seq (.rgd 0 [o 0 d157 (.q (.mv s14)),
 o 1 d158 (.q (.iadr s157 (.v (.int .i64 (.ofNat 7))) 1)),
 o 2 d159 (.q (.ld1 s158)),
 o 3 d160 (.q (.mv s16)),
 o 5 d162 (.q (.mv s16)),
 o 8 d165 (.q (.mv s16)),
 o 12 d169 (.q (.mv s16)),
 o 13 d170 (.q (.mv s14)),
 o 14 d171 (.q (.iadr s170 (.v (.int .i64 (.ofNat 5))) 1)),
 o 15 d172 (.q (.ld1 s171)),
 o 16 d173 (.q (.bin .and s169 s172)),
 o 17 d174 (.q (.mv s16)),
 o 18 d175 (.q (.inv s174)),
 o 19 d176 (.q (.mv s14)),
 o 20 d177 (.q (.iadr s176 (.v (.int .i64 (.ofNat 6))) 1)),
 o 21 d178 (.q (.ld1 s177)),
 o 22 d179 (.q (.bin .and s175 s178)),
 o 23 d180 (.q (.bin .xor s173 s179)),
 o 25 d182 (.q (.mv s7)),
 o 26 d183 (.q (.mv s15)),
 o 27 d184 (.q (.iadr s182 s183 1)),
 o 28 d185 (.q (.ld1 s184)),
 o 30 d187 (.q (.mv s9)),
 o 31 d188 (.q (.mv s15)),
 o 32 d189 (.q (.iadr s187 s188 1)),
 o 33 d190 (.q (.ld1 s189)),
 ⟨4, d161, (.call p32 [s160, (.v (.int .u64 (.ofNat 6)))]), none, [(p159, .ld1 s158, none), (p172, .ld1 s171, none), (p178, .ld1 s177, none), (p185, .ld1 s184, none), (p190, .ld1 s189, none)]⟩,
 ⟨6, d163, (.call p32 [s162, (.v (.int .u64 (.ofNat 11)))]), none, [(p159, .ld1 s158, none), (p172, .ld1 s171, none), (p178, .ld1 s177, none), (p185, .ld1 s184, none), (p190, .ld1 s189, none)]⟩,
 o 7 d164 (.q (.bin .xor s161 s163)),
 ⟨9, d166, (.call p32 [s165, (.v (.int .u64 (.ofNat 25)))]), none, [(p159, .ld1 s158, none), (p172, .ld1 s171, none), (p178, .ld1 s177, none), (p185, .ld1 s184, none), (p190, .ld1 s189, none)]⟩,
 o 10 d167 (.q (.bin .xor s164 s166)),
 o 11 d168 (.q (.bin .add s159 s167)),
 o 24 d181 (.q (.bin .add s168 s180)),
 o 29 d186 (.q (.bin .add s181 s185)),
 o 34 d191 (.q (.bin .add s186 s190)),
 o 35 d18 (.q (.mv s191))])
 (.seq (.rgd 0 [o 0 d192 (.q (.mv s17)),
 o 2 d194 (.q (.mv s17)),
 o 5 d197 (.q (.mv s17)),
 o 8 d200 (.q (.mv s17)),
 o 9 d201 (.q (.mv s14)),
 o 10 d202 (.q (.iadr s201 (.v (.int .i64 (.ofNat 1))) 1)),
 o 11 d203 (.q (.ld1 s202)),
 o 12 d204 (.q (.bin .and s200 s203)),
 o 13 d205 (.q (.mv s17)),
 o 14 d206 (.q (.mv s14)),
 o 15 d207 (.q (.iadr s206 (.v (.int .i64 (.ofNat 2))) 1)),
 o 16 d208 (.q (.ld1 s207)),
 o 17 d209 (.q (.bin .and s205 s208)),
 o 18 d210 (.q (.bin .xor s204 s209)),
 o 19 d211 (.q (.mv s14)),
 o 20 d212 (.q (.iadr s211 (.v (.int .i64 (.ofNat 1))) 1)),
 o 21 d213 (.q (.ld1 s212)),
 o 22 d214 (.q (.mv s14)),
 o 23 d215 (.q (.iadr s214 (.v (.int .i64 (.ofNat 2))) 1)),
 o 24 d216 (.q (.ld1 s215)),
 o 25 d217 (.q (.bin .and s213 s216)),
 o 26 d218 (.q (.bin .xor s210 s217)),
 ⟨1, d193, (.call p32 [s192, (.v (.int .u64 (.ofNat 2)))]), none, [(p203, .ld1 s202, none), (p208, .ld1 s207, none), (p213, .ld1 s212, none), (p216, .ld1 s215, none)]⟩,
 ⟨3, d195, (.call p32 [s194, (.v (.int .u64 (.ofNat 13)))]), none, [(p203, .ld1 s202, none), (p208, .ld1 s207, none), (p213, .ld1 s212, none), (p216, .ld1 s215, none)]⟩,
 o 4 d196 (.q (.bin .xor s193 s195)),
 ⟨6, d198, (.call p32 [s197, (.v (.int .u64 (.ofNat 22)))]), none, [(p203, .ld1 s202, none), (p208, .ld1 s207, none), (p213, .ld1 s212, none), (p216, .ld1 s215, none)]⟩,
 o 7 d199 (.q (.bin .xor s196 s198)),
 o 27 d219 (.q (.bin .add s199 s218)),
 o 28 d19 (.q (.mv s219))])
 (.rgd 0 [o 0 d220 (.q (.mv s18)),
 o 1 d221 (.q (.mv s19)),
 o 2 d222 (.q (.bin .add s220 s221)),
 o 3 d223 (.q (.mv s14)),
 o 4 d224 (.q (.iadr s223 (.v (.int .i64 (.ofNat 0))) 1)),
 o 5 d225 (.q (.ld1 s224)),
 o 6 d226 (.q (.mv s14)),
 o 7 d227 (.q (.iadr s226 (.v (.int .i64 (.ofNat 1))) 1)),
 o 8 d228 (.q (.ld1 s227)),
 o 9 d229 (.q (.mv s14)),
 o 10 d230 (.q (.iadr s229 (.v (.int .i64 (.ofNat 2))) 1)),
 o 11 d231 (.q (.ld1 s230)),
 o 12 d232 (.q (.mv s14)),
 o 13 d233 (.q (.iadr s232 (.v (.int .i64 (.ofNat 3))) 1)),
 o 14 d234 (.q (.ld1 s233)),
 o 15 d235 (.q (.mv s18)),
 o 16 d236 (.q (.bin .add s234 s235)),
 o 17 d237 (.q (.mv s14)),
 o 18 d238 (.q (.iadr s237 (.v (.int .i64 (.ofNat 4))) 1)),
 o 19 d239 (.q (.ld1 s238)),
 o 20 d240 (.q (.mv s14)),
 o 21 d241 (.q (.iadr s240 (.v (.int .i64 (.ofNat 5))) 1)),
 o 22 d242 (.q (.ld1 s241)),
 o 23 d243 (.q (.mv s14)),
 o 24 d244 (.q (.iadr s243 (.v (.int .i64 (.ofNat 6))) 1)),
 o 25 d245 (.q (.ld1 s244)),
 o 26 d246 (.e (.bsl (zz (.int .u32 (.ofNat 0)) 8) [(0, 1, s222), (1, 1, s225), (2, 1, s228), (3, 1, s231), (4, 1, s236), (5, 1, s239), (6, 1, s242), (7, 1, s245)] 8 1)),
 o 27 d14 (.q (.mv s246))]))))))
 (.reg [o 0 d149 (.q (.mv s15)),
 o 1 d150 (.q (.bin .add s149 (.v (.int .i64 (.ofNat 1))))),
 o 2 d15 (.q (.mv s150))]))))))
 (.seq (.reg [o 0 d20 (.q (.mv (.v (.int .i64 (.ofNat 0)))))])
 (.blk 10 (.loop (.seq (.seq (.reg [o 0 d247 (.q (.mv s20)),
 o 1 d248 (.q (.bin .lss s247 (.v (.int .i64 (.ofNat 8)))))])
 (.cnd s248 .skip (.exit 10)))
 (.seq (.blk 11 (.rgd 0 [o 0 d251 (.q (.mv s3)),
 o 1 d252 (.q (.mv s20)),
 o 2 d253 (.q (.mv s3)),
 o 3 d254 (.q (.mv s20)),
 o 4 d255 (.q (.iadr s253 s254 1)),
 o 5 d256 (.q (.ld1 s255)),
 o 6 d257 (.q (.mv s14)),
 o 7 d258 (.q (.mv s20)),
 o 8 d259 (.q (.iadr s257 s258 1)),
 o 9 d260 (.q (.ld1 s259)),
 o 10 d261 (.q (.bin .add s256 s260)),
 o 11 d262 (.q (.iadr s251 s252 1)),
 o 12 none (.e (.st s262 s261 1))]))
 (.reg [o 0 d249 (.q (.mv s20)),
 o 1 d250 (.q (.bin .add s249 (.v (.int .i64 (.ofNat 1))))),
 o 2 d20 (.q (.mv s250))])))))))))))
 (.reg [o 0 d57 (.q (.mv s8)),
 o 1 d58 (.q (.bin .add s57 (.v (.int .i64 (.ofNat 64))))),
 o 2 d8 (.q (.mv s58))]))))))
 (.seq (.reg [o 0 d21 (.e (.alo (zz (.int .u8 (.ofNat 0)) 32)))])
 (.seq (.seq (.reg [o 0 d22 (.q (.mv (.v (.int .i64 (.ofNat 0)))))])
 (.blk 12 (.loop (.seq (.seq (.reg [o 0 d263 (.q (.mv s22)),
 o 1 d264 (.q (.bin .lss s263 (.v (.int .i64 (.ofNat 32)))))])
 (.cnd s264 .skip (.exit 12)))
 (.seq (.blk 13 (.reg [o 0 d267 (.q (.mv s22)),
 o 1 d268 (.q (.mv s3)),
 o 2 d269 (.q (.mv s22)),
 o 3 d270 (.q (.bin .quo s269 (.v (.int .i64 (.ofNat 4))))),
 o 4 d271 (.q (.iadr s268 s270 1)),
 o 5 d272 (.q (.ld1 s271)),
 o 6 d273 (.q (.mv s22)),
 o 7 d274 (.q (.bin .rem s273 (.v (.int .i64 (.ofNat 4))))),
 o 8 d275 (.q (.bin .mul (.v (.int .i64 (.ofNat 8))) s274)),
 o 9 d276 (.q (.bin .sub (.v (.int .i64 (.ofNat 24))) s275)),
 o 10 d277 (.q (.cvi .u64 s276)),
 o 11 d278 (.q (.shf false s272 s277)),
 o 12 d279 (.q (.cvi .u8 s278)),
 o 13 d280 (.q (.iada s21 s267 1 32)),
 o 14 none (.e (.st s280 s279 1))]))
 (.reg [o 0 d265 (.q (.mv s22)),
 o 1 d266 (.q (.bin .add s265 (.v (.int .i64 (.ofNat 1))))),
 o 2 d22 (.q (.mv s266))]))))))
 (.seq (.reg [o 0 d281 (.q (.ldn s21 32)),
 o 1 none (.e (.st s2 s281 32))])
 .ret)))))))))))
 [.cn p2 32]

noncomputable def f30 : FnE := .code 22
 (.seq (.reg [o 0 d2 (.q (.mv (.v .nils)))])
 (.seq (.reg [o 0 d5 (.q (.mv s0)),
 o 1 d6 (.q (.lenv s5)),
 o 2 d7 (.e (.mks (.v (.int .i64 (.ofNat 0))) s6 [(.int .u8 (.ofNat 0))] 1 1)),
 o 3 d3 (.q (.mv s7))])
 (.seq (.seq (.reg [o 0 d4 (.q (.mv (.v (.int .i64 (.ofNat 0)))))])
 (.blk 0 (.loop (.seq (.seq (.reg [o 0 d8 (.q (.mv s4)),
 o 1 d9 (.q (.mv s0)),
 o 2 d10 (.q (.lenv s9)),
 o 3 d11 (.q (.bin .lss s8 s10))])
 (.cnd s11 .skip (.exit 0)))
 (.seq (.blk 1 (.reg [o 0 d14 (.q (.mv s3)),
 o 1 d15 (.q (.mv s0)),
 o 2 d16 (.q (.mv s4)),
 o 3 d17 (.q (.iadr s15 s16 1)),
 o 4 d18 (.q (.ld1 s17)),
 o 5 d19 (.e (.bsl [(.int .u8 (.ofNat 0))] [(0, 1, s18)] 1 1)),
 o 6 d20 (.e (.app s14 s19 1 1 false)),
 o 7 d3 (.q (.mv s20))]))
 (.reg [o 0 d12 (.q (.mv s4)),
 o 1 d13 (.q (.bin .add s12 (.v (.int .i64 (.ofNat 1))))),
 o 2 d4 (.q (.mv s13))]))))))
 (.seq (.reg [o 0 d21 (.q (.mv s3)),
 o 1 d2 (.q (.mv s21))])
 .ret))))
 [.t p2]

noncomputable def f31 : FnE := .code 2
 (.seq (.reg [o 0 d0 (.q (.mv (.v .nils)))])
 (.seq (.reg [o 0 d1 (.e (.bsl (zz (.int .u32 (.ofNat 0)) 64) [(0, 1, (.v (.int .u32 (.ofNat 1116352408)))), (1, 1, (.v (.int .u32 (.ofNat 1899447441)))), (2, 1, (.v (.int .u32 (.ofNat 3049323471)))), (3, 1, (.v (.int .u32 (.ofNat 3921009573)))), (4, 1, (.v (.int .u32 (.ofNat 961987163)))), (5, 1, (.v (.int .u32 (.ofNat 1508970993)))), (6, 1, (.v (.int .u32 (.ofNat 2453635748)))), (7, 1, (.v (.int .u32 (.ofNat 2870763221)))), (8, 1, (.v (.int .u32 (.ofNat 3624381080)))), (9, 1, (.v (.int .u32 (.ofNat 310598401)))), (10, 1, (.v (.int .u32 (.ofNat 607225278)))), (11, 1, (.v (.int .u32 (.ofNat 1426881987)))), (12, 1, (.v (.int .u32 (.ofNat 1925078388)))), (13, 1, (.v (.int .u32 (.ofNat 2162078206)))), (14, 1, (.v (.int .u32 (.ofNat 2614888103)))), (15, 1, (.v (.int .u32 (.ofNat 3248222580)))), (16, 1, (.v (.int .u32 (.ofNat 3835390401)))), (17, 1, (.v (.int .u32 (.ofNat 4022224774)))), (18, 1, (.v (.int .u32 (.ofNat 264347078)))), (19, 1, (.v (.int .u32 (.ofNat 604807628)))), (20, 1, (.v (.int .u32 (.ofNat 770255983)))), (21, 1, (.v (.int .u32 (.ofNat 1249150122)))), (22, 1, (.v (.int .u32 (.ofNat 1555081692)))), (23, 1, (.v (.int .u32 (.ofNat 1996064986)))), (24, 1, (.v (.int .u32 (.ofNat 2554220882)))), (25, 1, (.v (.int .u32 (.ofNat 2821834349)))), (26, 1, (.v (.int .u32 (.ofNat 2952996808)))), (27, 1, (.v (.int .u32 (.ofNat 3210313671)))), (28, 1, (.v (.int .u32 (.ofNat 3336571891)))), (29, 1, (.v (.int .u32 (.ofNat 3584528711)))), (30, 1, (.v (.int .u32 (.ofNat 113926993)))), (31, 1, (.v (.int .u32 (.ofNat 338241895)))), (32, 1, (.v (.int .u32 (.ofNat 666307205)))), (33, 1, (.v (.int .u32 (.ofNat 773529912)))), (34, 1, (.v (.int .u32 (.ofNat 1294757372)))), (35, 1, (.v (.int .u32 (.ofNat 1396182291)))), (36, 1, (.v (.int .u32 (.ofNat 1695183700)))), (37, 1, (.v (.int .u32 (.ofNat 1986661051)))), (38, 1, (.v (.int .u32 (.ofNat 2177026350)))), (39, 1, (.v (.int .u32 (.ofNat 2456956037)))), (40, 1, (.v (.int .u32 (.ofNat 2730485921)))), (41, 1, (.v (.int .u32 (.ofNat 2820302411)))), (42, 1, (.v (.int .u32 (.ofNat 3259730800)))), (43, 1, (.v (.int .u32 (.ofNat 3345764771)))), (44, 1, (.v (.int .u32 (.ofNat 3516065817)))), (45, 1, (.v (.int .u32 (.ofNat 3600352804)))), (46, 1, (.v (.int .u32 (.ofNat 4094571909)))), (47, 1, (.v (.int .u32 (.ofNat 275423344)))), (48, 1, (.v (.int .u32 (.ofNat 430227734)))), (49, 1, (.v (.int .u32 (.ofNat 506948616)))), (50, 1, (.v (.int .u32 (.ofNat 659060556)))), (51, 1, (.v (.int .u32 (.ofNat 883997877)))), (52, 1, (.v (.int .u32 (.ofNat 958139571)))), (53, 1, (.v (.int .u32 (.ofNat 1322822218)))), (54, 1, (.v (.int .u32 (.ofNat 1537002063)))), (55, 1, (.v (.int .u32 (.ofNat 1747873779)))), (56, 1, (.v (.int .u32 (.ofNat 1955562222)))), (57, 1, (.v (.int .u32 (.ofNat 2024104815)))), (58, 1, (.v (.int .u32 (.ofNat 2227730452)))), (59, 1, (.v (.int .u32 (.ofNat 2361852424)))), (60, 1, (.v (.int .u32 (.ofNat 2428436474)))), (61, 1, (.v (.int .u32 (.ofNat 2756734187)))), (62, 1, (.v (.int .u32 (.ofNat 3204031479)))), (63, 1, (.v (.int .u32 (.ofNat 3329325298))))] 64 1)),
 o 1 d0 (.q (.mv s1))])
 .ret))
 [.t p0]

noncomputable def f32 : FnE := .code 13
 (.seq (.reg [o 0 d4 (.q (.mv (.v (.int .u32 (.ofNat 0)))))])
 (.seq (.reg [o 0 d5 (.q (.mv s0)),
 o 1 d6 (.q (.mv s1)),
 o 2 d7 (.q (.shf false s5 s6)),
 o 3 d8 (.q (.mv s0)),
 o 4 d9 (.q (.mv s1)),
 o 5 d10 (.q (.bin .sub (.v (.int .u64 (.ofNat 32))) s9)),
 o 6 d11 (.q (.shf true s8 s10)),
 o 7 d12 (.q (.bin .or s7 s11)),
 o 8 d4 (.q (.mv s12))])
 .ret))
 [.t p4]

noncomputable def f134 : FnE := .code 7
 (.seq (.reg [o 0 d2 (.e (.alo (zz (.int .u8 (.ofNat 0)) 32)))])
 (.seq (.reg [o 0 d3 (.e (.alo [(.int .u32 (.ofNat 0)), (.int .u32 (.ofNat 0)), (.int .u32 (.ofNat 0)), (.int .u32 (.ofNat 0)), (.int .u32 (.ofNat 0)), (.int .u32 (.ofNat 0)), (.int .u32 (.ofNat 0)), (.int .u32 (.ofNat 0)), .nils, (.int .i64 (.ofNat 0))]))])
 (.seq (.reg [o 0 d4 (.q (.mv s0)),
 o 1 d5 (.call p169 [s3, s4])])
 (.seq (.reg [o 0 d6 (.call p170 [s3]),
 o 1 none (.e (.st s2 s6 32))])
 .ret))))
 [.cn p2 32]

noncomputable def f169 : FnE := .code 60
 (.seq (.reg [o 0 d6 (.q (.mv s0)),
 o 1 d7 (.call p192 [s6]),
 o 2 d4 (.e (.alo (zz (.int .u32 (.ofNat 0)) 8))),
 o 3 none (.e (.st s4 s7 8))])
 (.seq (.reg [o 0 d8 (.q (.mv s0)),
 o 1 d9 (.q (.nck s8)),
 o 2 d10 (.q (.fadr s9 9)),
 o 3 d11 (.q (.ld1 s10)),
 o 4 d12 (.q (.mv s1)),
 o 5 d13 (.q (.lenv s12)),
 o 6 d14 (.q (.bin .add s11 s13)),
 o 7 d15 (.q (.nck s8)),
 o 8 d16 (.q (.fadr s15 9)),
 o 9 none (.e (.st s16 s14 1))])
 (.seq (.reg [o 0 d17 (.q (.mv s0)),
 o 1 d18 (.q (.mv s0)),
 o 2 d19 (.q (.nck s18)),
 o 3 d20 (.q (.fadr s19 8)),
 o 4 d21 (.q (.ld1 s20)),
 o 5 d22 (.q (.mv s1)),
 o 6 d23 (.e (.app s21 s22 1 1 false)),
 o 7 d24 (.q (.nck s17)),
 o 8 d25 (.q (.fadr s24 8)),
 o 9 none (.e (.st s25 s23 1))])
 (.seq (.reg [o 0 d5 (.q (.mv (.v (.int .i64 (.ofNat 0)))))])
 (.seq (.blk 0 (.loop (.seq (.seq (.reg [o 0 d26 (.q (.mv s5)),
 o 1 d27 (.q (.bin .add s26 (.v (.int .i64 (.ofNat 64))))),
 o 2 d28 (.q (.mv s0)),
 o 3 d29 (.q (.nck s28)),
 o 4 d30 (.q (.fadr s29 8)),
 o 5 d31 (.q (.ld1 s30)),
 o 6 d32 (.q (.lenv s31)),
 o 7 d33 (.q (.bin .leq s27 s32))])
 (.cnd s33 .skip (.exit 0)))
 (.seq (.blk 1 (.rgd 0 [o 0 d36 (.q (.ldn s4 8)),
 o 1 d37 (.q (.mv s0)),
 o 2 d38 (.q (.nck s37)),
 o 3 d39 (.q (.fadr s38 8)),
 o 4 d40 (.q (.ld1 s39)),
 o 5 d41 (.q (.mv s5)),
 o 6 d42 (.q (.mv s5)),
 o 7 d43 (.q (.bin .add s42 (.v (.int .i64 (.ofNat 64))))),
 o 8 d44 (.q (.slc s40 (some s41) (some s43) 1)),
 o 9 d45 (.call p193 [s36, s44]),
 o 10 none (.e (.st s4 s45 8))]))
 (.reg [o 0 d34 (.q (.mv s5)),
 o 1 d35 (.q (.bin .add s34 (.v (.int .i64 (.ofNat 64))))),
 o 2 d5 (.q (.mv s35))])))))
 (.rgd 0 [o 0 d46 (.q (.mv s0)),
 o 1 d47 (.q (.mv s0)),
 o 2 d48 (.q (.ldn s4 8)),
 o 3 d49 (.q (.mv s0)),
 o 4 d50 (.q (.nck s49)),
 o 5 d51 (.q (.fadr s50 8)),
 o 6 d52 (.q (.ld1 s51)),
 o 7 d53 (.q (.mv s5)),
 o 8 d54 (.q (.slc s52 (some s53) none 1)),
 ⟨9, d55, (.call p85 [s54]), none, [(p48, .ldn s4 8, none)]⟩,
 o 10 d56 (.q (.nck s46)),
 o 11 d57 (.q (.fadr s56 0)),
 o 12 none (.e (.st s57 s48 8)),
 o 13 d58 (.q (.nck s47)),
 o 14 d59 (.q (.fadr s58 8)),
 o 15 none (.e (.st s59 s55 1))]))))))
 []

noncomputable def f170 : FnE := .code 79
 (.seq (.reg [o 0 d2 (.e (.alo (zz (.int .u8 (.ofNat 0)) 32)))])
 (.seq (.reg [o 0 d11 (.q (.mv s0)),
 o 1 d12 (.q (.nck s11)),
 o 2 d13 (.q (.fadr s12 8)),
 o 3 d14 (.q (.ld1 s13)),
 o 4 d15 (.call p85 [s14]),
 o 5 d16 (.e (.bsl [(.int .u8 (.ofNat 0))] [(0, 1, (.v (.int .u8 (.ofNat 128))))] 1 1)),
 o 6 d17 (.e (.app s15 s16 1 1 false)),
 o 7 d3 (.q (.mv s17))])
 (.seq (.blk 0 (.loop (.seq (.seq (.reg [o 0 d18 (.q (.mv s3)),
 o 1 d19 (.q (.lenv s18)),
 o 2 d20 (.q (.bin .rem s19 (.v (.int .i64 (.ofNat 64))))),
 o 3 d21 (.q (.bin .neq s20 (.v (.int .i64 (.ofNat 56)))))])
 (.cnd s21 .skip (.exit 0)))
 (.blk 1 (.reg [o 0 d22 (.q (.mv s3)),
 o 1 d23 (.e (.bsl [(.int .u8 (.ofNat 0))] [(0, 1, (.v (.int .u8 (.ofNat 0))))] 1 1)),
 o 2 d24 (.e (.app s22 s23 1 1 false)),
 o 3 d3 (.q (.mv s24))])))))
 (.seq (.seq (.reg [o 0 d4 (.q (.mv (.v (.int .i64 (.ofNat 7)))))])
 (.blk 2 (.loop (.seq (.seq (.reg [o 0 d25 (.q (.mv s4)),
 o 1 d26 (.q (.bin .geq s25 (.v (.int .i64 (.ofNat 0)))))])
 (.cnd s26 .skip (.exit 2)))
 (.seq (.blk 3 (.reg [o 0 d29 (.q (.mv s3)),
 o 1 d30 (.q (.mv s0)),
 o 2 d31 (.q (.nck s30)),
 o 3 d32 (.q (.fadr s31 9)),
 o 4 d33 (.q (.ld1 s32)),
 o 5 d34 (.q (.cvi .u64 s33)),
 o 6 d35 (.q (.shf true s34 (.v (.int .u64 (.ofNat 3))))),
 o 7 d36 (.q (.mv s4)),
 o 8 d37 (.q (.bin .mul (.v (.int .i64 (.ofNat 8))) s36)),
 o 9 d38 (.q (.shf false s35 s37)),
 o 10 d39 (.q (.cvi .u8 s38)),
 o 11 d40 (.e (.bsl [(.int .u8 (.ofNat 0))] [(0, 1, s39)] 1 1)),
 o 12 d41 (.e (.app s29 s40 1 1 false)),
 o 13 d3 (.q (.mv s41))]))
 (.reg [o 0 d27 (.q (.mv s4)),
 o 1 d28 (.q (.bin .sub s27 (.v (.int .i64 (.ofNat 1))))),
 o 2 d4 (.q (.mv s28))]))))))
 (.seq (.reg [o 0 d42 (.q (.mv s0)),
 o 1 d43 (.call p192 [s42]),
 o 2 d5 (.e (.alo (zz (.int .u32 (.ofNat 0)) 8))),
 o 3 none (.e (.st s5 s43 8))])
 (.seq (.seq (.reg [o 0 d6 (.q (.mv (.v (.int .i64 (.ofNat 0)))))])
 (.blk 4 (.loop (.seq (.seq (.reg [o 0 d44 (.q (.mv s6)),
 o 1 d45 (.q (.mv s3)),
 o 2 d46 (.q (.lenv s45)),
 o 3 d47 (.q (.bin .lss s44 s46))])
 (.cnd s47 .skip (.exit 4)))
 (.seq (.blk 5 (.rgd 0 [o 0 d50 (.q (.ldn s5 8)),
 o 1 d51 (.q (.mv s3)),
 o 2 d52 (.q (.mv s6)),
 o 3 d53 (.q (.mv s6)),
 o 4 d54 (.q (.bin .add s53 (.v (.int .i64 (.ofNat 64))))),
 o 5 d55 (.q (.slc s51 (some s52) (some s54) 1)),
 o 6 d56 (.call p193 [s50, s55]),
 o 7 none (.e (.st s5 s56 8))]))
 (.reg [o 0 d48 (.q (.mv s6)),
 o 1 d49 (.q (.bin .add s48 (.v (.int .i64 (.ofNat 64))))),
 o 2 d6 (.q (.mv s49))]))))))
 (.seq (.reg [o 0 d7 (.e (.alo (zz (.int .u8 (.ofNat 0)) 32)))])
 (.seq (.seq (.reg [o 0 d57 (.q (.ldn s5 8)),
 o 1 d58 (.q (.mv (.v (.int .i64 (.ofNat 0)))))])
 (.blk 6 (.loop (.seq (.reg [o 0 d59 (.q (.bin .lss s58 (.v (.int .i64 (.ofNat 8)))))])
 (.seq (.cnd s59 .skip (.exit 6))
 (.seq (.blk 7 (.seq (.reg [o 0 d60 (.q (.mv s58)),
 o 1 d61 (.q (.idxa s57 s58 1 8 false)),
 o 2 d8 (.q (.mv s60)),
 o 3 d9 (.q (.mv s61))])
 (.seq (.reg [o 0 d62 (.q (.mv (.v (.int .i64 (.ofNat 0)))))])
 (.blk 8 (.loop (.seq (.reg [o 0 d63 (.q (.bin .lss s62 (.v (.int .i64 (.ofNat 4)))))])
 (.seq (.cnd s63 .skip (.exit 8))
 (.seq (.blk 9 (.seq (.reg [o 0 d64 (.q (.mv s62)),
 o 1 d10 (.q (.mv s64))])
 (.reg [o 0 d65 (.q (.mv s8)),
 o 1 d66 (.q (.bin .mul (.v (.int .i64 (.ofNat 4))) s65)),
 o 2 d67 (.q (.mv s10)),
 o 3 d68 (.q (.bin .add s66 s67)),
 o 4 d69 (.q (.mv s9)),
 o 5 d70 (.q (.mv s10)),
 o 6 d71 (.q (.bin .mul (.v (.int .i64 (.ofNat 8))) s70)),
 o 7 d72 (.q (.bin .sub (.v (.int .i64 (.ofNat 24))) s71)),
 o 8 d73 (.q (.shf false s69 s72)),
 o 9 d74 (.q (.cvi .u8 s73)),
 o 10 d75 (.q (.iada s7 s68 1 32)),
 o 11 none (.e (.st s75 s74 1))])))
 (.reg [o 0 d76 (.q (.bin .add s62 (.v (.int .i64 (.ofNat 1))))),
 o 1 d62 (.q (.mv s76))])))))))))
 (.reg [o 0 d77 (.q (.bin .add s58 (.v (.int .i64 (.ofNat 1))))),
 o 1 d58 (.q (.mv s77))])))))))
 (.seq (.reg [o 0 d78 (.q (.ldn s7 32)),
 o 1 none (.e (.st s2 s78 32))])
 .ret)))))))))
 [.cn p2 32]

noncomputable def f192 : FnE := .code 13
 (.seq (.reg [o 0 d2 (.e (.alo (zz (.int .u32 (.ofNat 0)) 8)))])
 (.seq (.seq (.reg [o 0 d3 (.q (.mv s0)),
 o 1 d4 (.q (.nck s3)),
 o 2 d5 (.q (.fadr s4 9)),
 o 3 d6 (.q (.ld1 s5)),
 o 4 d7 (.q (.bin .lss s6 (.v (.int .i64 (.ofNat 64)))))])
 (.cnd s7 (.seq (.reg [o 0 d8 (.call p208 []),
 o 1 none (.e (.st s2 s8 8))])
 .ret) .skip))
 (.seq (.reg [o 0 d9 (.q (.mv s0)),
 o 1 d10 (.q (.nck s9)),
 o 2 d11 (.q (.fadr s10 0)),
 o 3 d12 (.q (.ldn s11 8)),
 o 4 none (.e (.st s2 s12 8))])
 .ret)))
 [.cn p2 8]

noncomputable def f193 : FnE := .code 111
 (.seq (.reg [o 0 d2 (.e (.box s0 8)),
 o 1 d4 (.e (.alo (zz (.int .u32 (.ofNat 0)) 8)))])
 (.seq (.reg [o 0 d14 (.q (.mv s1)),
 o 1 d15 (.call p209 [s14]),
 o 2 d16 (.call p210 []),
 o 3 d5 (.e (.alo (zz (.int .u32 (.ofNat 0)) 64))),
 o 4 d6 (.e (.alo (zz (.int .u32 (.ofNat 0)) 64))),
 o 5 none (.e (.st s5 s15 64)),
 o 6 none (.e (.st s6 s16 64))])
 (.seq (.reg [o 0 d17 (.q (.ldn s2 8)),
 o 1 d7 (.e (.alo (zz (.int .u32 (.ofNat 0)) 8))),
 o 2 none (.e (.st s7 s17 8))])
 (.seq (.seq (.reg [o 0 d18 (.q (.mv (.v (.int .i64 (.ofNat 0)))))])
 (.blk 0 (.loop (.seq (.reg [o 0 d19 (.q (.bin .lss s18 (.v (.int .i64 (.ofNat 64)))))])
 (.seq (.cnd s19 .skip (.exit 0))
 (.seq (.blk 1 (.seq (.reg [o 0 d20 (.q (.mv s18)),
 o 1 d8 (.q (.mv s20))])
 (.seq (.rgd 0 [o 0 d21 (.q (.iada s7 (.v (.int .i64 (.ofNat 0))) 1 8)),
 o 1 d22 (.q (.ld1 s21)),
 o 2 d23 (.q (.iada s7 (.v (.int .i64 (.ofNat 4))) 1 8)),
 o 3 d24 (.q (.ld1 s23)),
 o 4 d9 (.q (.mv s22)),
 o 5 d10 (.q (.mv s24))])
 (.seq (.rgd 0 [o 0 d25 (.q (.iada s7 (.v (.int .i64 (.ofNat 7))) 1 8)),
 o 1 d26 (.q (.ld1 s25)),
 o 2 d27 (.q (.mv s10)),
 o 4 d29 (.q (.mv s10)),
 o 7 d32 (.q (.mv s10)),
 o 11 d36 (.q (.mv s10)),
 o 12 d37 (.q (.iada s7 (.v (.int .i64 (.ofNat 5))) 1 8)),
 o 13 d38 (.q (.ld1 s37)),
 o 14 d39 (.q (.bin .and s36 s38)),
 o 15 d40 (.q (.mv s10)),
 o 16 d41 (.q (.inv s40)),
 o 17 d42 (.q (.iada s7 (.v (.int .i64 (.ofNat 6))) 1 8)),
 o 18 d43 (.q (.ld1 s42)),
 o 19 d44 (.q (.bin .and s41 s43)),
 o 20 d45 (.q (.bin .xor s39 s44)),
 o 22 d47 (.q (.mv s8)),
 o 23 d48 (.q (.iada s6 s47 1 64)),
 o 24 d49 (.q (.ld1 s48)),
 o 26 d51 (.q (.mv s8)),
 o 27 d52 (.q (.iada s5 s51 1 64)),
 o 28 d53 (.q (.ld1 s52)),
 ⟨3, d28, (.call p211 [s27, (.v (.int .i64 (.ofNat 6)))]), none, [(p26, .ld1 s25, none), (p38, .ld1 s37, none), (p43, .ld1 s42, none), (p49, .ld1 s48, none), (p53, .ld1 s52, none)]⟩,
 ⟨5, d30, (.call p211 [s29, (.v (.int .i64 (.ofNat 11)))]), none, [(p26, .ld1 s25, none), (p38, .ld1 s37, none), (p43, .ld1 s42, none), (p49, .ld1 s48, none), (p53, .ld1 s52, none)]⟩,
 o 6 d31 (.q (.bin .xor s28 s30)),
 ⟨8, d33, (.call p211 [s32, (.v (.int .i64 (.ofNat 25)))]), none, [(p26, .ld1 s25, none), (p38, .ld1 s37, none), (p43, .ld1 s42, none), (p49, .ld1 s48, none), (p53, .ld1 s52, none)]⟩,
 o 9 d34 (.q (.bin .xor s31 s33)),
 o 10 d35 (.q (.bin .add s26 s34)),
 o 21 d46 (.q (.bin .add s35 s45)),
 o 25 d50 (.q (.bin .add s46 s49)),
 o 29 d54 (.q (.bin .add s50 s53)),
 o 30 d11 (.q (.mv s54))])
 (.seq (.rgd 0 [o 0 d55 (.q (.mv s9)),
 o 2 d57 (.q (.mv s9)),
 o 5 d60 (.q (.mv s9)),
 o 8 d63 (.q (.mv s9)),
 o 9 d64 (.q (.iada s7 (.v (.int .i64 (.ofNat 1))) 1 8)),
 o 10 d65 (.q (.ld1 s64)),
 o 11 d66 (.q (.bin .and s63 s65)),
 o 12 d67 (.q (.mv s9)),
 o 13 d68 (.q (.iada s7 (.v (.int .i64 (.ofNat 2))) 1 8)),
 o 14 d69 (.q (.ld1 s68)),
 o 15 d70 (.q (.bin .and s67 s69)),
 o 16 d71 (.q (.bin .xor s66 s70)),
 o 17 d72 (.q (.iada s7 (.v (.int .i64 (.ofNat 1))) 1 8)),
 o 18 d73 (.q (.ld1 s72)),
 o 19 d74 (.q (.iada s7 (.v (.int .i64 (.ofNat 2))) 1 8)),
 o 20 d75 (.q (.ld1 s74)),
 o 21 d76 (.q (.bin .and s73 s75)),
 o 22 d77 (.q (.bin .xor s71 s76)),
 ⟨1, d56, (.call p211 [s55, (.v (.int .i64 (.ofNat 2)))]), none, [(p65, .ld1 s64, none), (p69, .ld1 s68, none), (p73, .ld1 s72, none), (p75, .ld1 s74, none)]⟩,
 ⟨3, d58, (.call p211 [s57, (.v (.int .i64 (.ofNat 13)))]), none, [(p65, .ld1 s64, none), (p69, .ld1 s68, none), (p73, .ld1 s72, none), (p75, .ld1 s74, none)]⟩,
 o 4 d59 (.q (.bin .xor s56 s58)),
 ⟨6, d61, (.call p211 [s60, (.v (.int .i64 (.ofNat 22)))]), none, [(p65, .ld1 s64, none), (p69, .ld1 s68, none), (p73, .ld1 s72, none), (p75, .ld1 s74, none)]⟩,
 o 7 d62 (.q (.bin .xor s59 s61)),
 o 23 d78 (.q (.bin .add s62 s77)),
 o 24 d12 (.q (.mv s78))])
 (.reg [o 0 d79 (.q (.mv s11)),
 o 1 d80 (.q (.mv s12)),
 o 2 d81 (.q (.bin .add s79 s80)),
 o 3 d82 (.q (.mv s9)),
 o 4 d83 (.q (.iada s7 (.v (.int .i64 (.ofNat 1))) 1 8)),
 o 5 d84 (.q (.ld1 s83)),
 o 6 d85 (.q (.iada s7 (.v (.int .i64 (.ofNat 2))) 1 8)),
 o 7 d86 (.q (.ld1 s85)),
 o 8 d87 (.q (.iada s7 (.v (.int .i64 (.ofNat 3))) 1 8)),
 o 9 d88 (.q (.ld1 s87)),
 o 10 d89 (.q (.mv s11)),
 o 11 d90 (.q (.bin .add s88 s89)),
 o 12 d91 (.q (.mv s10)),
 o 13 d92 (.q (.iada s7 (.v (.int .i64 (.ofNat 5))) 1 8)),
 o 14 d93 (.q (.ld1 s92)),
 o 15 d94 (.q (.iada s7 (.v (.int .i64 (.ofNat 6))) 1 8)),
 o 16 d95 (.q (.ld1 s94)),
 o 17 d96 (.q (.bld (zz (.int .u32 (.ofNat 0)) 8) [(0, 1, s81), (1, 1, s82), (2, 1, s84), (3, 1, s86), (4, 1, s90), (5, 1, s91), (6, 1, s93), (7, 1, s95)])),
 o 18 none (.e (.st s7 s96 8))]))))))
 (.reg [o 0 d97 (.q (.bin .add s18 (.v (.int .i64 (.ofNat 1))))),
 o 1 d18 (.q (.mv s97))])))))))
 (.seq (.seq (.reg [o 0 d98 (.q (.mv (.v (.int .i64 (.ofNat 0)))))])
 (.blk 2 (.loop (.seq (.reg [o 0 d99 (.q (.bin .lss s98 (.v (.int .i64 (.ofNat 8)))))])
 (.seq (.cnd s99 .skip (.exit 2))
 (.seq (.blk 3 (.seq (.reg [o 0 d100 (.q (.mv s98)),
 o 1 d13 (.q (.mv s100))])
 (.rgd 0 [o 0 d101 (.q (.mv s13)),
 o 1 d102 (.q (.iada s2 s101 1 8)),
 o 2 d103 (.q (.ld1 s102)),
 o 3 d104 (.q (.mv s13)),
 o 4 d105 (.q (.iada s7 s104 1 8)),
 o 5 d106 (.q (.ld1 s105)),
 o 6 d107 (.q (.bin .add s103 s106)),
 o 7 d108 (.q (.iada s2 s101 1 8)),
 o 8 none (.e (.st s108 s107 1))])))
 (.reg [o 0 d109 (.q (.bin .add s98 (.v (.int .i64 (.ofNat 1))))),
 o 1 d98 (.q (.mv s109))])))))))
 (.seq (.reg [o 0 d110 (.q (.ldn s2 8)),
 o 1 none (.e (.st s4 s110 8))])
 .ret))))))
 [.cn p4 8]

noncomputable def f208 : FnE := .code 2
 (.seq (.reg [o 0 d0 (.e (.alo (zz (.int .u32 (.ofNat 0)) 8)))])
 (.seq (.reg [o 0 d1 (.q (.bld (zz (.int .u32 (.ofNat 0)) 8) [(0, 1, (.v (.int .u32 (.ofNat 1779033703)))), (1, 1, (.v (.int .u32 (.ofNat 3144134277)))), (2, 1, (.v (.int .u32 (.ofNat 1013904242)))), (3, 1, (.v (.int .u32 (.ofNat 2773480762)))), (4, 1, (.v (.int .u32 (.ofNat 1359893119)))), (5, 1, (.v (.int .u32 (.ofNat 2600822924)))), (6, 1, (.v (.int .u32 (.ofNat 528734635)))), (7, 1, (.v (.int .u32 (.ofNat 1541459225))))])),
 o 1 none (.e (.st s0 s1 8))])
 .ret))
 [.cn p0 8]

noncomputable def f209 : FnE := .code 80
 (.seq (.reg [o 0 d2 (.e (.alo (zz (.int .u32 (.ofNat 0)) 64)))])
 (.seq (.reg [o 0 d3 (.e (.alo (zz (.int .u32 (.ofNat 0)) 64)))])
 (.seq (.seq (.reg [o 0 d8 (.q (.mv (.v (.int .i64 (.ofNat 0)))))])
 (.blk 0 (.loop (.seq (.reg [o 0 d9 (.q (.bin .lss s8 (.v (.int .i64 (.ofNat 64)))))])
 (.seq (.cnd s9 .skip (.exit 0))
 (.seq (.blk 1 (.seq (.reg [o 0 d10 (.q (.mv s8)),
 o 1 d4 (.q (.mv s10))])
 (.seq (.seq (.reg [o 0 d11 (.q (.mv s4)),
 o 1 d12 (.q (.bin .lss s11 (.v (.int .i64 (.ofNat 16)))))])
 (.cnd s12 (.seq (.reg [o 0 d13 (.q (.mv s0)),
 o 1 d14 (.q (.mv s4)),
 o 2 d15 (.q (.bin .mul (.v (.int .i64 (.ofNat 4))) s14)),
 o 3 d16 (.q (.slc s13 (some s15) none 1)),
 o 4 d5 (.q (.mv s16))])
 (.seq (.rgd 0 [o 0 d17 (.q (.mv s4)),
 o 1 d18 (.q (.mv s5)),
 o 2 d19 (.q (.iadr s18 (.v (.int .i64 (.ofNat 0))) 1)),
 o 3 d20 (.q (.ld1 s19)),
 o 4 d21 (.q (.cvi .u32 s20)),
 o 5 d22 (.q (.shf true s21 (.v (.int .u64 (.ofNat 24))))),
 o 6 d23 (.q (.mv s5)),
 o 7 d24 (.q (.iadr s23 (.v (.int .i64 (.ofNat 1))) 1)),
 o 8 d25 (.q (.ld1 s24)),
 o 9 d26 (.q (.cvi .u32 s25)),
 o 10 d27 (.q (.shf true s26 (.v (.int .u64 (.ofNat 16))))),
 o 11 d28 (.q (.bin .or s22 s27)),
 o 12 d29 (.q (.mv s5)),
 o 13 d30 (.q (.iadr s29 (.v (.int .i64 (.ofNat 2))) 1)),
 o 14 d31 (.q (.ld1 s30)),
 o 15 d32 (.q (.cvi .u32 s31)),
 o 16 d33 (.q (.shf true s32 (.v (.int .u64 (.ofNat 8))))),
 o 17 d34 (.q (.bin .or s28 s33)),
 o 18 d35 (.q (.mv s5)),
 o 19 d36 (.q (.iadr s35 (.v (.int .i64 (.ofNat 3))) 1)),
 o 20 d37 (.q (.ld1 s36)),
 o 21 d38 (.q (.cvi .u32 s37)),
 o 22 d39 (.q (.bin .or s34 s38)),
 o 23 d40 (.q (.iada s3 s17 1 64)),
 o 24 none (.e (.st s40 s39 1))])
 (.exit 1))) .skip))
 (.seq (.rgd 0 [o 0 d41 (.q (.mv s4)),
 o 1 d42 (.q (.bin .sub s41 (.v (.int .i64 (.ofNat 2))))),
 o 2 d43 (.q (.iada s3 s42 1 64)),
 o 3 d44 (.q (.ld1 s43)),
 o 4 d45 (.q (.mv s4)),
 o 5 d46 (.q (.bin .sub s45 (.v (.int .i64 (.ofNat 15))))),
 o 6 d47 (.q (.iada s3 s46 1 64)),
 o 7 d48 (.q (.ld1 s47)),
 o 8 d6 (.q (.mv s44)),
 o 9 d7 (.q (.mv s48))])
 (.rgd 0 [o 0 d49 (.q (.mv s4)),
 o 1 d50 (.q (.mv s6)),
 o 3 d52 (.q (.mv s6)),
 o 6 d55 (.q (.mv s6)),
 o 7 d56 (.q (.shf false s55 (.v (.int .u64 (.ofNat 10))))),
 o 9 d58 (.q (.mv s4)),
 o 10 d59 (.q (.bin .sub s58 (.v (.int .i64 (.ofNat 7))))),
 o 11 d60 (.q (.iada s3 s59 1 64)),
 o 12 d61 (.q (.ld1 s60)),
 o 14 d63 (.q (.mv s7)),
 o 16 d65 (.q (.mv s7)),
 o 19 d68 (.q (.mv s7)),
 o 20 d69 (.q (.shf false s68 (.v (.int .u64 (.ofNat 3))))),
 o 23 d72 (.q (.mv s4)),
 o 24 d73 (.q (.bin .sub s72 (.v (.int .i64 (.ofNat 16))))),
 o 25 d74 (.q (.iada s3 s73 1 64)),
 o 26 d75 (.q (.ld1 s74)),
 ⟨2, d51, (.call p211 [s50, (.v (.int .i64 (.ofNat 17)))]), none, [(p61, .ld1 s60, none), (p75, .ld1 s74, none)]⟩,
 ⟨4, d53, (.call p211 [s52, (.v (.int .i64 (.ofNat 19)))]), none, [(p61, .ld1 s60, none), (p75, .ld1 s74, none)]⟩,
 o 5 d54 (.q (.bin .xor s51 s53)),
 o 8 d57 (.q (.bin .xor s54 s56)),
 o 13 d62 (.q (.bin .add s57 s61)),
 ⟨15, d64, (.call p211 [s63, (.v (.int .i64 (.ofNat 7)))]), none, [(p61, .ld1 s60, none), (p75, .ld1 s74, none)]⟩,
 ⟨17, d66, (.call p211 [s65, (.v (.int .i64 (.ofNat 18)))]), none, [(p61, .ld1 s60, none), (p75, .ld1 s74, none)]⟩,
 o 18 d67 (.q (.bin .xor s64 s66)),
 o 21 d70 (.q (.bin .xor s67 s69)),
 o 22 d71 (.q (.bin .add s62 s70)),
 o 27 d76 (.q (.bin .add s71 s75)),
 o 28 d77 (.q (.iada s3 s49 1 64)),
 o 29 none (.e (.st s77 s76 1))])))))
 (.reg [o 0 d78 (.q (.bin .add s8 (.v (.int .i64 (.ofNat 1))))),
 o 1 d8 (.q (.mv s78))])))))))
 (.seq (.reg [o 0 d79 (.q (.ldn s3 64)),
 o 1 none (.e (.st s2 s79 64))])
 .ret))))
 [.cn p2 64]

noncomputable def f210 : FnE := .code 2
 (.seq (.reg [o 0 d0 (.e (.alo (zz (.int .u32 (.ofNat 0)) 64)))])
 (.seq (.reg [o 0 d1 (.q (.bld (zz (.int .u32 (.ofNat 0)) 64) [(0, 1, (.v (.int .u32 (.ofNat 1116352408)))), (1, 1, (.v (.int .u32 (.ofNat 1899447441)))), (2, 1, (.v (.int .u32 (.ofNat 3049323471)))), (3, 1, (.v (.int .u32 (.ofNat 3921009573)))), (4, 1, (.v (.int .u32 (.ofNat 961987163)))), (5, 1, (.v (.int .u32 (.ofNat 1508970993)))), (6, 1, (.v (.int .u32 (.ofNat 2453635748)))), (7, 1, (.v (.int .u32 (.ofNat 2870763221)))), (8, 1, (.v (.int .u32 (.ofNat 3624381080)))), (9, 1, (.v (.int .u32 (.ofNat 310598401)))), (10, 1, (.v (.int .u32 (.ofNat 607225278)))), (11, 1, (.v (.int .u32 (.ofNat 1426881987)))), (12, 1, (.v (.int .u32 (.ofNat 1925078388)))), (13, 1, (.v (.int .u32 (.ofNat 2162078206)))), (14, 1, (.v (.int .u32 (.ofNat 2614888103)))), (15, 1, (.v (.int .u32 (.ofNat 3248222580)))), (16, 1, (.v (.int .u32 (.ofNat 3835390401)))), (17, 1, (.v (.int .u32 (.ofNat 4022224774)))), (18, 1, (.v (.int .u32 (.ofNat 264347078)))), (19, 1, (.v (.int .u32 (.ofNat 604807628)))), (20, 1, (.v (.int .u32 (.ofNat 770255983)))), (21, 1, (.v (.int .u32 (.ofNat 1249150122)))), (22, 1, (.v (.int .u32 (.ofNat 1555081692)))), (23, 1, (.v (.int .u32 (.ofNat 1996064986)))), (24, 1, (.v (.int .u32 (.ofNat 2554220882)))), (25, 1, (.v (.int .u32 (.ofNat 2821834349)))), (26, 1, (.v (.int .u32 (.ofNat 2952996808)))), (27, 1, (.v (.int .u32 (.ofNat 3210313671)))), (28, 1, (.v (.int .u32 (.ofNat 3336571891)))), (29, 1, (.v (.int .u32 (.ofNat 3584528711)))), (30, 1, (.v (.int .u32 (.ofNat 113926993)))), (31, 1, (.v (.int .u32 (.ofNat 338241895)))), (32, 1, (.v (.int .u32 (.ofNat 666307205)))), (33, 1, (.v (.int .u32 (.ofNat 773529912)))), (34, 1, (.v (.int .u32 (.ofNat 1294757372)))), (35, 1, (.v (.int .u32 (.ofNat 1396182291)))), (36, 1, (.v (.int .u32 (.ofNat 1695183700)))), (37, 1, (.v (.int .u32 (.ofNat 1986661051)))), (38, 1, (.v (.int .u32 (.ofNat 2177026350)))), (39, 1, (.v (.int .u32 (.ofNat 2456956037)))), (40, 1, (.v (.int .u32 (.ofNat 2730485921)))), (41, 1, (.v (.int .u32 (.ofNat 2820302411)))), (42, 1, (.v (.int .u32 (.ofNat 3259730800)))), (43, 1, (.v (.int .u32 (.ofNat 3345764771)))), (44, 1, (.v (.int .u32 (.ofNat 3516065817)))), (45, 1, (.v (.int .u32 (.ofNat 3600352804)))), (46, 1, (.v (.int .u32 (.ofNat 4094571909)))), (47, 1, (.v (.int .u32 (.ofNat 275423344)))), (48, 1, (.v (.int .u32 (.ofNat 430227734)))), (49, 1, (.v (.int .u32 (.ofNat 506948616)))), (50, 1, (.v (.int .u32 (.ofNat 659060556)))), (51, 1, (.v (.int .u32 (.ofNat 883997877)))), (52, 1, (.v (.int .u32 (.ofNat 958139571)))), (53, 1, (.v (.int .u32 (.ofNat 1322822218)))), (54, 1, (.v (.int .u32 (.ofNat 1537002063)))), (55, 1, (.v (.int .u32 (.ofNat 1747873779)))), (56, 1, (.v (.int .u32 (.ofNat 1955562222)))), (57, 1, (.v (.int .u32 (.ofNat 2024104815)))), (58, 1, (.v (.int .u32 (.ofNat 2227730452)))), (59, 1, (.v (.int .u32 (.ofNat 2361852424)))), (60, 1, (.v (.int .u32 (.ofNat 2428436474)))), (61, 1, (.v (.int .u32 (.ofNat 2756734187)))), (62, 1, (.v (.int .u32 (.ofNat 3204031479)))), (63, 1, (.v (.int .u32 (.ofNat 3329325298))))])),
 o 1 none (.e (.st s0 s1 64))])
 .ret))
 [.cn p0 64]

noncomputable def f211 : FnE := .code 9
 (.seq (.reg [o 0 d4 (.q (.mv (.v (.int .u32 (.ofNat 0)))))])
 (.seq (.reg [o 0 d5 (.q (.mv s0)),
 o 1 d6 (.q (.mv s1)),
 o 2 d7 (.q (.neg s6)),
 o 3 d8 (.call p218 [s5, s7]),
 o 4 d4 (.q (.mv s8))])
 .ret))
 [.t p4]

noncomputable def f218 : FnE := .code 17
 (.seq (.reg [o 0 d4 (.q (.mv (.v (.int .u32 (.ofNat 0)))))])
 (.seq (.reg [o 0 d6 (.q (.mv s1)),
 o 1 d7 (.q (.cvi .u64 s6)),
 o 2 d8 (.q (.bin .and s7 (.v (.int .u64 (.ofNat 31))))),
 o 3 d5 (.q (.mv s8))])
 (.seq (.reg [o 0 d9 (.q (.mv s0)),
 o 1 d10 (.q (.mv s5)),
 o 2 d11 (.q (.shf true s9 s10)),
 o 3 d12 (.q (.mv s0)),
 o 4 d13 (.q (.mv s5)),
 o 5 d14 (.q (.bin .sub (.v (.int .u64 (.ofNat 32))) s13)),
 o 6 d15 (.q (.shf false s12 s14)),
 o 7 d16 (.q (.bin .or s11 s15)),
 o 8 d4 (.q (.mv s16))])
 .ret)))
 [.t p4]

noncomputable def tabA : T FnE := (.node (.node (.node (.node (.node (.node .nil (some f31) (.node .nil (some f95) .nil)) (some f15) (.node (.node .nil (some f79) .nil) (some f47) (.node (.node .nil (some f175) .nil) none .nil))) none (.node (.node (.node (.node .nil (some f135) .nil) none .nil) none .nil) none (.node (.node (.node .nil (some f151) .nil) (some f87) .nil) (some f55) (.node (.node .nil (some f183) .nil) none .nil)))) none (.node (.node (.node .nil none (.node .nil (some f99) .nil)) (some f19) (.node (.node (.node .nil (some f147) .nil) (some f83) (.node .nil (some f211) .nil)) (some f51) (.node .nil none (.node .nil (some f243) .nil)))) (some f11) (.node (.node (.node (.node .nil (some f139) .nil) none (.node .nil (some f203) .nil)) (some f43) (.node (.node .nil (some f171) .nil) none .nil)) none (.node (.node .nil (some f91) .nil) none .nil)))) none (.node (.node (.node (.node (.node (.node .nil (some f129) .nil) none (.node .nil (some f193) .nil)) none (.node .nil (some f97) .nil)) none (.node (.node .nil (some f81) (.node .nil (some f209) .nil)) (some f49) (.node .nil none (.node .nil (some f241) .nil)))) (some f9) (.node (.node .nil none (.node (.node .nil (some f169) .nil) none .nil)) none (.node (.node .nil (some f89) .nil) (some f57) .nil))) (some f5) (.node (.node (.node (.node (.node .nil (some f133) .nil) none .nil) none .nil) (some f21) (.node (.node (.node .nil (some f149) .nil) (some f85) .nil) (some f53) (.node (.node .nil (some f181) .nil) none .nil))) none (.node (.node (.node .nil (some f77) .nil) (some f45) .nil) none .nil)))) none (.node (.node (.node (.node (.node (.node (.node .nil (some f128) .nil) (some f64) (.node .nil (some f192) .nil)) (some f32) (.node .nil (some f96) .nil)) (some f16) (.node (.node (.node .nil (some f144) .nil) (some f80) (.node .nil (some f208) .nil)) (some f48) .nil)) none (.node (.node (.node (.node .nil (some f136) .nil) none .nil) none .nil) none (.node (.node .nil (some f88) .nil) (some f56) .nil))) none (.node (.node (.node (.node (.node .nil (some f132) .nil) none .nil) none .nil) (some f20) (.node (.node (.node .nil (some f148) .nil) (some f84) .nil) none (.node (.node .nil (some f180) .nil) none (.node .nil (some f244) .nil)))) none (.node (.node (.node (.node .nil (some f140) .nil) none .nil) (some f44) .nil) none (.node (.node (.node .nil (some f156) .nil) (some f92) .nil) none .nil)))) none (.node (.node (.node (.node (.node (.node .nil (some f130) .nil) none (.node .nil (some f194) .nil)) none (.node .nil (some f98) .nil)) (some f18) (.node (.node (.node .nil (some f146) .nil) (some f82) (.node .nil (some f210) .nil)) (some f50) (.node (.node .nil (some f178) .nil) (some f114) .nil))) none (.node (.node .nil (some f42) (.node (.node .nil (some f170) .nil) none .nil)) none (.node (.node .nil (some f90) (.node .nil (some f218) .nil)) none .nil))) none (.node (.node (.node (.node (.node .nil (some f134) .nil) none .nil) none .nil) (some f22) (.node (.node (.node .nil (some f150) .nil) (some f86) .nil) (some f54) (.node (.node .nil (some f182) .nil) none .nil))) none (.node (.node (.node .nil (some f78) .nil) (some f46) (.node (.node .nil (some f174) .nil) none .nil)) (some f30) (.node (.node .nil (some f94) .nil) none .nil))))))
end Go.Proofs.YtknhohgnilamcaaGreatDoor.Ir
