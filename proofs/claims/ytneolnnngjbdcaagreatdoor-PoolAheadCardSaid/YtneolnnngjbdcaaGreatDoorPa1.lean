/-
  The functions of the road, for the machine. (Written by a program.)
-/
import Derived.Test.YtneolnnngjbdcaaGreatDoorPa0
namespace Go.Proofs.YtneolnnngjbdcaaGreatDoor.Ir
set_option linter.unusedVariables false
set_option maxRecDepth 100000
open Go Go.Proofs.YtneolnnngjbdcaaGreatDoor
noncomputable def f3 : FnE := .code 144
 (.seq (.reg [o 0 d4 (.q (.mv (.v (.bool false))))])
 (.seq (.reg [o 0 d17 (.call p4 []),
 o 1 d5 (.q (.mv s17))])
 (.seq (.seq (.reg [o 0 d18 (.q (.mv s5)),
 o 1 d19 (.q (.not s18))])
 (.cnd s19 (.seq (.reg [o 0 d4 (.q (.mv (.v (.bool false))))])
 .ret) .skip))
 (.seq (.reg [o 0 d20 (.q (.mv s0)),
 o 1 d21 (.call p5 [s20, (.v (.int .i64 (.ofNat 6)))]),
 o 2 d22 (.q (.bin .add s21 (.v (.int .i64 (.ofNat 1))))),
 o 3 d0 (.q (.mv s22))])
 (.seq (.reg [o 0 d23 (.q (.mv s1)),
 o 1 d24 (.q (.mv s0)),
 o 2 d25 (.call p5 [s23, s24]),
 o 3 d1 (.q (.mv s25))])
 (.seq (.reg [o 0 d26 (.q (.mv s0)),
 o 1 d27 (.call p6 [s26, (.v (.int .u64 (.ofNat 1000)))]),
 o 2 d6 (.e (.alo (lapp [.nilp, (.int .i64 (.ofNat 0)), .nils, .nils] (lapp (zz (.int .u8 (.ofNat 0)) 32) [.nils])))),
 o 3 none (.e (.st s6 s27 37))])
 (.seq (.reg [o 0 d29 (.call p8 [(.v (.int .i64 (.ofNat 5)))]),
 o 1 d30 (.call p7 [s29]),
 o 2 d28 (.q (.mv s30)),
 o 3 d31 (.q (.ext s28 0)),
 o 4 d32 (.q (.ext s28 1)),
 o 5 d7 (.q (.mv s31)),
 o 6 d8 (.q (.mv s32))])
 (.seq (.reg [o 0 d34 (.call p9 [(.v (.int .i64 (.ofNat 100)))]),
 o 1 d33 (.q (.mv s34)),
 o 2 d35 (.q (.ext s33 0)),
 o 3 d36 (.q (.ext s33 1)),
 o 4 d9 (.q (.mv s35)),
 o 5 d10 (.q (.mv s36))])
 (.seq (.seq (.reg [o 0 d37 (.q (.mv s7)),
 o 1 d38 (.q (.eqp .ptr false s37 (.v .nilp))),
 o 2 d39 (.q (.mv s38)),
 ⟨3, d40, (.q (.mv s9)), (some (p39, false)), []⟩,
 ⟨4, d41, (.q (.eqp .ptr false s40 (.v .nilp))), (some (p39, false)), []⟩,
 o 5 d42 (.q (.pick s39 (.v (.bool true)) s41)),
 o 6 d43 (.q (.mv s42)),
 ⟨7, d44, (.q (.mv s8)), (some (p43, false)), []⟩,
 ⟨8, d45, (.q (.eqp (.iface true) true s44 (.v .nili))), (some (p43, false)), []⟩,
 o 9 d46 (.q (.pick s43 (.v (.bool true)) s45)),
 o 10 d47 (.q (.mv s46)),
 ⟨11, d48, (.q (.mv s10)), (some (p47, false)), []⟩,
 ⟨12, d49, (.q (.eqp (.iface true) true s48 (.v .nili))), (some (p47, false)), []⟩,
 o 13 d50 (.q (.pick s47 (.v (.bool true)) s49))])
 (.cnd s50 (.seq (.reg [o 0 d4 (.q (.mv (.v (.bool false))))])
 .ret) .skip))
 (.seq (.reg [o 0 d11 (.q (.mv (.v .nils)))])
 (.seq (.seq (.reg [o 0 d12 (.q (.mv (.v (.int .i64 (.ofNat 0)))))])
 (.blk 0 (.loop (.seq (.seq (.reg [o 0 d51 (.q (.mv s12)),
 o 1 d52 (.q (.mv s0)),
 o 2 d53 (.q (.bin .lss s51 s52))])
 (.cnd s53 .skip (.exit 0)))
 (.seq (.blk 1 (.seq (.seq (.rgd 0 [o 0 d56 (.q (.mv s7)),
 o 1 d57 (.q (.fadr s6 0)),
 o 2 d58 (.q (.ld1 s57)),
 o 3 d59 (.q (.ldn s6 37)),
 o 4 d60 (.q (.mv s12)),
 o 5 d61 (.q (.cvi .u32 s60)),
 o 6 d62 (.q (.fadr s6 36)),
 o 7 d63 (.q (.ld1 s62)),
 o 8 d64 (.q (.mv s12)),
 o 9 d65 (.q (.mv s12)),
 o 10 d66 (.q (.bin .add s65 (.v (.int .i64 (.ofNat 1))))),
 o 11 d67 (.q (.slc s63 (some s64) (some s66) 33)),
 o 13 d69 (.q (.fadr s6 1)),
 o 14 d70 (.q (.ldn s69 2)),
 o 15 d71 (.q (.mv s9)),
 ⟨12, d68, (.call p11 [s59, s61, s67, (.v (.int .i64 (.ofNat 1))), (.v (.int .u64 (.ofNat 900)))]), none, [(p58, .ld1 s57, none), (p70, .ldn s69 2, none)]⟩,
 o 16 d72 (.call p10 [s56, s58, s68, s70, s71]),
 o 17 d73 (.q (.eqp (.iface true) true s72 (.v .nili)))])
 (.cnd s73 (.seq (.reg [o 0 d4 (.q (.mv (.v (.bool false))))])
 .ret) .skip))
 (.seq (.reg [o 0 d74 (.q (.mv s12)),
 o 1 d75 (.q (.bin .add (.v (.int .i64 (.ofNat 100))) s74)),
 o 2 d76 (.q (.cvi .u32 s75)),
 o 3 d13 (.q (.mv s76))])
 (.seq (.seq (.reg [o 0 d77 (.q (.mv s12)),
 o 1 d78 (.q (.mv s1)),
 o 2 d79 (.q (.bin .eql s77 s78))])
 (.cnd s79 (.reg [o 0 d80 (.q (.mv s12)),
 o 1 d81 (.q (.cvi .u32 s80)),
 o 2 d13 (.q (.mv s81))]) .skip))
 (.rgd 0 [o 0 d82 (.q (.mv s11)),
 o 1 d83 (.q (.ldn s6 37)),
 o 2 d84 (.q (.mv s13)),
 o 3 d85 (.q (.fadr s6 36)),
 o 4 d86 (.q (.ld1 s85)),
 o 5 d87 (.q (.mv s12)),
 o 6 d88 (.q (.mv s12)),
 o 7 d89 (.q (.bin .add s88 (.v (.int .i64 (.ofNat 1))))),
 o 8 d90 (.q (.slc s86 (some s87) (some s89) 33)),
 o 9 d91 (.call p11 [s83, s84, s90, (.v (.int .i64 (.ofNat 1))), (.v (.int .u64 (.ofNat 900)))]),
 o 10 d92 (.e (.bsl [(.int .u32 (.ofNat 0)), .nils, .nils, (.int .u32 (.ofNat 0))] [(0, 4, s91)] 1 4)),
 o 11 d93 (.e (.app s82 s92 4 64 false)),
 o 12 d11 (.q (.mv s93))])))))
 (.reg [o 0 d54 (.q (.mv s12)),
 o 1 d55 (.q (.bin .add s54 (.v (.int .i64 (.ofNat 1))))),
 o 2 d12 (.q (.mv s55))]))))))
 (.seq (.reg [o 0 d94 (.q (.mv s7)),
 o 1 d95 (.q (.fadr s6 0)),
 o 2 d96 (.q (.ld1 s95)),
 o 3 d97 (.q (.mv s11)),
 o 4 d98 (.q (.fadr s6 1)),
 o 5 d99 (.q (.ldn s98 2)),
 o 6 d100 (.q (.mv s9)),
 o 7 d101 (.call p12 [s94, s96, s97, (.v .nils), s99, s100])])
 (.seq (.reg [o 0 d102 (.q (.mv s7)),
 o 1 d103 (.call p13 [s102]),
 o 2 d14 (.q (.mv s103))])
 (.seq (.seq (.reg [o 0 d104 (.q (.mv s14)),
 o 1 d105 (.q (.eqp .ptr false s104 (.v .nilp))),
 o 2 d106 (.q (.mv s105)),
 ⟨3, d107, (.q (.mv s14)), (some (p106, false)), []⟩,
 ⟨4, d108, (.call p15 [s107]), (some (p106, false)), []⟩,
 ⟨5, d109, (.q (.mv s11)), (some (p106, false)), []⟩,
 ⟨6, d110, (.call p14 [s108, s109]), (some (p106, false)), []⟩,
 ⟨7, d111, (.q (.not s110)), (some (p106, false)), []⟩,
 o 8 d112 (.q (.pick s106 (.v (.bool true)) s111))])
 (.cnd s112 (.seq (.reg [o 0 d4 (.q (.mv (.v (.bool false))))])
 .ret) .skip))
 (.seq (.reg [o 0 d113 (.q (.mv s9)),
 o 1 d114 (.call p16 [s113]),
 o 2 d15 (.q (.mv s114))])
 (.seq (.seq (.reg [o 0 d16 (.q (.mv (.v (.int .i64 (.ofNat 0)))))])
 (.blk 2 (.loop (.seq (.seq (.reg [o 0 d115 (.q (.mv s16)),
 o 1 d116 (.q (.mv s15)),
 o 2 d117 (.q (.lenv s116)),
 o 3 d118 (.q (.bin .lss s115 s117))])
 (.cnd s118 .skip (.exit 2)))
 (.seq (.blk 3 (.seq (.reg [o 0 d121 (.q (.mv s15)),
 o 1 d122 (.q (.mv s16)),
 o 2 d123 (.q (.iadr s121 s122 34)),
 o 3 d124 (.q (.fadr s123 33)),
 o 4 d125 (.q (.ld1 s124)),
 o 5 d126 (.q (.bin .neq s125 (.v (.int .i64 (.ofNat 9)))))])
 (.cnd s126 (.seq (.reg [o 0 d4 (.q (.mv (.v (.bool false))))])
 .ret) .skip)))
 (.reg [o 0 d119 (.q (.mv s16)),
 o 1 d120 (.q (.bin .add s119 (.v (.int .i64 (.ofNat 1))))),
 o 2 d16 (.q (.mv s120))]))))))
 (.seq (.reg [o 0 d127 (.q (.mv s5)),
 o 1 d128 (.q (.mv s127)),
 ⟨2, d129, (.q (.mv s15)), (some (p128, true)), []⟩,
 ⟨3, d130, (.q (.lenv s129)), (some (p128, true)), []⟩,
 ⟨4, d131, (.q (.mv s0)), (some (p128, true)), []⟩,
 ⟨5, d132, (.q (.bin .sub s131 (.v (.int .i64 (.ofNat 1))))), (some (p128, true)), []⟩,
 ⟨6, d133, (.q (.bin .eql s130 s132)), (some (p128, true)), []⟩,
 o 7 d134 (.q (.pick s128 s133 (.v (.bool false)))),
 o 8 d135 (.q (.mv s134)),
 ⟨9, d136, (.q (.mv s7)), (some (p135, true)), []⟩,
 ⟨10, d137, (.q (.mv s11)), (some (p135, true)), []⟩,
 ⟨11, d138, (.q (.mv s1)), (some (p135, true)), []⟩,
 ⟨12, d139, (.q (.iadr s137 s138 4)), (some (p135, true)), []⟩,
 ⟨13, d140, (.q (.ldn s139 4)), (some (p135, true)), []⟩,
 ⟨14, d141, (.call p18 [s140]), (some (p135, true)), []⟩,
 ⟨15, d142, (.call p17 [s136, s141]), (some (p135, true)), []⟩,
 o 16 d143 (.q (.pick s135 s142 (.v (.bool false)))),
 o 17 d4 (.q (.mv s143))])
 .ret)))))))))))))))))
 [.t p4]

noncomputable def f4 : FnE := .code 19
 (.seq (.reg [o 0 d0 (.q (.mv (.v (.bool false))))])
 (.seq (.reg [o 0 d4 (.call p8 [(.v (.int .i64 (.ofNat 0)))]),
 o 1 d5 (.call p7 [s4]),
 o 2 d3 (.q (.mv s5)),
 o 3 d6 (.q (.ext s3 0)),
 o 4 d7 (.q (.ext s3 1)),
 o 5 d1 (.q (.mv s6)),
 o 6 d2 (.q (.mv s7))])
 (.seq (.reg [o 0 d8 (.q (.mv s1)),
 o 1 d9 (.q (.eqp .ptr true s8 (.v .nilp))),
 o 2 d10 (.q (.mv s9)),
 ⟨3, d11, (.q (.mv s2)), (some (p10, true)), []⟩,
 ⟨4, d12, (.q (.eqp (.iface true) false s11 (.v .nili))), (some (p10, true)), []⟩,
 o 5 d13 (.q (.pick s10 s12 (.v (.bool false)))),
 o 6 d14 (.q (.mv s13)),
 ⟨7, d15, (.q (.mv s1)), (some (p14, true)), []⟩,
 ⟨8, d16, (.call p19 [s15]), (some (p14, true)), []⟩,
 ⟨9, d17, (.q (.bin .eql s16 (.v (.int .i64 (.ofNat 0))))), (some (p14, true)), []⟩,
 o 10 d18 (.q (.pick s14 s17 (.v (.bool false)))),
 o 11 d0 (.q (.mv s18))])
 .ret)))
 [.t p0]

noncomputable def f5 : FnE := .code 15
 (.seq (.reg [o 0 d4 (.q (.mv (.v (.int .i64 (.ofNat 0)))))])
 (.seq (.reg [o 0 d6 (.q (.mv s0)),
 o 1 d7 (.q (.mv s1)),
 o 2 d8 (.q (.bin .rem s6 s7)),
 o 3 d5 (.q (.mv s8))])
 (.seq (.seq (.reg [o 0 d9 (.q (.mv s5)),
 o 1 d10 (.q (.bin .lss s9 (.v (.int .i64 (.ofNat 0)))))])
 (.cnd s10 (.reg [o 0 d11 (.q (.mv s5)),
 o 1 d12 (.q (.mv s1)),
 o 2 d13 (.q (.bin .add s11 s12)),
 o 3 d5 (.q (.mv s13))]) .skip))
 (.seq (.reg [o 0 d14 (.q (.mv s5)),
 o 1 d4 (.q (.mv s14))])
 .ret))))
 [.t p4]

noncomputable def f6 : FnE := .code 42
 (.seq (.reg [o 0 d4 (.e (.alo (lapp [.nilp, (.int .i64 (.ofNat 0)), .nils, .nils] (lapp (zz (.int .u8 (.ofNat 0)) 32) [.nils]))))])
 (.seq (.reg [o 0 d8 (.q (.bld [.nilm] [])),
 o 1 d9 (.e (.box s8 1)),
 o 2 d10 (.e (.bsl [(.int .u32 (.ofNat 0)), (.int .u32 (.ofNat 0))] [(0, 1, (.v (.int .u32 (.ofNat 1)))), (1, 1, (.v (.int .u32 (.ofNat 2))))] 2 1)),
 o 3 d11 (.q (.bld [(.int .i64 (.ofNat 0)), .nils] [(0, 1, (.v (.int .i64 (.ofNat 2)))), (1, 1, s10)])),
 o 4 d12 (.e (.bsl [(.int .u8 (.ofNat 0))] [(0, 1, (.v (.int .u8 (.ofNat 4))))] 1 1)),
 o 5 d13 (.q (.bld (lapp [.nilp, (.int .i64 (.ofNat 0)), .nils, .nils] (lapp (zz (.int .u8 (.ofNat 0)) 32) [.nils])) [(0, 1, s9), (1, 2, s11), (3, 1, s12)])),
 o 6 d5 (.e (.alo (lapp [.nilp, (.int .i64 (.ofNat 0)), .nils, .nils] (lapp (zz (.int .u8 (.ofNat 0)) 32) [.nils])))),
 o 7 none (.e (.st s5 s13 37))])
 (.seq (.reg [o 0 d14 (.q (.fadr s5 3)),
 o 1 d15 (.q (.ld1 s14)),
 o 2 d16 (.call p20 [s15]),
 o 3 d17 (.q (.fadr s5 4)),
 o 4 none (.e (.st s17 s16 32))])
 (.seq (.seq (.reg [o 0 d6 (.q (.mv (.v (.int .i64 (.ofNat 0)))))])
 (.blk 0 (.loop (.seq (.seq (.reg [o 0 d18 (.q (.mv s6)),
 o 1 d19 (.q (.mv s0)),
 o 2 d20 (.q (.bin .lss s18 s19))])
 (.cnd s20 .skip (.exit 0)))
 (.seq (.blk 1 (.seq (.reg [o 0 d23 (.q (.bld (zz (.int .u8 (.ofNat 0)) 32) [(0, 1, (.v (.int .u8 (.ofNat 6))))])),
 o 1 d24 (.q (.mv s6)),
 o 2 d25 (.q (.cvi .u32 s24)),
 o 3 d26 (.q (.bld (lapp (zz (.int .u8 (.ofNat 0)) 32) [(.int .u32 (.ofNat 0))]) [(0, 32, s23), (32, 1, s25)])),
 o 4 d7 (.e (.alo (lapp (zz (.int .u8 (.ofNat 0)) 32) [(.int .u32 (.ofNat 0))]))),
 o 5 none (.e (.st s7 s26 33))])
 (.seq (.reg [o 0 d27 (.q (.fadr s5 0)),
 o 1 d28 (.q (.ld1 s27)),
 o 2 d29 (.q (.ldn s7 33)),
 o 3 d30 (.q (.mv s1)),
 o 4 d31 (.q (.fadr s5 4)),
 o 5 d32 (.q (.ldn s31 32)),
 o 6 d33 (.q (.bld (lapp [(.int .u64 (.ofNat 0))] (lapp (zz (.int .u8 (.ofNat 0)) 32) [(.int .i64 (.ofNat 0)), (.bool false)])) [(0, 1, s30), (1, 32, s32)])),
 o 7 d34 (.call p21 [s28, s29, s33])])
 (.reg [o 0 d35 (.q (.fadr s5 36)),
 o 1 d36 (.q (.ld1 s35)),
 o 2 d37 (.q (.ldn s7 33)),
 o 3 d38 (.e (.bsl (lapp (zz (.int .u8 (.ofNat 0)) 32) [(.int .u32 (.ofNat 0))]) [(0, 33, s37)] 1 33)),
 o 4 d39 (.e (.app s36 s38 33 36 false)),
 o 5 d40 (.q (.fadr s5 36)),
 o 6 none (.e (.st s40 s39 1))]))))
 (.reg [o 0 d21 (.q (.mv s6)),
 o 1 d22 (.q (.bin .add s21 (.v (.int .i64 (.ofNat 1))))),
 o 2 d6 (.q (.mv s22))]))))))
 (.seq (.reg [o 0 d41 (.q (.ldn s5 37)),
 o 1 none (.e (.st s4 s41 37))])
 .ret)))))
 [.cn p4 37]

noncomputable def f7 : FnE := .code 15
 (.seq (.reg [o 0 d1 (.e (.box s0 9)),
 o 1 d2 (.q (.mv (.v .nilp))),
 o 2 d3 (.q (.mv (.v .nili)))])
 (.seq (.seq (.reg [o 0 d5 (.q (.ldn s1 9)),
 o 1 d6 (.call p22 [s5]),
 o 2 d4 (.q (.mv s6))])
 (.seq (.reg [o 0 d7 (.q (.mv s4)),
 o 1 d8 (.q (.eqp (.iface true) true s7 (.v .nili)))])
 (.cnd s8 (.seq (.reg [o 0 d9 (.q (.mv s4)),
 o 1 d2 (.q (.mv (.v .nilp))),
 o 2 d3 (.q (.mv s9))])
 .ret) .skip)))
 (.seq (.reg [o 0 d10 (.q (.ldn s1 9)),
 o 1 d11 (.q (.bld [.nilm, .nilm, (.int .i64 (.ofNat 0)), (.int .i64 (.ofNat 0)), (.int .i64 (.ofNat 0)), (.int .u64 (.ofNat 0))] [])),
 o 2 d12 (.e (.box s11 6)),
 o 3 d13 (.q (.bld [(.int .i64 (.ofNat 0)), (.int .i64 (.ofNat 0)), (.int .i64 (.ofNat 0)), (.int .i64 (.ofNat 0)), (.int .i64 (.ofNat 0)), (.int .i64 (.ofNat 0)), (.int .i64 (.ofNat 0)), (.int .i64 (.ofNat 0)), (.int .i64 (.ofNat 0)), .nilp] [(0, 9, s10), (9, 1, s12)])),
 o 4 d14 (.e (.box s13 10)),
 o 5 d2 (.q (.mv s14)),
 o 6 d3 (.q (.mv (.v .nili)))])
 .ret)))
 [.t p2, .t p3]

noncomputable def f8 : FnE := .code 34
 (.seq (.reg [o 0 d2 (.e (.alo (zz (.int .i64 (.ofNat 0)) 9)))])
 (.seq (.reg [o 0 d4 (.q (.bld (zz (.int .i64 (.ofNat 0)) 9) [(0, 1, (.v (.int .i64 (.ofNat 5)))), (1, 1, (.v (.int .i64 (.ofNat 1)))), (2, 1, (.v (.int .i64 (.ofNat 3000)))), (3, 1, (.v (.int .i64 (.ofNat 2000)))), (4, 1, (.v (.int .i64 (.ofNat 200)))), (5, 1, (.v (.int .i64 (.ofNat 5)))), (6, 1, (.v (.int .i64 (.ofNat 2000)))), (7, 1, (.v (.int .i64 (.ofNat 5)))), (8, 1, (.v (.int .i64 (.ofNat 2000))))])),
 o 1 d3 (.e (.alo (zz (.int .i64 (.ofNat 0)) 9))),
 o 2 none (.e (.st s3 s4 9))])
 (.seq (.seq (.reg [o 0 d5 (.q (.mv s0)),
 o 1 d6 (.call p5 [s5, (.v (.int .i64 (.ofNat 6)))])])
 (.blk 0 (.seq (.reg [o 0 d8 (.q (.bin .eql s6 (.v (.int .i64 (.ofNat 1))))),
 o 1 d7 (.q (.mv s8))])
 (.cnd s7 (.seq (.reg [o 0 d9 (.q (.fadr s3 1)),
 o 1 none (.e (.st s9 (.v (.int .i64 (.ofNat 0))) 1))])
 (.reg [o 0 d10 (.q (.fadr s3 2)),
 o 1 none (.e (.st s10 (.v (.int .i64 (.ofNat 700))) 1))])) (.seq (.reg [o 0 d12 (.q (.bin .eql s6 (.v (.int .i64 (.ofNat 2))))),
 o 1 d11 (.q (.mv s12))])
 (.cnd s11 (.seq (.reg [o 0 d13 (.q (.fadr s3 1)),
 o 1 none (.e (.st s13 (.v (.int .i64 (.ofNat 2))) 1))])
 (.seq (.reg [o 0 d14 (.q (.fadr s3 3)),
 o 1 none (.e (.st s14 (.v (.int .i64 (.ofNat 300))) 1))])
 (.reg [o 0 d15 (.q (.fadr s3 4)),
 o 1 none (.e (.st s15 (.v (.int .i64 (.ofNat 4))) 1))]))) (.seq (.reg [o 0 d17 (.q (.bin .eql s6 (.v (.int .i64 (.ofNat 3))))),
 o 1 d16 (.q (.mv s17))])
 (.cnd s16 (.seq (.reg [o 0 d18 (.q (.fadr s3 5)),
 o 1 none (.e (.st s18 (.v (.int .i64 (.ofNat 2))) 1))])
 (.reg [o 0 d19 (.q (.fadr s3 7)),
 o 1 none (.e (.st s19 (.v (.int .i64 (.ofNat 3))) 1))])) (.seq (.reg [o 0 d21 (.q (.bin .eql s6 (.v (.int .i64 (.ofNat 4))))),
 o 1 d20 (.q (.mv s21))])
 (.cnd s20 (.seq (.reg [o 0 d22 (.q (.fadr s3 6)),
 o 1 none (.e (.st s22 (.v (.int .i64 (.ofNat 400))) 1))])
 (.reg [o 0 d23 (.q (.fadr s3 8)),
 o 1 none (.e (.st s23 (.v (.int .i64 (.ofNat 500))) 1))])) (.seq (.reg [o 0 d25 (.q (.bin .eql s6 (.v (.int .i64 (.ofNat 5))))),
 o 1 d24 (.q (.mv s25))])
 (.cnd s24 (.seq (.reg [o 0 d26 (.q (.fadr s3 1)),
 o 1 none (.e (.st s26 (.v (.int .i64 (.ofNat 0))) 1))])
 (.seq (.reg [o 0 d27 (.q (.fadr s3 2)),
 o 1 none (.e (.st s27 (.v (.int .i64 (.ofNat 1048576))) 1))])
 (.seq (.reg [o 0 d28 (.q (.fadr s3 5)),
 o 1 none (.e (.st s28 (.v (.int .i64 (.ofNat 50))) 1))])
 (.seq (.reg [o 0 d29 (.q (.fadr s3 7)),
 o 1 none (.e (.st s29 (.v (.int .i64 (.ofNat 50))) 1))])
 (.seq (.reg [o 0 d30 (.q (.fadr s3 6)),
 o 1 none (.e (.st s30 (.v (.int .i64 (.ofNat 1048576))) 1))])
 (.seq (.reg [o 0 d31 (.q (.fadr s3 8)),
 o 1 none (.e (.st s31 (.v (.int .i64 (.ofNat 1048576))) 1))])
 (.reg [o 0 d32 (.q (.fadr s3 3)),
 o 1 none (.e (.st s32 (.v (.int .i64 (.ofNat 1048576))) 1))]))))))) .skip))))))))))))
 (.seq (.reg [o 0 d33 (.q (.ldn s3 9)),
 o 1 none (.e (.st s2 s33 9))])
 .ret))))
 [.cn p2 9]

noncomputable def f9 : FnE := .code 15
 (.seq (.reg [o 0 d2 (.q (.mv (.v .nilp))),
 o 1 d3 (.q (.mv (.v .nili)))])
 (.seq (.seq (.reg [o 0 d4 (.q (.mv s0)),
 o 1 d5 (.q (.bin .lss s4 (.v (.int .i64 (.ofNat 1))))),
 o 2 d6 (.q (.mv s5)),
 ⟨3, d7, (.q (.mv s0)), (some (p6, false)), []⟩,
 ⟨4, d8, (.q (.bin .gtr s7 (.v (.int .i64 (.ofNat 65536))))), (some (p6, false)), []⟩,
 o 5 d9 (.q (.pick s6 (.v (.bool true)) s8))])
 (.cnd s9 (.seq (.rgd 0 [o 0 d10 (.q (.ld1 (.g p0))),
 o 1 d2 (.q (.mv (.v .nilp))),
 o 2 d3 (.q (.mv s10))])
 .ret) .skip))
 (.seq (.reg [o 0 d11 (.q (.mv s0)),
 o 1 d12 (.e (.mkm (.int .i64))),
 o 2 d13 (.q (.bld [(.int .i64 (.ofNat 0)), (.int .i64 (.ofNat 0)), .nils, .nilm] [(0, 1, s11), (3, 1, s12)])),
 o 3 d14 (.e (.box s13 4)),
 o 4 d2 (.q (.mv s14)),
 o 5 d3 (.q (.mv (.v .nili)))])
 .ret)))
 [.t p2, .t p3]

noncomputable def f10 : FnE := .code 27
 (.seq (.reg [o 0 d7 (.e (.box s2 4)),
 o 1 d8 (.e (.box s3 2)),
 o 2 d10 (.q (.mv (.v .nili)))])
 (.seq (.seq (.reg [o 0 d12 (.q (.mv s0)),
 o 1 d13 (.q (.mv s1)),
 o 2 d14 (.q (.ldn s7 4)),
 o 3 d15 (.q (.ldn s8 2)),
 o 4 d16 (.call p23 [s12, s13, s14, s15]),
 o 5 d11 (.q (.mv s16))])
 (.seq (.reg [o 0 d17 (.q (.mv s11)),
 o 1 d18 (.q (.eqp (.iface true) true s17 (.v .nili)))])
 (.cnd s18 (.seq (.reg [o 0 d19 (.q (.mv s11)),
 o 1 d10 (.q (.mv s19))])
 .ret) .skip)))
 (.seq (.seq (.rgd 0 [o 0 d20 (.q (.mv s0)),
 o 1 d21 (.q (.mv s4)),
 o 3 d23 (.q (.ldn s7 4)),
 ⟨2, d22, (.call p25 [s20, s21]), none, [(p23, .ldn s7 4, none)]⟩,
 o 4 d24 (.call p26 [s23]),
 o 5 d25 (.call p24 [s22, s24])])
 (.cnd s25 (.seq (.reg [o 0 d26 (.q (.ld1 (.g p1))),
 o 1 d10 (.q (.mv s26))])
 .ret) .skip))
 (.seq (.reg [o 0 d10 (.q (.mv (.v .nili)))])
 .ret))))
 [.t p10]

noncomputable def f11 : FnE := .code 49
 (.seq (.reg [o 0 d5 (.e (.box s0 37)),
 o 1 d10 (.e (.alo [(.int .u32 (.ofNat 0)), .nils, .nils, (.int .u32 (.ofNat 0))]))])
 (.seq (.reg [o 0 d14 (.q (.mv s1)),
 o 1 d15 (.q (.bld [(.int .u32 (.ofNat 0)), .nils, .nils, (.int .u32 (.ofNat 0))] [(0, 1, s14)])),
 o 2 d11 (.e (.alo [(.int .u32 (.ofNat 0)), .nils, .nils, (.int .u32 (.ofNat 0))])),
 o 3 none (.e (.st s11 s15 4))])
 (.seq (.seq (.reg [o 0 d12 (.q (.mv (.v (.int .i64 (.ofNat 0)))))])
 (.blk 0 (.loop (.seq (.seq (.reg [o 0 d16 (.q (.mv s12)),
 o 1 d17 (.q (.mv s2)),
 o 2 d18 (.q (.lenv s17)),
 o 3 d19 (.q (.bin .lss s16 s18))])
 (.cnd s19 .skip (.exit 0)))
 (.seq (.blk 1 (.rgd 0 [o 0 d22 (.q (.fadr s11 1)),
 o 1 d23 (.q (.ld1 s22)),
 o 2 d24 (.q (.mv s2)),
 o 3 d25 (.q (.mv s12)),
 o 4 d26 (.q (.iadr s24 s25 33)),
 o 5 d27 (.q (.ldn s26 33)),
 o 6 d28 (.q (.fadr s5 3)),
 o 7 d29 (.q (.ld1 s28)),
 o 8 d30 (.q (.bld (lapp (zz (.int .u8 (.ofNat 0)) 32) [(.int .u32 (.ofNat 0)), .nils, (.int .u32 (.ofNat 0))]) [(0, 33, s27), (33, 1, s29), (34, 1, (.v (.int .u32 (.ofNat 4294967295))))])),
 ⟨9, d31, (.e (.bsl (lapp (zz (.int .u8 (.ofNat 0)) 32) [(.int .u32 (.ofNat 0)), .nils, (.int .u32 (.ofNat 0))]) [(0, 35, s30)] 1 35)), none, [(p23, .ld1 s22, none)]⟩,
 o 10 d32 (.e (.app s23 s31 35 72 false)),
 o 11 d33 (.q (.fadr s11 1)),
 o 12 none (.e (.st s33 s32 1))]))
 (.reg [o 0 d20 (.q (.mv s12)),
 o 1 d21 (.q (.bin .add s20 (.v (.int .i64 (.ofNat 1))))),
 o 2 d12 (.q (.mv s21))]))))))
 (.seq (.seq (.reg [o 0 d13 (.q (.mv (.v (.int .i64 (.ofNat 0)))))])
 (.blk 2 (.loop (.seq (.seq (.reg [o 0 d34 (.q (.mv s13)),
 o 1 d35 (.q (.mv s3)),
 o 2 d36 (.q (.bin .lss s34 s35))])
 (.cnd s36 .skip (.exit 2)))
 (.seq (.blk 3 (.reg [o 0 d39 (.q (.fadr s11 2)),
 o 1 d40 (.q (.ld1 s39)),
 o 2 d41 (.q (.mv s4)),
 o 3 d42 (.q (.fadr s5 4)),
 o 4 d43 (.q (.ldn s42 32)),
 o 5 d44 (.q (.bld (lapp [(.int .u64 (.ofNat 0))] (zz (.int .u8 (.ofNat 0)) 32)) [(0, 1, s41), (1, 32, s43)])),
 o 6 d45 (.e (.bsl (lapp [(.int .u64 (.ofNat 0))] (zz (.int .u8 (.ofNat 0)) 32)) [(0, 33, s44)] 1 33)),
 o 7 d46 (.e (.app s40 s45 33 40 false)),
 o 8 d47 (.q (.fadr s11 2)),
 o 9 none (.e (.st s47 s46 1))]))
 (.reg [o 0 d37 (.q (.mv s13)),
 o 1 d38 (.q (.bin .add s37 (.v (.int .i64 (.ofNat 1))))),
 o 2 d13 (.q (.mv s38))]))))))
 (.seq (.reg [o 0 d48 (.q (.ldn s11 4)),
 o 1 none (.e (.st s10 s48 4))])
 .ret)))))
 [.cn p10 4]

noncomputable def f12 : FnE := .code 69
 (.seq (.reg [o 0 d10 (.e (.box s4 2))])
 (.seq (.reg [o 0 d18 (.q (.mv s0)),
 o 1 d19 (.q (.nck s18)),
 o 2 d20 (.q (.fadr s19 9)),
 o 3 d21 (.q (.ld1 s20)),
 o 4 d22 (.call p15 [s21]),
 o 5 d12 (.q (.mv s22))])
 (.seq (.reg [o 0 d23 (.q (.mv s0)),
 o 1 d24 (.q (.bld [.nilm, .nilm, (.int .i64 (.ofNat 0)), (.int .i64 (.ofNat 0)), (.int .i64 (.ofNat 0)), (.int .u64 (.ofNat 0))] [])),
 o 2 d25 (.e (.box s24 6)),
 o 3 d26 (.q (.nck s23)),
 o 4 d27 (.q (.fadr s26 9)),
 o 5 none (.e (.st s27 s25 1))])
 (.seq (.reg [o 0 d28 (.e (.mkm (.cells (kk .u8 32)))),
 o 1 d13 (.q (.mv s28))])
 (.seq (.seq (.reg [o 0 d29 (.q (.mv s2)),
 o 1 d30 (.q (.mv s12)),
 o 2 d31 (.e (.bsl [.nils, .nils] [(0, 1, s29), (1, 1, s30)] 2 1)),
 o 3 d32 (.call p27 [s31]),
 o 4 d33 (.q (.lenv s32)),
 o 5 d34 (.q (.mv (.v (.int .i64 (.ofNat 0)))))])
 (.blk 0 (.loop (.seq (.reg [o 0 d35 (.q (.bin .lss s34 s33))])
 (.seq (.cnd s35 .skip (.exit 0))
 (.seq (.blk 1 (.seq (.reg [o 0 d36 (.q (.iadr s32 s34 4)),
 o 1 d37 (.q (.ldn s36 4)),
 o 2 d15 (.e (.alo [(.int .u32 (.ofNat 0)), .nils, .nils, (.int .u32 (.ofNat 0))])),
 o 3 none (.e (.st s15 s37 4))])
 (.seq (.reg [o 0 d38 (.q (.ldn s15 4)),
 o 1 d39 (.call p26 [s38]),
 o 2 d16 (.e (.alo (zz (.int .u8 (.ofNat 0)) 32))),
 o 3 none (.e (.st s16 s39 32))])
 (.seq (.seq (.reg [o 0 d40 (.q (.mv s0)),
 o 1 d41 (.q (.ldn s16 32)),
 o 2 d42 (.call p17 [s40, s41])])
 (.cnd s42 (.exit 1) .skip))
 (.seq (.seq (.reg [o 0 d43 (.q (.mv s3)),
 o 1 d44 (.q (.ldn s16 32)),
 o 2 d45 (.call p24 [s43, s44])])
 (.cnd s45 (.seq (.reg [o 0 d46 (.q (.mv s5)),
 o 1 d47 (.q (.ldn s16 32)),
 o 2 d48 (.call p28 [s46, s47, (.v (.int .i64 (.ofNat 1)))])])
 (.exit 1)) .skip))
 (.seq (.reg [o 0 d49 (.q (.mv s0)),
 o 1 d50 (.q (.mv s1)),
 o 2 d51 (.q (.ldn s15 4)),
 o 3 d52 (.q (.ldn s10 2)),
 o 4 d53 (.call p23 [s49, s50, s51, s52]),
 o 5 d17 (.q (.mv s53))])
 (.seq (.reg [o 0 d54 (.q (.mv s17)),
 o 1 d55 (.q (.eqp (.iface true) true s54 (.v .nili)))])
 (.cnd s55 (.seq (.rgd 0 [o 0 d56 (.q (.mv s5)),
 o 1 d57 (.q (.ldn s16 32)),
 o 2 d58 (.q (.ldn s15 4)),
 o 3 d59 (.q (.mv s13)),
 o 4 d60 (.q (.mv s17)),
 ⟨5, d61, (.call p29 [s58, s59, s60]), none, [(p57, .ldn s16 32, none)]⟩,
 o 6 d62 (.call p28 [s56, s57, s61])])
 (.reg [o 0 d63 (.q (.mv s13)),
 o 1 d64 (.q (.ldn s16 32)),
 o 2 none (.e (.mup s63 s64 (.v (.bool true)) (.cells (kk .u8 32))))])) .skip))))))))
 (.reg [o 0 d65 (.q (.bin .add s34 (.v (.int .i64 (.ofNat 1))))),
 o 1 d34 (.q (.mv s65))])))))))
 (.reg [o 0 d66 (.q (.mv s0)),
 o 1 d67 (.q (.mv s5)),
 o 2 d68 (.call p25 [s66, s67])]))))))
 []

noncomputable def f13 : FnE := .code 8
 (.seq (.reg [o 0 d2 (.q (.mv (.v .nilp)))])
 (.seq (.reg [o 0 d3 (.q (.mv s0)),
 o 1 d4 (.q (.nck s3)),
 o 2 d5 (.q (.fadr s4 9)),
 o 3 d6 (.q (.ld1 s5)),
 o 4 d7 (.call p30 [s6]),
 o 5 d2 (.q (.mv s7))])
 .ret))
 [.t p2]

noncomputable def f14 : FnE := .code 29
 (.seq (.reg [o 0 d4 (.q (.mv (.v (.bool false))))])
 (.seq (.seq (.reg [o 0 d7 (.q (.mv s0)),
 o 1 d8 (.q (.lenv s7)),
 o 2 d9 (.q (.mv s1)),
 o 3 d10 (.q (.lenv s9)),
 o 4 d11 (.q (.bin .neq s8 s10))])
 (.cnd s11 (.seq (.reg [o 0 d4 (.q (.mv (.v (.bool false))))])
 .ret) .skip))
 (.seq (.seq (.reg [o 0 d5 (.q (.mv (.v (.int .i64 (.ofNat 0)))))])
 (.blk 0 (.loop (.seq (.seq (.reg [o 0 d12 (.q (.mv s5)),
 o 1 d13 (.q (.mv s0)),
 o 2 d14 (.q (.lenv s13)),
 o 3 d15 (.q (.bin .lss s12 s14))])
 (.cnd s15 .skip (.exit 0)))
 (.seq (.blk 1 (.seq (.rgd 0 [o 0 d18 (.q (.mv s0)),
 o 1 d19 (.q (.mv s5)),
 o 2 d20 (.q (.iadr s18 s19 4)),
 o 3 d21 (.q (.ldn s20 4)),
 o 4 d22 (.q (.mv s1)),
 o 5 d23 (.q (.mv s5)),
 o 6 d24 (.q (.iadr s22 s23 4)),
 o 7 d25 (.q (.ldn s24 4)),
 o 8 d26 (.call p31 [s21, s25]),
 o 9 d6 (.q (.mv s26))])
 (.seq (.reg [o 0 d27 (.q (.mv s6)),
 o 1 d28 (.q (.not s27))])
 (.cnd s28 (.seq (.reg [o 0 d4 (.q (.mv (.v (.bool false))))])
 .ret) .skip))))
 (.reg [o 0 d16 (.q (.mv s5)),
 o 1 d17 (.q (.bin .add s16 (.v (.int .i64 (.ofNat 1))))),
 o 2 d5 (.q (.mv s17))]))))))
 (.seq (.reg [o 0 d4 (.q (.mv (.v (.bool true))))])
 .ret))))
 [.t p4]

noncomputable def f15 : FnE := .code 7
 (.seq (.reg [o 0 d2 (.q (.mv (.v .nils)))])
 (.seq (.reg [o 0 d3 (.q (.mv s0)),
 o 1 d4 (.q (.mv s0)),
 o 2 d5 (.call p33 [s4]),
 o 3 d6 (.call p32 [s3, s5]),
 o 4 d2 (.q (.mv s6))])
 .ret))
 [.t p2]

noncomputable def f16 : FnE := .code 8
 (.seq (.reg [o 0 d2 (.q (.mv (.v .nils)))])
 (.seq (.reg [o 0 d3 (.q (.mv s0)),
 o 1 d4 (.q (.nck s3)),
 o 2 d5 (.q (.fadr s4 2)),
 o 3 d6 (.q (.ld1 s5)),
 o 4 d7 (.call p34 [s6]),
 o 5 d2 (.q (.mv s7))])
 .ret))
 [.t p2]

noncomputable def f17 : FnE := .code 19
 (.seq (.reg [o 0 d3 (.e (.box s1 32)),
 o 1 d4 (.q (.mv (.v (.bool false))))])
 (.seq (.rgd 1 [o 0 d9 (.q (.mv s0)),
 o 1 d10 (.q (.nck s9)),
 o 2 d11 (.q (.fadr s10 9)),
 o 3 d12 (.q (.ld1 s11)),
 o 4 d13 (.q (.ldn s3 32)),
 o 5 d14 (.call p35 [s12, s13]),
 o 6 d8 (.q (.mv s14)),
 o 7 d15 (.q (.ext s8 0)),
 o 8 d16 (.q (.ext s8 1)),
 o 9 d17 (.q (.ext s8 2)),
 ⟨10, d5, (.l (.alo [(.int .u32 (.ofNat 0)), .nils, .nils, (.int .u32 (.ofNat 0))]) 0), none, [(p12, .ld1 s11, none), (p13, .ldn s3 32, none)]⟩,
 o 11 none (.e (.st s5 s15 4)),
 o 12 d6 (.q (.mv s16)),
 o 13 d7 (.q (.mv s17))])
 (.seq (.reg [o 0 d18 (.q (.mv s7)),
 o 1 d4 (.q (.mv s18))])
 .ret)))
 [.t p4]

noncomputable def f18 : FnE := .code 6
 (.seq (.reg [o 0 d1 (.e (.box s0 4)),
 o 1 d2 (.e (.alo (zz (.int .u8 (.ofNat 0)) 32)))])
 (.seq (.reg [o 0 d3 (.q (.ldn s1 4)),
 o 1 d4 (.call p37 [s3]),
 o 2 d5 (.call p36 [s4]),
 o 3 none (.e (.st s2 s5 32))])
 .ret))
 [.cn p2 32]

noncomputable def f19 : FnE := .code 9
 (.seq (.reg [o 0 d2 (.q (.mv (.v (.int .i64 (.ofNat 0)))))])
 (.seq (.reg [o 0 d3 (.q (.mv s0)),
 o 1 d4 (.q (.nck s3)),
 o 2 d5 (.q (.fadr s4 9)),
 o 3 d6 (.q (.ld1 s5)),
 o 4 d7 (.call p38 [s6]),
 o 5 d8 (.q (.fld s7 0 1 false)),
 o 6 d2 (.q (.mv s8))])
 .ret))
 [.t p2]

noncomputable def f20 : FnE := .code 282
 (.seq (.reg [o 0 d2 (.e (.alo (zz (.int .u8 (.ofNat 0)) 32)))])
 (.seq (.reg [o 0 d23 (.e (.bsl (zz (.int .u32 (.ofNat 0)) 8) [(0, 1, (.v (.int .u32 (.ofNat 1779033703)))), (1, 1, (.v (.int .u32 (.ofNat 3144134277)))), (2, 1, (.v (.int .u32 (.ofNat 1013904242)))), (3, 1, (.v (.int .u32 (.ofNat 2773480762)))), (4, 1, (.v (.int .u32 (.ofNat 1359893119)))), (5, 1, (.v (.int .u32 (.ofNat 2600822924)))), (6, 1, (.v (.int .u32 (.ofNat 528734635)))), (7, 1, (.v (.int .u32 (.ofNat 1541459225))))] 8 1)),
 o 1 d3 (.q (.mv s23))])
 (.seq (.reg [o 0 d24 (.q (.mv s0)),
 o 1 d25 (.call p39 [s24]),
 o 2 d26 (.e (.bsl [(.int .u8 (.ofNat 0))] [(0, 1, (.v (.int .u8 (.ofNat 128))))] 1 1)),
 o 3 d27 (.e (.app s25 s26 1 1 false)),
 o 4 d4 (.q (.mv s27))])
 (.seq (.blk 0 (.loop (.seq (.seq (.reg [o 0 d28 (.q (.mv s4)),
 o 1 d29 (.q (.lenv s28)),
 o 2 d30 (.q (.bin .rem s29 (.v (.int .i64 (.ofNat 64))))),
 o 3 d31 (.q (.bin .neq s30 (.v (.int .i64 (.ofNat 56)))))])
 (.cnd s31 .skip (.exit 0)))
 (.blk 1 (.reg [o 0 d32 (.q (.mv s4)),
 o 1 d33 (.e (.bsl [(.int .u8 (.ofNat 0))] [(0, 1, (.v (.int .u8 (.ofNat 0))))] 1 1)),
 o 2 d34 (.e (.app s32 s33 1 1 false)),
 o 3 d4 (.q (.mv s34))])))))
 (.seq (.reg [o 0 d35 (.q (.mv s0)),
 o 1 d36 (.q (.lenv s35)),
 o 2 d37 (.q (.cvi .u64 s36)),
 o 3 d38 (.q (.bin .mul (.v (.int .u64 (.ofNat 8))) s37)),
 o 4 d5 (.q (.mv s38))])
 (.seq (.seq (.reg [o 0 d6 (.q (.mv (.v (.int .i64 (.ofNat 7)))))])
 (.blk 2 (.loop (.seq (.seq (.reg [o 0 d39 (.q (.mv s6)),
 o 1 d40 (.q (.bin .geq s39 (.v (.int .i64 (.ofNat 0)))))])
 (.cnd s40 .skip (.exit 2)))
 (.seq (.blk 3 (.reg [o 0 d43 (.q (.mv s4)),
 o 1 d44 (.q (.mv s5)),
 o 2 d45 (.q (.mv s6)),
 o 3 d46 (.q (.bin .mul (.v (.int .i64 (.ofNat 8))) s45)),
 o 4 d47 (.q (.cvi .u64 s46)),
 o 5 d48 (.q (.shf false s44 s47)),
 o 6 d49 (.q (.cvi .u8 s48)),
 o 7 d50 (.e (.bsl [(.int .u8 (.ofNat 0))] [(0, 1, s49)] 1 1)),
 o 8 d51 (.e (.app s43 s50 1 1 false)),
 o 9 d4 (.q (.mv s51))]))
 (.reg [o 0 d41 (.q (.mv s6)),
 o 1 d42 (.q (.bin .sub s41 (.v (.int .i64 (.ofNat 1))))),
 o 2 d6 (.q (.mv s42))]))))))
 (.seq (.reg [o 0 d52 (.call p40 []),
 o 1 d7 (.q (.mv s52))])
 (.seq (.seq (.reg [o 0 d8 (.q (.mv (.v (.int .i64 (.ofNat 0)))))])
 (.blk 4 (.loop (.seq (.seq (.reg [o 0 d53 (.q (.mv s8)),
 o 1 d54 (.q (.mv s4)),
 o 2 d55 (.q (.lenv s54)),
 o 3 d56 (.q (.bin .lss s53 s55))])
 (.cnd s56 .skip (.exit 4)))
 (.seq (.blk 5 (.seq (.reg [o 0 d59 (.e (.mks (.v (.int .i64 (.ofNat 64))) (.v (.int .i64 (.ofNat 64))) [(.int .u32 (.ofNat 0))] 1 4)),
 o 1 d9 (.q (.mv s59))])
 (.seq (.seq (.reg [o 0 d10 (.q (.mv (.v (.int .i64 (.ofNat 0)))))])
 (.blk 6 (.loop (.seq (.seq (.reg [o 0 d60 (.q (.mv s10)),
 o 1 d61 (.q (.bin .lss s60 (.v (.int .i64 (.ofNat 64)))))])
 (.cnd s61 .skip (.exit 6)))
 (.seq (.blk 7 (.seq (.seq (.reg [o 0 d64 (.q (.mv s10)),
 o 1 d65 (.q (.bin .lss s64 (.v (.int .i64 (.ofNat 16)))))])
 (.cnd s65 (.seq (.reg [o 0 d66 (.q (.mv s8)),
 o 1 d67 (.q (.mv s10)),
 o 2 d68 (.q (.bin .mul (.v (.int .i64 (.ofNat 4))) s67)),
 o 3 d69 (.q (.bin .add s66 s68)),
 o 4 d11 (.q (.mv s69))])
 (.seq (.rgd 0 [o 0 d70 (.q (.mv s9)),
 o 1 d71 (.q (.mv s10)),
 o 2 d72 (.q (.mv s4)),
 o 3 d73 (.q (.mv s11)),
 o 4 d74 (.q (.iadr s72 s73 1)),
 o 5 d75 (.q (.ld1 s74)),
 o 6 d76 (.q (.cvi .u32 s75)),
 o 7 d77 (.q (.shf true s76 (.v (.int .u64 (.ofNat 24))))),
 o 8 d78 (.q (.mv s4)),
 o 9 d79 (.q (.mv s11)),
 o 10 d80 (.q (.bin .add s79 (.v (.int .i64 (.ofNat 1))))),
 o 11 d81 (.q (.iadr s78 s80 1)),
 o 12 d82 (.q (.ld1 s81)),
 o 13 d83 (.q (.cvi .u32 s82)),
 o 14 d84 (.q (.shf true s83 (.v (.int .u64 (.ofNat 16))))),
 o 15 d85 (.q (.bin .or s77 s84)),
 o 16 d86 (.q (.mv s4)),
 o 17 d87 (.q (.mv s11)),
 o 18 d88 (.q (.bin .add s87 (.v (.int .i64 (.ofNat 2))))),
 o 19 d89 (.q (.iadr s86 s88 1)),
 o 20 d90 (.q (.ld1 s89)),
 o 21 d91 (.q (.cvi .u32 s90)),
 o 22 d92 (.q (.shf true s91 (.v (.int .u64 (.ofNat 8))))),
 o 23 d93 (.q (.bin .or s85 s92)),
 o 24 d94 (.q (.mv s4)),
 o 25 d95 (.q (.mv s11)),
 o 26 d96 (.q (.bin .add s95 (.v (.int .i64 (.ofNat 3))))),
 o 27 d97 (.q (.iadr s94 s96 1)),
 o 28 d98 (.q (.ld1 s97)),
 o 29 d99 (.q (.cvi .u32 s98)),
 o 30 d100 (.q (.bin .or s93 s99)),
 o 31 d101 (.q (.iadr s70 s71 1)),
 o 32 none (.e (.st s101 s100 1))])
 (.exit 7))) .skip))
 (.seq (.reg [o 0 d102 (.q (.mv s9)),
 o 1 d103 (.q (.mv s10)),
 o 2 d104 (.q (.bin .sub s103 (.v (.int .i64 (.ofNat 15))))),
 o 3 d105 (.q (.iadr s102 s104 1)),
 o 4 d106 (.q (.ld1 s105)),
 o 5 d12 (.q (.mv s106))])
 (.seq (.reg [o 0 d107 (.q (.mv s9)),
 o 1 d108 (.q (.mv s10)),
 o 2 d109 (.q (.bin .sub s108 (.v (.int .i64 (.ofNat 2))))),
 o 3 d110 (.q (.iadr s107 s109 1)),
 o 4 d111 (.q (.ld1 s110)),
 o 5 d13 (.q (.mv s111))])
 (.rgd 0 [o 0 d112 (.q (.mv s9)),
 o 1 d113 (.q (.mv s10)),
 o 2 d114 (.q (.mv s9)),
 o 3 d115 (.q (.mv s10)),
 o 4 d116 (.q (.bin .sub s115 (.v (.int .i64 (.ofNat 16))))),
 o 5 d117 (.q (.iadr s114 s116 1)),
 o 6 d118 (.q (.ld1 s117)),
 o 7 d119 (.q (.mv s12)),
 o 9 d121 (.q (.mv s12)),
 o 12 d124 (.q (.mv s12)),
 o 13 d125 (.q (.shf false s124 (.v (.int .u64 (.ofNat 3))))),
 o 16 d128 (.q (.mv s9)),
 o 17 d129 (.q (.mv s10)),
 o 18 d130 (.q (.bin .sub s129 (.v (.int .i64 (.ofNat 7))))),
 o 19 d131 (.q (.iadr s128 s130 1)),
 o 20 d132 (.q (.ld1 s131)),
 o 22 d134 (.q (.mv s13)),
 o 24 d136 (.q (.mv s13)),
 o 27 d139 (.q (.mv s13)),
 o 28 d140 (.q (.shf false s139 (.v (.int .u64 (.ofNat 10))))),
 ⟨8, d120, (.call p41 [s119, (.v (.int .u64 (.ofNat 7)))]), none, [(p118, .ld1 s117, none), (p132, .ld1 s131, none)]⟩,
 ⟨10, d122, (.call p41 [s121, (.v (.int .u64 (.ofNat 18)))]), none, [(p118, .ld1 s117, none), (p132, .ld1 s131, none)]⟩,
 o 11 d123 (.q (.bin .xor s120 s122)),
 o 14 d126 (.q (.bin .xor s123 s125)),
 o 15 d127 (.q (.bin .add s118 s126)),
 o 21 d133 (.q (.bin .add s127 s132)),
 ⟨23, d135, (.call p41 [s134, (.v (.int .u64 (.ofNat 17)))]), none, [(p118, .ld1 s117, none), (p132, .ld1 s131, none)]⟩,
 ⟨25, d137, (.call p41 [s136, (.v (.int .u64 (.ofNat 19)))]), none, [(p118, .ld1 s117, none), (p132, .ld1 s131, none)]⟩,
 o 26 d138 (.q (.bin .xor s135 s137)),
 o 29 d141 (.q (.bin .xor s138 s140)),
 o 30 d142 (.q (.bin .add s133 s141)),
 o 31 d143 (.q (.iadr s112 s113 1)),
 o 32 none (.e (.st s143 s142 1))])))))
 (.reg [o 0 d62 (.q (.mv s10)),
 o 1 d63 (.q (.bin .add s62 (.v (.int .i64 (.ofNat 1))))),
 o 2 d10 (.q (.mv s63))]))))))
 (.seq (.reg [o 0 d144 (.e (.bsl [] [] 0 1)),
 o 1 d145 (.q (.mv s3)),
 o 2 d146 (.e (.app s144 s145 1 4 false)),
 o 3 d14 (.q (.mv s146))])
 (.seq (.seq (.reg [o 0 d15 (.q (.mv (.v (.int .i64 (.ofNat 0)))))])
 (.blk 8 (.loop (.seq (.seq (.reg [o 0 d147 (.q (.mv s15)),
 o 1 d148 (.q (.bin .lss s147 (.v (.int .i64 (.ofNat 64)))))])
 (.cnd s148 .skip (.exit 8)))
 (.seq (.blk 9 (.seq (.reg [o 0 d151 (.q (.mv s14)),
 o 1 d152 (.q (.iadr s151 (.v (.int .i64 (.ofNat 4))) 1)),
 o 2 d153 (.q (.ld1 s152)),
 o 3 d16 (.q (.mv s153))])
 (.seq (.reg [o 0 d154 (.q (.mv s14)),
 o 1 d155 (.q (.iadr s154 (.v (.int .i64 (.ofNat 0))) 1)),
 o 2 d156 (.q (.ld1 s155)),
 o 3 d17 (.q (.mv s156))])
 (.seq (.rgd 0 [o 0 d157 (.q (.mv s14)),
 o 1 d158 (.q (.iadr s157 (.v (.int .i64 (.ofNat 7))) 1)),
 o 2 d159 (.q (.ld1 s158)),
 o 3 d160 (.q (.mv s16)),
 o 5 d162 (.q (.mv s16)),
 o 8 d165 (.q (.mv s16)),
 o 12 d169 (.q (.mv s16)),
 o 13 d170 (.q (.mv s14)),
 o 14 d171 (.q (.iadr s170 (.v (.int .i64 (.ofNat 5))) 1)),
 o 15 d172 (.q (.ld1 s171)),
 o 16 d173 (.q (.bin .and s169 s172)),
 o 17 d174 (.q (.mv s16)),
 o 18 d175 (.q (.inv s174)),
 o 19 d176 (.q (.mv s14)),
 o 20 d177 (.q (.iadr s176 (.v (.int .i64 (.ofNat 6))) 1)),
 o 21 d178 (.q (.ld1 s177)),
 o 22 d179 (.q (.bin .and s175 s178)),
 o 23 d180 (.q (.bin .xor s173 s179)),
 o 25 d182 (.q (.mv s7)),
 o 26 d183 (.q (.mv s15)),
 o 27 d184 (.q (.iadr s182 s183 1)),
 o 28 d185 (.q (.ld1 s184)),
 o 30 d187 (.q (.mv s9)),
 o 31 d188 (.q (.mv s15)),
 o 32 d189 (.q (.iadr s187 s188 1)),
 o 33 d190 (.q (.ld1 s189)),
 ⟨4, d161, (.call p41 [s160, (.v (.int .u64 (.ofNat 6)))]), none, [(p159, .ld1 s158, none), (p172, .ld1 s171, none), (p178, .ld1 s177, none), (p185, .ld1 s184, none), (p190, .ld1 s189, none)]⟩,
 ⟨6, d163, (.call p41 [s162, (.v (.int .u64 (.ofNat 11)))]), none, [(p159, .ld1 s158, none), (p172, .ld1 s171, none), (p178, .ld1 s177, none), (p185, .ld1 s184, none), (p190, .ld1 s189, none)]⟩,
 o 7 d164 (.q (.bin .xor s161 s163)),
 ⟨9, d166, (.call p41 [s165, (.v (.int .u64 (.ofNat 25)))]), none, [(p159, .ld1 s158, none), (p172, .ld1 s171, none), (p178, .ld1 s177, none), (p185, .ld1 s184, none), (p190, .ld1 s189, none)]⟩,
 o 10 d167 (.q (.bin .xor s164 s166)),
 o 11 d168 (.q (.bin .add s159 s167)),
 o 24 d181 (.q (.bin .add s168 s180)),
 o 29 d186 (.q (.bin .add s181 s185)),
 o 34 d191 (.q (.bin .add s186 s190)),
 o 35 d18 (.q (.mv s191))])
 (.seq (.rgd 0 [o 0 d192 (.q (.mv s17)),
 o 2 d194 (.q (.mv s17)),
 o 5 d197 (.q (.mv s17)),
 o 8 d200 (.q (.mv s17)),
 o 9 d201 (.q (.mv s14)),
 o 10 d202 (.q (.iadr s201 (.v (.int .i64 (.ofNat 1))) 1)),
 o 11 d203 (.q (.ld1 s202)),
 o 12 d204 (.q (.bin .and s200 s203)),
 o 13 d205 (.q (.mv s17)),
 o 14 d206 (.q (.mv s14)),
 o 15 d207 (.q (.iadr s206 (.v (.int .i64 (.ofNat 2))) 1)),
 o 16 d208 (.q (.ld1 s207)),
 o 17 d209 (.q (.bin .and s205 s208)),
 o 18 d210 (.q (.bin .xor s204 s209)),
 o 19 d211 (.q (.mv s14)),
 o 20 d212 (.q (.iadr s211 (.v (.int .i64 (.ofNat 1))) 1)),
 o 21 d213 (.q (.ld1 s212)),
 o 22 d214 (.q (.mv s14)),
 o 23 d215 (.q (.iadr s214 (.v (.int .i64 (.ofNat 2))) 1)),
 o 24 d216 (.q (.ld1 s215)),
 o 25 d217 (.q (.bin .and s213 s216)),
 o 26 d218 (.q (.bin .xor s210 s217)),
 ⟨1, d193, (.call p41 [s192, (.v (.int .u64 (.ofNat 2)))]), none, [(p203, .ld1 s202, none), (p208, .ld1 s207, none), (p213, .ld1 s212, none), (p216, .ld1 s215, none)]⟩,
 ⟨3, d195, (.call p41 [s194, (.v (.int .u64 (.ofNat 13)))]), none, [(p203, .ld1 s202, none), (p208, .ld1 s207, none), (p213, .ld1 s212, none), (p216, .ld1 s215, none)]⟩,
 o 4 d196 (.q (.bin .xor s193 s195)),
 ⟨6, d198, (.call p41 [s197, (.v (.int .u64 (.ofNat 22)))]), none, [(p203, .ld1 s202, none), (p208, .ld1 s207, none), (p213, .ld1 s212, none), (p216, .ld1 s215, none)]⟩,
 o 7 d199 (.q (.bin .xor s196 s198)),
 o 27 d219 (.q (.bin .add s199 s218)),
 o 28 d19 (.q (.mv s219))])
 (.rgd 0 [o 0 d220 (.q (.mv s18)),
 o 1 d221 (.q (.mv s19)),
 o 2 d222 (.q (.bin .add s220 s221)),
 o 3 d223 (.q (.mv s14)),
 o 4 d224 (.q (.iadr s223 (.v (.int .i64 (.ofNat 0))) 1)),
 o 5 d225 (.q (.ld1 s224)),
 o 6 d226 (.q (.mv s14)),
 o 7 d227 (.q (.iadr s226 (.v (.int .i64 (.ofNat 1))) 1)),
 o 8 d228 (.q (.ld1 s227)),
 o 9 d229 (.q (.mv s14)),
 o 10 d230 (.q (.iadr s229 (.v (.int .i64 (.ofNat 2))) 1)),
 o 11 d231 (.q (.ld1 s230)),
 o 12 d232 (.q (.mv s14)),
 o 13 d233 (.q (.iadr s232 (.v (.int .i64 (.ofNat 3))) 1)),
 o 14 d234 (.q (.ld1 s233)),
 o 15 d235 (.q (.mv s18)),
 o 16 d236 (.q (.bin .add s234 s235)),
 o 17 d237 (.q (.mv s14)),
 o 18 d238 (.q (.iadr s237 (.v (.int .i64 (.ofNat 4))) 1)),
 o 19 d239 (.q (.ld1 s238)),
 o 20 d240 (.q (.mv s14)),
 o 21 d241 (.q (.iadr s240 (.v (.int .i64 (.ofNat 5))) 1)),
 o 22 d242 (.q (.ld1 s241)),
 o 23 d243 (.q (.mv s14)),
 o 24 d244 (.q (.iadr s243 (.v (.int .i64 (.ofNat 6))) 1)),
 o 25 d245 (.q (.ld1 s244)),
 o 26 d246 (.e (.bsl (zz (.int .u32 (.ofNat 0)) 8) [(0, 1, s222), (1, 1, s225), (2, 1, s228), (3, 1, s231), (4, 1, s236), (5, 1, s239), (6, 1, s242), (7, 1, s245)] 8 1)),
 o 27 d14 (.q (.mv s246))]))))))
 (.reg [o 0 d149 (.q (.mv s15)),
 o 1 d150 (.q (.bin .add s149 (.v (.int .i64 (.ofNat 1))))),
 o 2 d15 (.q (.mv s150))]))))))
 (.seq (.reg [o 0 d20 (.q (.mv (.v (.int .i64 (.ofNat 0)))))])
 (.blk 10 (.loop (.seq (.seq (.reg [o 0 d247 (.q (.mv s20)),
 o 1 d248 (.q (.bin .lss s247 (.v (.int .i64 (.ofNat 8)))))])
 (.cnd s248 .skip (.exit 10)))
 (.seq (.blk 11 (.rgd 0 [o 0 d251 (.q (.mv s3)),
 o 1 d252 (.q (.mv s20)),
 o 2 d253 (.q (.mv s3)),
 o 3 d254 (.q (.mv s20)),
 o 4 d255 (.q (.iadr s253 s254 1)),
 o 5 d256 (.q (.ld1 s255)),
 o 6 d257 (.q (.mv s14)),
 o 7 d258 (.q (.mv s20)),
 o 8 d259 (.q (.iadr s257 s258 1)),
 o 9 d260 (.q (.ld1 s259)),
 o 10 d261 (.q (.bin .add s256 s260)),
 o 11 d262 (.q (.iadr s251 s252 1)),
 o 12 none (.e (.st s262 s261 1))]))
 (.reg [o 0 d249 (.q (.mv s20)),
 o 1 d250 (.q (.bin .add s249 (.v (.int .i64 (.ofNat 1))))),
 o 2 d20 (.q (.mv s250))])))))))))))
 (.reg [o 0 d57 (.q (.mv s8)),
 o 1 d58 (.q (.bin .add s57 (.v (.int .i64 (.ofNat 64))))),
 o 2 d8 (.q (.mv s58))]))))))
 (.seq (.reg [o 0 d21 (.e (.alo (zz (.int .u8 (.ofNat 0)) 32)))])
 (.seq (.seq (.reg [o 0 d22 (.q (.mv (.v (.int .i64 (.ofNat 0)))))])
 (.blk 12 (.loop (.seq (.seq (.reg [o 0 d263 (.q (.mv s22)),
 o 1 d264 (.q (.bin .lss s263 (.v (.int .i64 (.ofNat 32)))))])
 (.cnd s264 .skip (.exit 12)))
 (.seq (.blk 13 (.reg [o 0 d267 (.q (.mv s22)),
 o 1 d268 (.q (.mv s3)),
 o 2 d269 (.q (.mv s22)),
 o 3 d270 (.q (.bin .quo s269 (.v (.int .i64 (.ofNat 4))))),
 o 4 d271 (.q (.iadr s268 s270 1)),
 o 5 d272 (.q (.ld1 s271)),
 o 6 d273 (.q (.mv s22)),
 o 7 d274 (.q (.bin .rem s273 (.v (.int .i64 (.ofNat 4))))),
 o 8 d275 (.q (.bin .mul (.v (.int .i64 (.ofNat 8))) s274)),
 o 9 d276 (.q (.bin .sub (.v (.int .i64 (.ofNat 24))) s275)),
 o 10 d277 (.q (.cvi .u64 s276)),
 o 11 d278 (.q (.shf false s272 s277)),
 o 12 d279 (.q (.cvi .u8 s278)),
 o 13 d280 (.q (.iada s21 s267 1 32)),
 o 14 none (.e (.st s280 s279 1))]))
 (.reg [o 0 d265 (.q (.mv s22)),
 o 1 d266 (.q (.bin .add s265 (.v (.int .i64 (.ofNat 1))))),
 o 2 d22 (.q (.mv s266))]))))))
 (.seq (.reg [o 0 d281 (.q (.ldn s21 32)),
 o 1 none (.e (.st s2 s281 32))])
 .ret)))))))))))
 [.cn p2 32]

noncomputable def f21 : FnE := .code 39
 (.seq (.reg [o 0 d4 (.e (.box s1 33)),
 o 1 d5 (.e (.box s2 35)),
 o 2 d6 (.q (.mv (.v .nili)))])
 (.seq (.seq (.reg [o 0 d9 (.q (.fadr s5 0)),
 o 1 d10 (.q (.ld1 s9)),
 o 2 d11 (.q (.bin .gtr s10 (.v (.int .u64 (.ofNat 2100000000000000)))))])
 (.cnd s11 (.seq (.reg [o 0 d12 (.q (.ld1 (.g p2))),
 o 1 d6 (.q (.mv s12))])
 .ret) .skip))
 (.seq (.seq (.rgd 0 [o 0 d14 (.q (.mv s0)),
 o 1 d15 (.q (.nck s14)),
 o 2 d16 (.q (.fadr s15 0)),
 o 3 d17 (.q (.ld1 s16)),
 o 4 d18 (.q (.ldn s4 33)),
 o 5 d19 (.q (.lkp s17 s18 (.cells [.u8, .u8, .u8, .u8, .u8, .u8, .u8, .u8, .u8, .u8, .u8, .u8, .u8, .u8, .u8, .u8, .u8, .u8, .u8, .u8, .u8, .u8, .u8, .u8, .u8, .u8, .u8, .u8, .u8, .u8, .u8, .u8, .u32]) (.agg (lapp [(.int .u64 (.ofNat 0))] (lapp (zz (.int .u8 (.ofNat 0)) 32) [(.int .i64 (.ofNat 0)), (.bool false)]))) true)),
 o 6 d13 (.q (.mv s19)),
 o 7 d20 (.q (.ext s13 0)),
 o 8 d21 (.q (.ext s13 1)),
 ⟨9, d7, (.e (.alo (lapp [(.int .u64 (.ofNat 0))] (lapp (zz (.int .u8 (.ofNat 0)) 32) [(.int .i64 (.ofNat 0)), (.bool false)])))), none, [(p17, .ld1 s16, none), (p18, .ldn s4 33, none), (p19, .lkp s17 s18 (.cells [.u8, .u8, .u8, .u8, .u8, .u8, .u8, .u8, .u8, .u8, .u8, .u8, .u8, .u8, .u8, .u8, .u8, .u8, .u8, .u8, .u8, .u8, .u8, .u8, .u8, .u8, .u8, .u8, .u8, .u8, .u8, .u8, .u32]) (.agg (lapp [(.int .u64 (.ofNat 0))] (lapp (zz (.int .u8 (.ofNat 0)) 32) [(.int .i64 (.ofNat 0)), (.bool false)]))) true, none)]⟩,
 o 10 none (.e (.st s7 s20 35)),
 o 11 d8 (.q (.mv s21))])
 (.seq (.reg [o 0 d22 (.q (.mv s8))])
 (.cnd s22 (.seq (.reg [o 0 d23 (.q (.ld1 (.g p3))),
 o 1 d6 (.q (.mv s23))])
 .ret) .skip)))
 (.seq (.seq (.reg [o 0 d24 (.q (.mv s0)),
 o 1 d25 (.q (.nck s24)),
 o 2 d26 (.q (.fadr s25 0)),
 o 3 d27 (.q (.ld1 s26)),
 o 4 d28 (.q (.eqp .map false s27 (.v .nilm)))])
 (.cnd s28 (.reg [o 0 d29 (.q (.mv s0)),
 o 1 d30 (.e (.mkm (.cells [.u8, .u8, .u8, .u8, .u8, .u8, .u8, .u8, .u8, .u8, .u8, .u8, .u8, .u8, .u8, .u8, .u8, .u8, .u8, .u8, .u8, .u8, .u8, .u8, .u8, .u8, .u8, .u8, .u8, .u8, .u8, .u8, .u32]))),
 o 2 d31 (.q (.nck s29)),
 o 3 d32 (.q (.fadr s31 0)),
 o 4 none (.e (.st s32 s30 1))]) .skip))
 (.seq (.rgd 0 [o 0 d33 (.q (.mv s0)),
 o 1 d34 (.q (.nck s33)),
 o 2 d35 (.q (.fadr s34 0)),
 o 3 d36 (.q (.ld1 s35)),
 o 4 d37 (.q (.ldn s4 33)),
 o 5 d38 (.q (.ldn s5 35)),
 o 6 none (.e (.mup s36 s37 s38 (.cells [.u8, .u8, .u8, .u8, .u8, .u8, .u8, .u8, .u8, .u8, .u8, .u8, .u8, .u8, .u8, .u8, .u8, .u8, .u8, .u8, .u8, .u8, .u8, .u8, .u8, .u8, .u8, .u8, .u8, .u8, .u8, .u8, .u32])))])
 (.seq (.reg [o 0 d6 (.q (.mv (.v .nili)))])
 .ret))))))
 [.t p6]

noncomputable def f22 : FnE := .code 52
 (.seq (.reg [o 0 d1 (.e (.box s0 9)),
 o 1 d2 (.q (.mv (.v .nili)))])
 (.seq (.seq (.reg [o 0 d5 (.q (.fadr s1 0)),
 o 1 d6 (.q (.ld1 s5)),
 o 2 d7 (.q (.bld [(.int .i64 (.ofNat 0)), (.int .i64 (.ofNat 0)), (.int .i64 (.ofNat 0))] [(0, 1, s6), (1, 1, (.v (.int .i64 (.ofNat 1)))), (2, 1, (.v (.int .i64 (.ofNat 1048576))))])),
 o 3 d8 (.q (.fadr s1 1)),
 o 4 d9 (.q (.ld1 s8)),
 o 5 d10 (.q (.bld [(.int .i64 (.ofNat 0)), (.int .i64 (.ofNat 0)), (.int .i64 (.ofNat 0))] [(0, 1, s9), (1, 1, (.v (.int .i64 (.ofNat 0)))), (2, 1, (.v (.int .i64 (.ofNat 1000))))])),
 o 6 d11 (.q (.fadr s1 2)),
 o 7 d12 (.q (.ld1 s11)),
 o 8 d13 (.q (.bld [(.int .i64 (.ofNat 0)), (.int .i64 (.ofNat 0)), (.int .i64 (.ofNat 0))] [(0, 1, s12), (1, 1, (.v (.int .i64 (.ofNat 1)))), (2, 1, (.v (.int .i64 (.ofNat 16777216))))])),
 o 9 d14 (.q (.fadr s1 3)),
 o 10 d15 (.q (.ld1 s14)),
 o 11 d16 (.q (.bld [(.int .i64 (.ofNat 0)), (.int .i64 (.ofNat 0)), (.int .i64 (.ofNat 0))] [(0, 1, s15), (1, 1, (.v (.int .i64 (.ofNat 1)))), (2, 1, (.v (.int .i64 (.ofNat 16777216))))])),
 o 12 d17 (.q (.fadr s1 4)),
 o 13 d18 (.q (.ld1 s17)),
 o 14 d19 (.q (.bld [(.int .i64 (.ofNat 0)), (.int .i64 (.ofNat 0)), (.int .i64 (.ofNat 0))] [(0, 1, s18), (1, 1, (.v (.int .i64 (.ofNat 1)))), (2, 1, (.v (.int .i64 (.ofNat 65536))))])),
 o 15 d20 (.q (.fadr s1 5)),
 o 16 d21 (.q (.ld1 s20)),
 o 17 d22 (.q (.bld [(.int .i64 (.ofNat 0)), (.int .i64 (.ofNat 0)), (.int .i64 (.ofNat 0))] [(0, 1, s21), (1, 1, (.v (.int .i64 (.ofNat 1)))), (2, 1, (.v (.int .i64 (.ofNat 1000))))])),
 o 18 d23 (.q (.fadr s1 7)),
 o 19 d24 (.q (.ld1 s23)),
 o 20 d25 (.q (.bld [(.int .i64 (.ofNat 0)), (.int .i64 (.ofNat 0)), (.int .i64 (.ofNat 0))] [(0, 1, s24), (1, 1, (.v (.int .i64 (.ofNat 1)))), (2, 1, (.v (.int .i64 (.ofNat 1000))))])),
 o 21 d26 (.q (.fadr s1 6)),
 o 22 d27 (.q (.ld1 s26)),
 o 23 d28 (.q (.bld [(.int .i64 (.ofNat 0)), (.int .i64 (.ofNat 0)), (.int .i64 (.ofNat 0))] [(0, 1, s27), (1, 1, (.v (.int .i64 (.ofNat 1)))), (2, 1, (.v (.int .i64 (.ofNat 16777216))))])),
 o 24 d29 (.q (.fadr s1 8)),
 o 25 d30 (.q (.ld1 s29)),
 o 26 d31 (.q (.bld [(.int .i64 (.ofNat 0)), (.int .i64 (.ofNat 0)), (.int .i64 (.ofNat 0))] [(0, 1, s30), (1, 1, (.v (.int .i64 (.ofNat 1)))), (2, 1, (.v (.int .i64 (.ofNat 16777216))))])),
 o 27 d32 (.e (.bsl (zz (.int .i64 (.ofNat 0)) 27) [(0, 3, s7), (3, 3, s10), (6, 3, s13), (9, 3, s16), (12, 3, s19), (15, 3, s22), (18, 3, s25), (21, 3, s28), (24, 3, s31)] 9 3)),
 o 28 d33 (.q (.lenv s32)),
 o 29 d34 (.q (.mv (.v (.int .i64 (.ofNat 0)))))])
 (.blk 0 (.loop (.seq (.reg [o 0 d35 (.q (.bin .lss s34 s33))])
 (.seq (.cnd s35 .skip (.exit 0))
 (.seq (.blk 1 (.seq (.reg [o 0 d36 (.q (.iadr s32 s34 3)),
 o 1 d37 (.q (.ldn s36 3)),
 o 2 d4 (.e (.alo [(.int .i64 (.ofNat 0)), (.int .i64 (.ofNat 0)), (.int .i64 (.ofNat 0))])),
 o 3 none (.e (.st s4 s37 3))])
 (.seq (.reg [o 0 d38 (.q (.iada s4 (.v (.int .i64 (.ofNat 0))) 1 3)),
 o 1 d39 (.q (.ld1 s38)),
 o 2 d40 (.q (.iada s4 (.v (.int .i64 (.ofNat 1))) 1 3)),
 o 3 d41 (.q (.ld1 s40)),
 o 4 d42 (.q (.bin .lss s39 s41)),
 o 5 d43 (.q (.mv s42)),
 ⟨6, d44, (.q (.iada s4 (.v (.int .i64 (.ofNat 0))) 1 3)), (some (p43, false)), []⟩,
 ⟨7, d45, (.q (.ld1 s44)), (some (p43, false)), []⟩,
 ⟨8, d46, (.q (.iada s4 (.v (.int .i64 (.ofNat 2))) 1 3)), (some (p43, false)), []⟩,
 ⟨9, d47, (.q (.ld1 s46)), (some (p43, false)), []⟩,
 ⟨10, d48, (.q (.bin .gtr s45 s47)), (some (p43, false)), []⟩,
 o 11 d49 (.q (.pick s43 (.v (.bool true)) s48))])
 (.cnd s49 (.seq (.reg [o 0 d50 (.q (.ld1 (.g p0))),
 o 1 d2 (.q (.mv s50))])
 .ret) .skip))))
 (.reg [o 0 d51 (.q (.bin .add s34 (.v (.int .i64 (.ofNat 1))))),
 o 1 d34 (.q (.mv s51))])))))))
 (.seq (.reg [o 0 d2 (.q (.mv (.v .nili)))])
 .ret)))
 [.t p2]

noncomputable def f23 : FnE := .code 36
 (.seq (.reg [o 0 d6 (.e (.box s2 4)),
 o 1 d7 (.e (.box s3 2)),
 o 2 d8 (.q (.mv (.v .nili)))])
 (.seq (.rgd 0 [o 0 d12 (.q (.mv s0)),
 o 1 d13 (.q (.nck s12)),
 o 2 d14 (.q (.fadr s13 9)),
 o 3 d15 (.q (.ld1 s14)),
 o 4 d16 (.q (.mv s1)),
 o 5 d17 (.q (.ldn s6 4)),
 o 6 d18 (.q (.ldn s7 2)),
 o 7 d19 (.q (.mv s0)),
 o 8 d20 (.q (.nck s19)),
 o 9 d21 (.q (.fadr s20 0)),
 o 10 d22 (.q (.ldn s21 9)),
 o 11 d23 (.call p42 [s15, s16, s17, s18, s22]),
 o 12 d11 (.q (.mv s23)),
 o 13 d24 (.q (.ext s11 0)),
 o 14 d25 (.q (.ext s11 1)),
 o 15 d9 (.q (.mv s24)),
 o 16 d10 (.q (.mv s25))])
 (.seq (.seq (.reg [o 0 d26 (.q (.mv s10)),
 o 1 d27 (.q (.eqp (.iface true) true s26 (.v .nili)))])
 (.cnd s27 (.seq (.reg [o 0 d28 (.q (.mv s10)),
 o 1 d8 (.q (.mv s28))])
 .ret) .skip))
 (.seq (.rgd 0 [o 0 d29 (.q (.mv s0)),
 o 1 d30 (.q (.nck s29)),
 o 2 d31 (.q (.fadr s30 9)),
 o 3 d32 (.q (.ld1 s31)),
 o 4 d33 (.q (.ldn s6 4)),
 o 5 d34 (.q (.mv s9)),
 o 6 d35 (.call p43 [s32, s33, s34]),
 o 7 d8 (.q (.mv s35))])
 .ret))))
 [.t p8]

noncomputable def f24 : FnE := .code 9
 (.seq (.reg [o 0 d3 (.e (.box s1 32)),
 o 1 d4 (.q (.mv (.v (.bool false))))])
 (.seq (.reg [o 0 d5 (.q (.mv s0)),
 o 1 d6 (.q (.ldn s3 32)),
 o 2 d7 (.call p44 [s5, s6]),
 o 3 d8 (.q (.bin .geq s7 (.v (.int .i64 (.ofNat 0))))),
 o 4 d4 (.q (.mv s8))])
 .ret))
 [.t p4]

noncomputable def f25 : FnE := .code 35
 (.seq (.reg [o 0 d4 (.q (.mv (.v .nils)))])
 (.seq (.reg [o 0 d5 (.q (.mv (.v .nils)))])
 (.seq (.seq (.rgd 0 [o 0 d9 (.q (.mv s0)),
 o 1 d10 (.q (.nck s9)),
 o 2 d11 (.q (.fadr s10 9)),
 o 3 d12 (.q (.ld1 s11)),
 o 4 d13 (.q (.mv s0)),
 o 5 d14 (.q (.nck s13)),
 o 6 d15 (.q (.fadr s14 0)),
 o 7 d16 (.q (.fadr s15 2)),
 o 8 d17 (.q (.ld1 s16)),
 o 11 d20 (.q (.mv (.v (.int .i64 (.ofNat 0))))),
 o 9 d18 (.call p45 [s12, s17]),
 o 10 d19 (.q (.lenv s18))])
 (.blk 0 (.loop (.seq (.reg [o 0 d21 (.q (.bin .lss s20 s19))])
 (.seq (.cnd s21 .skip (.exit 0))
 (.seq (.blk 1 (.seq (.reg [o 0 d22 (.q (.iadr s18 s20 4)),
 o 1 d23 (.q (.ldn s22 4)),
 o 2 d7 (.e (.alo [(.int .u32 (.ofNat 0)), .nils, .nils, (.int .u32 (.ofNat 0))])),
 o 3 none (.e (.st s7 s23 4))])
 (.seq (.reg [o 0 d24 (.q (.ldn s7 4)),
 o 1 d25 (.call p26 [s24]),
 o 2 d8 (.e (.alo (zz (.int .u8 (.ofNat 0)) 32))),
 o 3 none (.e (.st s8 s25 32))])
 (.seq (.reg [o 0 d26 (.q (.mv s1)),
 o 1 d27 (.q (.ldn s8 32)),
 o 2 d28 (.call p28 [s26, s27, (.v (.int .i64 (.ofNat 6)))])])
 (.reg [o 0 d29 (.q (.mv s5)),
 o 1 d30 (.q (.ldn s8 32)),
 o 2 d31 (.e (.bsl (zz (.int .u8 (.ofNat 0)) 32) [(0, 32, s30)] 1 32)),
 o 3 d32 (.e (.app s29 s31 32 32 false)),
 o 4 d5 (.q (.mv s32))])))))
 (.reg [o 0 d33 (.q (.bin .add s20 (.v (.int .i64 (.ofNat 1))))),
 o 1 d20 (.q (.mv s33))])))))))
 (.seq (.reg [o 0 d34 (.q (.mv s5)),
 o 1 d4 (.q (.mv s34))])
 .ret))))
 [.t p4]

noncomputable def f26 : FnE := .code 6
 (.seq (.reg [o 0 d1 (.e (.box s0 4)),
 o 1 d2 (.e (.alo (zz (.int .u8 (.ofNat 0)) 32)))])
 (.seq (.reg [o 0 d3 (.q (.ldn s1 4)),
 o 1 d4 (.call p47 [s3]),
 o 2 d5 (.call p46 [s4]),
 o 3 none (.e (.st s2 s5 32))])
 .ret))
 [.cn p2 32]

noncomputable def f27 : FnE := .code 36
 (.seq (.reg [o 0 d2 (.q (.mv (.v .nils)))])
 (.seq (.reg [o 0 d3 (.q (.mv (.v (.int .i64 (.ofNat 0)))))])
 (.seq (.seq (.reg [o 0 d9 (.q (.mv s0)),
 o 1 d10 (.q (.lenv s9)),
 o 2 d11 (.q (.mv (.v (.int .i64 (.ofNat 0)))))])
 (.blk 0 (.loop (.seq (.reg [o 0 d12 (.q (.bin .lss s11 s10))])
 (.seq (.cnd s12 .skip (.exit 0))
 (.seq (.blk 1 (.seq (.reg [o 0 d13 (.q (.iadr s9 s11 1)),
 o 1 d14 (.q (.ld1 s13)),
 o 2 d5 (.q (.mv s14))])
 (.seq (.reg [o 0 d15 (.q (.mv s3)),
 o 1 d16 (.q (.mv s5)),
 o 2 d17 (.q (.lenv s16)),
 o 3 d18 (.q (.bin .add s15 s17)),
 o 4 d3 (.q (.mv s18))])
 (.seq (.reg [o 0 d19 (.q (.mv s3)),
 o 1 d20 (.q (.bin .lss s19 (.v (.int .i64 (.ofNat 0)))))])
 (.cnd s20 (.reg [o 0 d21 (.q (.mki 9 (.v (.str [108, 101, 110, 32, 111, 117, 116, 32, 111, 102, 32, 114, 97, 110, 103, 101])))),
 o 1 none .bad]) .skip)))))
 (.reg [o 0 d22 (.q (.bin .add s11 (.v (.int .i64 (.ofNat 1))))),
 o 1 d11 (.q (.mv s22))])))))))
 (.seq (.reg [o 0 d23 (.q (.mv s3)),
 o 1 d24 (.call p48 [(.v .nils), s23]),
 o 2 d6 (.q (.mv s24))])
 (.seq (.seq (.reg [o 0 d25 (.q (.mv s0)),
 o 1 d26 (.q (.lenv s25)),
 o 2 d27 (.q (.mv (.v (.int .i64 (.ofNat 0)))))])
 (.blk 2 (.loop (.seq (.reg [o 0 d28 (.q (.bin .lss s27 s26))])
 (.seq (.cnd s28 .skip (.exit 2))
 (.seq (.blk 3 (.seq (.reg [o 0 d29 (.q (.iadr s25 s27 1)),
 o 1 d30 (.q (.ld1 s29)),
 o 2 d8 (.q (.mv s30))])
 (.reg [o 0 d31 (.q (.mv s6)),
 o 1 d32 (.q (.mv s8)),
 o 2 d33 (.e (.app s31 s32 4 64 false)),
 o 3 d6 (.q (.mv s33))])))
 (.reg [o 0 d34 (.q (.bin .add s27 (.v (.int .i64 (.ofNat 1))))),
 o 1 d27 (.q (.mv s34))])))))))
 (.seq (.reg [o 0 d35 (.q (.mv s6)),
 o 1 d2 (.q (.mv s35))])
 .ret))))))
 [.t p2]

noncomputable def f28 : FnE := .code 10
 (.seq (.reg [o 0 d4 (.e (.box s1 32))])
 (.reg [o 0 d6 (.q (.mv s0)),
 o 1 d7 (.q (.ldn s4 32)),
 o 2 d8 (.q (.mv s2)),
 o 3 d9 (.call p49 [s6, s7, s8])]))
 []

noncomputable def f29 : FnE := .code 17
 (.seq (.reg [o 0 d3 (.e (.box s0 4)),
 o 1 d4 (.e (.box s1 1)),
 o 2 d6 (.q (.mv (.v (.int .i64 (.ofNat 0)))))])
 (.seq (.seq (.reg [o 0 d8 (.q (.fadr s3 1)),
 o 1 d9 (.q (.ld1 s8)),
 o 2 d10 (.q (.mkf 51 [] [s4])),
 o 3 d11 (.call p50 [s9, s10])])
 (.cnd s11 (.seq (.reg [o 0 d6 (.q (.mv (.v (.int .i64 (.ofNat 8)))))])
 .ret) .skip))
 (.seq (.seq (.reg [o 0 d12 (.q (.mv s2)),
 o 1 d13 (.call p52 [s12]),
 o 2 d7 (.q (.mv s13))])
 (.seq (.reg [o 0 d14 (.q (.mv s7)),
 o 1 d15 (.q (.bin .neq s14 (.v (.int .i64 (.ofNat 0)))))])
 (.cnd s15 (.seq (.reg [o 0 d16 (.q (.mv s7)),
 o 1 d6 (.q (.mv s16))])
 .ret) .skip)))
 (.seq (.reg [o 0 d6 (.q (.mv (.v (.int .i64 (.ofNat 2)))))])
 .ret))))
 [.t p6]

noncomputable def f30 : FnE := .code 23
 (.seq (.reg [o 0 d2 (.q (.mv (.v .nilp)))])
 (.seq (.rgd 0 [o 0 d3 (.q (.mv s0)),
 o 1 d4 (.q (.nck s3)),
 o 2 d5 (.q (.fadr s4 0)),
 o 3 d6 (.q (.ld1 s5)),
 o 5 d8 (.q (.mv s0)),
 o 6 d9 (.q (.nck s8)),
 o 7 d10 (.q (.fadr s9 1)),
 o 8 d11 (.q (.ld1 s10)),
 o 10 d13 (.q (.mv s0)),
 o 11 d14 (.q (.nck s13)),
 o 12 d15 (.q (.fadr s14 2)),
 o 13 d16 (.q (.ld1 s15)),
 o 14 d17 (.q (.mv s0)),
 o 15 d18 (.q (.nck s17)),
 o 16 d19 (.q (.fadr s18 3)),
 o 17 d20 (.q (.ldn s19 3)),
 ⟨4, d7, (.call p53 [s6]), none, [(p11, .ld1 s10, none), (p16, .ld1 s15, none), (p20, .ldn s19 3, none)]⟩,
 ⟨9, d12, (.call p54 [s11]), none, [(p16, .ld1 s15, none), (p20, .ldn s19 3, none)]⟩,
 o 18 d21 (.q (.bld [.nilm, .nilm, (.int .i64 (.ofNat 0)), (.int .i64 (.ofNat 0)), (.int .i64 (.ofNat 0)), (.int .u64 (.ofNat 0))] [(0, 1, s7), (1, 1, s12), (2, 1, s16), (3, 3, s20)])),
 o 19 d22 (.e (.box s21 6)),
 o 20 d2 (.q (.mv s22))])
 .ret))
 [.t p2]

noncomputable def f31 : FnE := .code 75
 (.seq (.reg [o 0 d2 (.e (.box s0 4)),
 o 1 d3 (.e (.box s1 4)),
 o 2 d4 (.q (.mv (.v (.bool false))))])
 (.seq (.seq (.reg [o 0 d7 (.q (.fadr s2 0)),
 o 1 d8 (.q (.ld1 s7)),
 o 2 d9 (.q (.fadr s3 0)),
 o 3 d10 (.q (.ld1 s9)),
 o 4 d11 (.q (.bin .neq s8 s10)),
 o 5 d12 (.q (.mv s11)),
 ⟨6, d13, (.q (.fadr s2 3)), (some (p12, false)), []⟩,
 ⟨7, d14, (.q (.ld1 s13)), (some (p12, false)), []⟩,
 ⟨8, d15, (.q (.fadr s3 3)), (some (p12, false)), []⟩,
 ⟨9, d16, (.q (.ld1 s15)), (some (p12, false)), []⟩,
 ⟨10, d17, (.q (.bin .neq s14 s16)), (some (p12, false)), []⟩,
 o 11 d18 (.q (.pick s12 (.v (.bool true)) s17)),
 o 12 d19 (.q (.mv s18)),
 ⟨13, d20, (.q (.fadr s2 1)), (some (p19, false)), []⟩,
 ⟨14, d21, (.q (.ld1 s20)), (some (p19, false)), []⟩,
 ⟨15, d22, (.q (.lenv s21)), (some (p19, false)), []⟩,
 ⟨16, d23, (.q (.fadr s3 1)), (some (p19, false)), []⟩,
 ⟨17, d24, (.q (.ld1 s23)), (some (p19, false)), []⟩,
 ⟨18, d25, (.q (.lenv s24)), (some (p19, false)), []⟩,
 ⟨19, d26, (.q (.bin .neq s22 s25)), (some (p19, false)), []⟩,
 o 20 d27 (.q (.pick s19 (.v (.bool true)) s26)),
 o 21 d28 (.q (.mv s27)),
 ⟨22, d29, (.q (.fadr s2 2)), (some (p28, false)), []⟩,
 ⟨23, d30, (.q (.ld1 s29)), (some (p28, false)), []⟩,
 ⟨24, d31, (.q (.lenv s30)), (some (p28, false)), []⟩,
 ⟨25, d32, (.q (.fadr s3 2)), (some (p28, false)), []⟩,
 ⟨26, d33, (.q (.ld1 s32)), (some (p28, false)), []⟩,
 ⟨27, d34, (.q (.lenv s33)), (some (p28, false)), []⟩,
 ⟨28, d35, (.q (.bin .neq s31 s34)), (some (p28, false)), []⟩,
 o 29 d36 (.q (.pick s28 (.v (.bool true)) s35))])
 (.cnd s36 (.seq (.reg [o 0 d4 (.q (.mv (.v (.bool false))))])
 .ret) .skip))
 (.seq (.seq (.reg [o 0 d5 (.q (.mv (.v (.int .i64 (.ofNat 0)))))])
 (.blk 0 (.loop (.seq (.seq (.reg [o 0 d37 (.q (.mv s5)),
 o 1 d38 (.q (.fadr s2 1)),
 o 2 d39 (.q (.ld1 s38)),
 o 3 d40 (.q (.lenv s39)),
 o 4 d41 (.q (.bin .lss s37 s40))])
 (.cnd s41 .skip (.exit 0)))
 (.seq (.blk 1 (.seq (.rgd 0 [o 0 d44 (.q (.fadr s2 1)),
 o 1 d45 (.q (.ld1 s44)),
 o 2 d46 (.q (.mv s5)),
 o 3 d47 (.q (.iadr s45 s46 35)),
 o 4 d48 (.q (.ldn s47 35)),
 o 5 d49 (.q (.fadr s3 1)),
 o 6 d50 (.q (.ld1 s49)),
 o 7 d51 (.q (.mv s5)),
 o 8 d52 (.q (.iadr s50 s51 35)),
 o 9 d53 (.q (.ldn s52 35)),
 o 10 d54 (.call p55 [s48, s53]),
 o 11 d55 (.q (.not s54))])
 (.cnd s55 (.seq (.reg [o 0 d4 (.q (.mv (.v (.bool false))))])
 .ret) .skip)))
 (.reg [o 0 d42 (.q (.mv s5)),
 o 1 d43 (.q (.bin .add s42 (.v (.int .i64 (.ofNat 1))))),
 o 2 d5 (.q (.mv s43))]))))))
 (.seq (.seq (.reg [o 0 d6 (.q (.mv (.v (.int .i64 (.ofNat 0)))))])
 (.blk 2 (.loop (.seq (.seq (.reg [o 0 d56 (.q (.mv s6)),
 o 1 d57 (.q (.fadr s2 2)),
 o 2 d58 (.q (.ld1 s57)),
 o 3 d59 (.q (.lenv s58)),
 o 4 d60 (.q (.bin .lss s56 s59))])
 (.cnd s60 .skip (.exit 2)))
 (.seq (.blk 3 (.seq (.rgd 0 [o 0 d63 (.q (.fadr s2 2)),
 o 1 d64 (.q (.ld1 s63)),
 o 2 d65 (.q (.mv s6)),
 o 3 d66 (.q (.iadr s64 s65 33)),
 o 4 d67 (.q (.ldn s66 33)),
 o 5 d68 (.q (.fadr s3 2)),
 o 6 d69 (.q (.ld1 s68)),
 o 7 d70 (.q (.mv s6)),
 o 8 d71 (.q (.iadr s69 s70 33)),
 o 9 d72 (.q (.ldn s71 33)),
 o 10 d73 (.call p56 [s67, s72]),
 o 11 d74 (.q (.not s73))])
 (.cnd s74 (.seq (.reg [o 0 d4 (.q (.mv (.v (.bool false))))])
 .ret) .skip)))
 (.reg [o 0 d61 (.q (.mv s6)),
 o 1 d62 (.q (.bin .add s61 (.v (.int .i64 (.ofNat 1))))),
 o 2 d6 (.q (.mv s62))]))))))
 (.seq (.reg [o 0 d4 (.q (.mv (.v (.bool true))))])
 .ret)))))
 [.t p4]

noncomputable def f32 : FnE := .code 10
 (.seq (.reg [o 0 d4 (.q (.mv (.v .nils)))])
 (.seq (.reg [o 0 d5 (.q (.mv s0)),
 o 1 d6 (.q (.mv s0)),
 o 2 d7 (.q (.mv s1)),
 o 3 d8 (.call p58 [s6, s7]),
 o 4 d9 (.call p57 [s5, s8]),
 o 5 d4 (.q (.mv s9))])
 .ret))
 [.t p4]

noncomputable def f33 : FnE := .code 9
 (.seq (.reg [o 0 d2 (.q (.mv (.v .nils)))])
 (.seq (.reg [o 0 d3 (.q (.mv s0)),
 o 1 d4 (.q (.nck s3)),
 o 2 d5 (.q (.fadr s4 0)),
 o 3 d6 (.q (.ld1 s5)),
 o 4 d7 (.call p60 [s6]),
 o 5 d8 (.call p59 [s7, (.f 61)]),
 o 6 d2 (.q (.mv s8))])
 .ret))
 [.t p2]

noncomputable def f34 : FnE := .code 8
 (.seq (.reg [o 0 d2 (.q (.mv (.v .nils)))])
 (.seq (.seq (.reg [o 0 d3 (.q (.mv s0)),
 o 1 d4 (.q (.eqp .slice false s3 (.v .nils)))])
 (.cnd s4 (.seq (.reg [o 0 d2 (.q (.mv (.v .nils)))])
 .ret) .skip))
 (.seq (.reg [o 0 d5 (.e (.bsl [] [] 0 34)),
 o 1 d6 (.q (.mv s0)),
 o 2 d7 (.e (.app s5 s6 34 48 false)),
 o 3 d2 (.q (.mv s7))])
 .ret)))
 [.t p2]

noncomputable def f35 : FnE := .code 26
 (.seq (.reg [o 0 d3 (.e (.box s1 32)),
 o 1 d4 (.e (.alo [(.int .u32 (.ofNat 0)), .nils, .nils, (.int .u32 (.ofNat 0))])),
 o 2 d5 (.q (.mv (.v (.int .u64 (.ofNat 0))))),
 o 3 d6 (.q (.mv (.v (.bool false))))])
 (.seq (.rgd 0 [o 0 d10 (.q (.mv s0)),
 o 1 d11 (.q (.nck s10)),
 o 2 d12 (.q (.fadr s11 0)),
 o 3 d13 (.q (.ld1 s12)),
 o 4 d14 (.q (.ldn s3 32)),
 o 5 d15 (.q (.lkp s13 s14 (.cells (kk .u8 32)) (.agg [(.int .u32 (.ofNat 0)), .nils, .nils, (.int .u32 (.ofNat 0)), (.int .u64 (.ofNat 0)), (.int .i64 (.ofNat 0)), (.int .i64 (.ofNat 0))]) true)),
 o 6 d9 (.q (.mv s15)),
 o 7 d16 (.q (.ext s9 0)),
 o 8 d17 (.q (.ext s9 1)),
 ⟨9, d7, (.e (.alo [(.int .u32 (.ofNat 0)), .nils, .nils, (.int .u32 (.ofNat 0)), (.int .u64 (.ofNat 0)), (.int .i64 (.ofNat 0)), (.int .i64 (.ofNat 0))])), none, [(p13, .ld1 s12, none), (p14, .ldn s3 32, none), (p15, .lkp s13 s14 (.cells (kk .u8 32)) (.agg [(.int .u32 (.ofNat 0)), .nils, .nils, (.int .u32 (.ofNat 0)), (.int .u64 (.ofNat 0)), (.int .i64 (.ofNat 0)), (.int .i64 (.ofNat 0))]) true, none)]⟩,
 o 10 none (.e (.st s7 s16 7)),
 o 11 d8 (.q (.mv s17))])
 (.seq (.seq (.reg [o 0 d18 (.q (.mv s8)),
 o 1 d19 (.q (.not s18))])
 (.cnd s19 (.seq (.reg [o 0 d20 (.q (.bld [(.int .u32 (.ofNat 0)), .nils, .nils, (.int .u32 (.ofNat 0))] [])),
 o 1 none (.e (.st s4 s20 4)),
 o 2 d5 (.q (.mv (.v (.int .u64 (.ofNat 0))))),
 o 3 d6 (.q (.mv (.v (.bool false))))])
 .ret) .skip))
 (.seq (.rgd 0 [o 0 d21 (.q (.fadr s7 0)),
 o 1 d22 (.q (.ldn s21 4)),
 o 3 d24 (.q (.fadr s7 4)),
 o 4 d25 (.q (.ld1 s24)),
 ⟨2, d23, (.call p62 [s22]), none, [(p25, .ld1 s24, none)]⟩,
 ⟨5, none, (.e (.st s4 s23 4)), none, [(p25, .ld1 s24, none)]⟩,
 o 6 d5 (.q (.mv s25)),
 o 7 d6 (.q (.mv (.v (.bool true))))])
 .ret))))
 [.cn p4 4, .t p5, .t p6]

noncomputable def f36 : FnE := .code 8
 (.seq (.reg [o 0 d2 (.e (.alo (zz (.int .u8 (.ofNat 0)) 32)))])
 (.seq (.reg [o 0 d4 (.q (.mv s0)),
 o 1 d5 (.call p20 [s4]),
 o 2 d3 (.e (.alo (zz (.int .u8 (.ofNat 0)) 32))),
 o 3 none (.e (.st s3 s5 32))])
 (.seq (.reg [o 0 d6 (.q (.slca s3 none none 1 32)),
 o 1 d7 (.call p20 [s6]),
 o 2 none (.e (.st s2 s7 32))])
 .ret)))
 [.cn p2 32]

noncomputable def f37 : FnE := .code 81
 (.seq (.reg [o 0 d1 (.e (.box s0 4)),
 o 1 d2 (.q (.mv (.v .nils)))])
 (.seq (.rgd 0 [o 0 d7 (.q (.fadr s1 0)),
 o 1 d8 (.q (.ld1 s7)),
 o 3 d10 (.q (.fadr s1 1)),
 o 4 d11 (.q (.ld1 s10)),
 o 5 d12 (.q (.lenv s11)),
 o 6 d13 (.q (.cvi .u64 s12)),
 ⟨2, d9, (.call p64 [(.v .nils), s8]), none, [(p11, .ld1 s10, none)]⟩,
 o 7 d14 (.call p63 [s9, s13]),
 o 8 d3 (.q (.mv s14))])
 (.seq (.seq (.reg [o 0 d4 (.q (.mv (.v (.int .i64 (.ofNat 0)))))])
 (.blk 0 (.loop (.seq (.seq (.reg [o 0 d15 (.q (.mv s4)),
 o 1 d16 (.q (.fadr s1 1)),
 o 2 d17 (.q (.ld1 s16)),
 o 3 d18 (.q (.lenv s17)),
 o 4 d19 (.q (.bin .lss s15 s18))])
 (.cnd s19 .skip (.exit 0)))
 (.seq (.blk 1 (.seq (.reg [o 0 d22 (.q (.fadr s1 1)),
 o 1 d23 (.q (.ld1 s22)),
 o 2 d24 (.q (.mv s4)),
 o 3 d25 (.q (.iadr s23 s24 35)),
 o 4 d26 (.q (.ldn s25 35)),
 o 5 d5 (.e (.alo (lapp (zz (.int .u8 (.ofNat 0)) 32) [(.int .u32 (.ofNat 0)), .nils, (.int .u32 (.ofNat 0))]))),
 o 6 none (.e (.st s5 s26 35))])
 (.seq (.reg [o 0 d27 (.q (.mv s3)),
 o 1 d28 (.q (.fadr s5 0)),
 o 2 d29 (.q (.fadr s28 0)),
 o 3 d30 (.q (.slca s29 none none 1 32)),
 o 4 d31 (.e (.app s27 s30 1 1 false)),
 o 5 d3 (.q (.mv s31))])
 (.seq (.rgd 0 [o 0 d32 (.q (.mv s3)),
 o 1 d33 (.q (.fadr s5 0)),
 o 2 d34 (.q (.fadr s33 32)),
 o 3 d35 (.q (.ld1 s34)),
 o 5 d37 (.q (.fadr s5 33)),
 o 6 d38 (.q (.ld1 s37)),
 o 7 d39 (.q (.lenv s38)),
 o 8 d40 (.q (.cvi .u64 s39)),
 ⟨4, d36, (.call p64 [s32, s35]), none, [(p38, .ld1 s37, none)]⟩,
 o 9 d41 (.call p63 [s36, s40]),
 o 10 d3 (.q (.mv s41))])
 (.rgd 0 [o 0 d42 (.q (.mv s3)),
 o 1 d43 (.q (.fadr s5 33)),
 o 2 d44 (.q (.ld1 s43)),
 o 4 d46 (.q (.fadr s5 34)),
 o 5 d47 (.q (.ld1 s46)),
 ⟨3, d45, (.e (.app s42 s44 1 1 false)), none, [(p47, .ld1 s46, none)]⟩,
 o 6 d48 (.call p64 [s45, s47]),
 o 7 d3 (.q (.mv s48))])))))
 (.reg [o 0 d20 (.q (.mv s4)),
 o 1 d21 (.q (.bin .add s20 (.v (.int .i64 (.ofNat 1))))),
 o 2 d4 (.q (.mv s21))]))))))
 (.seq (.reg [o 0 d49 (.q (.mv s3)),
 o 1 d50 (.q (.fadr s1 2)),
 o 2 d51 (.q (.ld1 s50)),
 o 3 d52 (.q (.lenv s51)),
 o 4 d53 (.q (.cvi .u64 s52)),
 o 5 d54 (.call p63 [s49, s53]),
 o 6 d3 (.q (.mv s54))])
 (.seq (.seq (.reg [o 0 d6 (.q (.mv (.v (.int .i64 (.ofNat 0)))))])
 (.blk 2 (.loop (.seq (.seq (.reg [o 0 d55 (.q (.mv s6)),
 o 1 d56 (.q (.fadr s1 2)),
 o 2 d57 (.q (.ld1 s56)),
 o 3 d58 (.q (.lenv s57)),
 o 4 d59 (.q (.bin .lss s55 s58))])
 (.cnd s59 .skip (.exit 2)))
 (.seq (.blk 3 (.rgd 0 [o 0 d62 (.q (.mv s3)),
 o 1 d63 (.q (.fadr s1 2)),
 o 2 d64 (.q (.ld1 s63)),
 o 3 d65 (.q (.mv s6)),
 o 4 d66 (.q (.iadr s64 s65 33)),
 o 5 d67 (.q (.fadr s66 0)),
 o 6 d68 (.q (.ld1 s67)),
 o 8 d70 (.q (.fadr s1 2)),
 o 9 d71 (.q (.ld1 s70)),
 o 10 d72 (.q (.mv s6)),
 o 11 d73 (.q (.iadr s71 s72 33)),
 o 12 d74 (.q (.fadr s73 1)),
 o 13 d75 (.q (.slca s74 none none 1 32)),
 ⟨7, d69, (.call p65 [s62, s68]), none, [(p71, .ld1 s70, none), (p75, .slca s74 none none 1 32, none)]⟩,
 o 14 d76 (.e (.app s69 s75 1 1 false)),
 o 15 d3 (.q (.mv s76))]))
 (.reg [o 0 d60 (.q (.mv s6)),
 o 1 d61 (.q (.bin .add s60 (.v (.int .i64 (.ofNat 1))))),
 o 2 d6 (.q (.mv s61))]))))))
 (.seq (.reg [o 0 d77 (.q (.mv s3)),
 o 1 d78 (.q (.fadr s1 3)),
 o 2 d79 (.q (.ld1 s78)),
 o 3 d80 (.call p64 [s77, s79]),
 o 4 d2 (.q (.mv s80))])
 .ret))))))
 [.t p2]

noncomputable def f38 : FnE := .code 7
 (.seq (.reg [o 0 d2 (.e (.alo [(.int .i64 (.ofNat 0)), (.int .i64 (.ofNat 0)), (.int .u64 (.ofNat 0))]))])
 (.seq (.reg [o 0 d3 (.q (.mv s0)),
 o 1 d4 (.q (.nck s3)),
 o 2 d5 (.q (.fadr s4 3)),
 o 3 d6 (.q (.ldn s5 3)),
 o 4 none (.e (.st s2 s6 3))])
 .ret))
 [.cn p2 3]

noncomputable def f39 : FnE := .code 22
 (.seq (.reg [o 0 d2 (.q (.mv (.v .nils)))])
 (.seq (.reg [o 0 d5 (.q (.mv s0)),
 o 1 d6 (.q (.lenv s5)),
 o 2 d7 (.e (.mks (.v (.int .i64 (.ofNat 0))) s6 [(.int .u8 (.ofNat 0))] 1 1)),
 o 3 d3 (.q (.mv s7))])
 (.seq (.seq (.reg [o 0 d4 (.q (.mv (.v (.int .i64 (.ofNat 0)))))])
 (.blk 0 (.loop (.seq (.seq (.reg [o 0 d8 (.q (.mv s4)),
 o 1 d9 (.q (.mv s0)),
 o 2 d10 (.q (.lenv s9)),
 o 3 d11 (.q (.bin .lss s8 s10))])
 (.cnd s11 .skip (.exit 0)))
 (.seq (.blk 1 (.reg [o 0 d14 (.q (.mv s3)),
 o 1 d15 (.q (.mv s0)),
 o 2 d16 (.q (.mv s4)),
 o 3 d17 (.q (.iadr s15 s16 1)),
 o 4 d18 (.q (.ld1 s17)),
 o 5 d19 (.e (.bsl [(.int .u8 (.ofNat 0))] [(0, 1, s18)] 1 1)),
 o 6 d20 (.e (.app s14 s19 1 1 false)),
 o 7 d3 (.q (.mv s20))]))
 (.reg [o 0 d12 (.q (.mv s4)),
 o 1 d13 (.q (.bin .add s12 (.v (.int .i64 (.ofNat 1))))),
 o 2 d4 (.q (.mv s13))]))))))
 (.seq (.reg [o 0 d21 (.q (.mv s3)),
 o 1 d2 (.q (.mv s21))])
 .ret))))
 [.t p2]

noncomputable def f40 : FnE := .code 2
 (.seq (.reg [o 0 d0 (.q (.mv (.v .nils)))])
 (.seq (.reg [o 0 d1 (.e (.bsl (zz (.int .u32 (.ofNat 0)) 64) [(0, 1, (.v (.int .u32 (.ofNat 1116352408)))), (1, 1, (.v (.int .u32 (.ofNat 1899447441)))), (2, 1, (.v (.int .u32 (.ofNat 3049323471)))), (3, 1, (.v (.int .u32 (.ofNat 3921009573)))), (4, 1, (.v (.int .u32 (.ofNat 961987163)))), (5, 1, (.v (.int .u32 (.ofNat 1508970993)))), (6, 1, (.v (.int .u32 (.ofNat 2453635748)))), (7, 1, (.v (.int .u32 (.ofNat 2870763221)))), (8, 1, (.v (.int .u32 (.ofNat 3624381080)))), (9, 1, (.v (.int .u32 (.ofNat 310598401)))), (10, 1, (.v (.int .u32 (.ofNat 607225278)))), (11, 1, (.v (.int .u32 (.ofNat 1426881987)))), (12, 1, (.v (.int .u32 (.ofNat 1925078388)))), (13, 1, (.v (.int .u32 (.ofNat 2162078206)))), (14, 1, (.v (.int .u32 (.ofNat 2614888103)))), (15, 1, (.v (.int .u32 (.ofNat 3248222580)))), (16, 1, (.v (.int .u32 (.ofNat 3835390401)))), (17, 1, (.v (.int .u32 (.ofNat 4022224774)))), (18, 1, (.v (.int .u32 (.ofNat 264347078)))), (19, 1, (.v (.int .u32 (.ofNat 604807628)))), (20, 1, (.v (.int .u32 (.ofNat 770255983)))), (21, 1, (.v (.int .u32 (.ofNat 1249150122)))), (22, 1, (.v (.int .u32 (.ofNat 1555081692)))), (23, 1, (.v (.int .u32 (.ofNat 1996064986)))), (24, 1, (.v (.int .u32 (.ofNat 2554220882)))), (25, 1, (.v (.int .u32 (.ofNat 2821834349)))), (26, 1, (.v (.int .u32 (.ofNat 2952996808)))), (27, 1, (.v (.int .u32 (.ofNat 3210313671)))), (28, 1, (.v (.int .u32 (.ofNat 3336571891)))), (29, 1, (.v (.int .u32 (.ofNat 3584528711)))), (30, 1, (.v (.int .u32 (.ofNat 113926993)))), (31, 1, (.v (.int .u32 (.ofNat 338241895)))), (32, 1, (.v (.int .u32 (.ofNat 666307205)))), (33, 1, (.v (.int .u32 (.ofNat 773529912)))), (34, 1, (.v (.int .u32 (.ofNat 1294757372)))), (35, 1, (.v (.int .u32 (.ofNat 1396182291)))), (36, 1, (.v (.int .u32 (.ofNat 1695183700)))), (37, 1, (.v (.int .u32 (.ofNat 1986661051)))), (38, 1, (.v (.int .u32 (.ofNat 2177026350)))), (39, 1, (.v (.int .u32 (.ofNat 2456956037)))), (40, 1, (.v (.int .u32 (.ofNat 2730485921)))), (41, 1, (.v (.int .u32 (.ofNat 2820302411)))), (42, 1, (.v (.int .u32 (.ofNat 3259730800)))), (43, 1, (.v (.int .u32 (.ofNat 3345764771)))), (44, 1, (.v (.int .u32 (.ofNat 3516065817)))), (45, 1, (.v (.int .u32 (.ofNat 3600352804)))), (46, 1, (.v (.int .u32 (.ofNat 4094571909)))), (47, 1, (.v (.int .u32 (.ofNat 275423344)))), (48, 1, (.v (.int .u32 (.ofNat 430227734)))), (49, 1, (.v (.int .u32 (.ofNat 506948616)))), (50, 1, (.v (.int .u32 (.ofNat 659060556)))), (51, 1, (.v (.int .u32 (.ofNat 883997877)))), (52, 1, (.v (.int .u32 (.ofNat 958139571)))), (53, 1, (.v (.int .u32 (.ofNat 1322822218)))), (54, 1, (.v (.int .u32 (.ofNat 1537002063)))), (55, 1, (.v (.int .u32 (.ofNat 1747873779)))), (56, 1, (.v (.int .u32 (.ofNat 1955562222)))), (57, 1, (.v (.int .u32 (.ofNat 2024104815)))), (58, 1, (.v (.int .u32 (.ofNat 2227730452)))), (59, 1, (.v (.int .u32 (.ofNat 2361852424)))), (60, 1, (.v (.int .u32 (.ofNat 2428436474)))), (61, 1, (.v (.int .u32 (.ofNat 2756734187)))), (62, 1, (.v (.int .u32 (.ofNat 3204031479)))), (63, 1, (.v (.int .u32 (.ofNat 3329325298))))] 64 1)),
 o 1 d0 (.q (.mv s1))])
 .ret))
 [.t p0]

noncomputable def f41 : FnE := .code 13
 (.seq (.reg [o 0 d4 (.q (.mv (.v (.int .u32 (.ofNat 0)))))])
 (.seq (.reg [o 0 d5 (.q (.mv s0)),
 o 1 d6 (.q (.mv s1)),
 o 2 d7 (.q (.shf false s5 s6)),
 o 3 d8 (.q (.mv s0)),
 o 4 d9 (.q (.mv s1)),
 o 5 d10 (.q (.bin .sub (.v (.int .u64 (.ofNat 32))) s9)),
 o 6 d11 (.q (.shf true s8 s10)),
 o 7 d12 (.q (.bin .or s7 s11)),
 o 8 d4 (.q (.mv s12))])
 .ret))
 [.t p4]

noncomputable def f42 : FnE := .code 91
 (.seq (.reg [o 0 d7 (.e (.box s2 4)),
 o 1 d8 (.e (.box s3 2)),
 o 2 d9 (.e (.box s4 9)),
 o 3 d10 (.q (.mv (.v (.int .u64 (.ofNat 0))))),
 o 4 d11 (.q (.mv (.v .nili)))])
 (.seq (.seq (.reg [o 0 d23 (.q (.ldn s7 4)),
 o 1 d24 (.call p66 [s23]),
 o 2 d12 (.q (.mv s24))])
 (.seq (.reg [o 0 d25 (.q (.mv s12)),
 o 1 d26 (.q (.eqp (.iface true) true s25 (.v .nili)))])
 (.cnd s26 (.seq (.reg [o 0 d27 (.q (.mv s12)),
 o 1 d10 (.q (.mv (.v (.int .u64 (.ofNat 0))))),
 o 2 d11 (.q (.mv s27))])
 .ret) .skip)))
 (.seq (.seq (.reg [o 0 d28 (.q (.ldn s7 4)),
 o 1 d29 (.call p67 [s28])])
 (.cnd s29 (.seq (.rgd 0 [o 0 d30 (.q (.ld1 (.g p4))),
 o 1 d10 (.q (.mv (.v (.int .u64 (.ofNat 0))))),
 o 2 d11 (.q (.mv s30))])
 .ret) .skip))
 (.seq (.seq (.reg [o 0 d32 (.q (.mv s0)),
 o 1 d33 (.q (.ldn s7 4)),
 o 2 d34 (.call p26 [s33]),
 o 3 d35 (.call p35 [s32, s34]),
 o 4 d31 (.q (.mv s35)),
 o 5 d36 (.q (.ext s31 0)),
 o 6 d37 (.q (.ext s31 1)),
 o 7 d38 (.q (.ext s31 2)),
 o 8 d13 (.e (.alo [(.int .u32 (.ofNat 0)), .nils, .nils, (.int .u32 (.ofNat 0))])),
 o 9 none (.e (.st s13 s36 4)),
 o 10 d14 (.q (.mv s37)),
 o 11 d15 (.q (.mv s38))])
 (.seq (.reg [o 0 d39 (.q (.mv s15))])
 (.cnd s39 (.seq (.rgd 0 [o 0 d40 (.q (.ld1 (.g p5))),
 o 1 d10 (.q (.mv (.v (.int .u64 (.ofNat 0))))),
 o 2 d11 (.q (.mv s40))])
 .ret) .skip)))
 (.seq (.seq (.reg [o 0 d41 (.q (.fadr s7 1)),
 o 1 d42 (.q (.ld1 s41)),
 o 2 d43 (.q (.lenv s42)),
 o 3 d44 (.q (.mv (.v (.int .i64 (.ofNat 0)))))])
 (.blk 0 (.loop (.seq (.reg [o 0 d45 (.q (.bin .lss s44 s43))])
 (.seq (.cnd s45 .skip (.exit 0))
 (.seq (.blk 1 (.seq (.reg [o 0 d46 (.q (.mv s44)),
 o 1 d47 (.q (.iadr s42 s44 35)),
 o 2 d48 (.q (.ldn s47 35)),
 o 3 d17 (.e (.alo (lapp (zz (.int .u8 (.ofNat 0)) 32) [(.int .u32 (.ofNat 0)), .nils, (.int .u32 (.ofNat 0))]))),
 o 4 d16 (.q (.mv s46)),
 o 5 none (.e (.st s17 s48 35))])
 (.seq (.reg [o 0 d50 (.q (.mv s0)),
 o 1 d51 (.q (.fadr s17 0)),
 o 2 d52 (.q (.ldn s51 33)),
 o 3 d53 (.call p68 [s50, s52]),
 o 4 d49 (.q (.mv s53)),
 o 5 d54 (.q (.ext s49 0)),
 o 6 d55 (.q (.ext s49 1)),
 o 7 d18 (.e (.alo (zz (.int .u8 (.ofNat 0)) 32))),
 o 8 none (.e (.st s18 s54 32)),
 o 9 d19 (.q (.mv s55))])
 (.seq (.reg [o 0 d56 (.q (.mv s19))])
 (.cnd s56 (.seq (.rgd 0 [o 0 d57 (.q (.mv s16)),
 o 1 d58 (.q (.ld1 (.g p6))),
 o 2 d59 (.q (.bld [(.int .i64 (.ofNat 0)), .nili] [(0, 1, s57), (1, 1, s58)])),
 o 5 d10 (.q (.mv (.v (.int .u64 (.ofNat 0))))),
 o 3 d60 (.e (.box s59 2)),
 o 4 d61 (.q (.mki 147 s60)),
 o 6 d11 (.q (.mv s61))])
 .ret) .skip)))))
 (.reg [o 0 d62 (.q (.bin .add s44 (.v (.int .i64 (.ofNat 1))))),
 o 1 d44 (.q (.mv s62))])))))))
 (.seq (.reg [o 0 d64 (.q (.ldn s7 4)),
 o 1 d65 (.q (.mv s0)),
 o 2 d66 (.q (.mv s1)),
 o 3 d67 (.q (.fadr s8 0)),
 o 4 d68 (.q (.ld1 s67)),
 o 5 d69 (.q (.bld [.nilp, .nilp, (.int .i64 (.ofNat 0))] [(0, 1, s65), (1, 1, s66), (2, 1, s68)])),
 o 6 d70 (.q (.mki 152 s69)),
 o 7 d71 (.q (.fadr s8 0)),
 o 8 d72 (.q (.ld1 s71)),
 o 9 d73 (.q (.fadr s8 1)),
 o 10 d74 (.q (.ld1 s73)),
 o 11 d75 (.q (.fadr s9 1)),
 o 12 d76 (.q (.ld1 s75)),
 o 13 d77 (.call p69 [s64, s70, s72, s74, s76]),
 o 14 d63 (.q (.mv s77)),
 o 15 d78 (.q (.ext s63 0)),
 o 16 d79 (.q (.ext s63 1)),
 o 17 d20 (.q (.mv s78)),
 o 18 d21 (.q (.mv s79))])
 (.seq (.seq (.reg [o 0 d80 (.q (.mv s21)),
 o 1 d81 (.q (.eqp (.iface true) true s80 (.v .nili)))])
 (.cnd s81 (.seq (.reg [o 0 d82 (.q (.mv s21)),
 o 1 d10 (.q (.mv (.v (.int .u64 (.ofNat 0))))),
 o 2 d11 (.q (.mv s82))])
 .ret) .skip))
 (.seq (.seq (.reg [o 0 d83 (.q (.mv s0)),
 o 1 d84 (.q (.ldn s7 4)),
 o 2 d85 (.q (.ldn s9 9)),
 o 3 d86 (.call p70 [s83, s84, s85]),
 o 4 d22 (.q (.mv s86))])
 (.seq (.reg [o 0 d87 (.q (.mv s22)),
 o 1 d88 (.q (.eqp (.iface true) true s87 (.v .nili)))])
 (.cnd s88 (.seq (.reg [o 0 d89 (.q (.mv s22)),
 o 1 d10 (.q (.mv (.v (.int .u64 (.ofNat 0))))),
 o 2 d11 (.q (.mv s89))])
 .ret) .skip)))
 (.seq (.reg [o 0 d90 (.q (.mv s20)),
 o 1 d10 (.q (.mv s90)),
 o 2 d11 (.q (.mv (.v .nili)))])
 .ret)))))))))
 [.t p10, .t p11]

noncomputable def f43 : FnE := .code 129
 (.seq (.reg [o 0 d4 (.e (.box s1 4)),
 o 1 d6 (.q (.mv (.v .nili)))])
 (.seq (.reg [o 0 d20 (.q (.ldn s4 4)),
 o 1 d21 (.call p26 [s20]),
 o 2 d7 (.e (.alo (zz (.int .u8 (.ofNat 0)) 32))),
 o 3 none (.e (.st s7 s21 32))])
 (.seq (.seq (.rgd 0 [o 0 d23 (.q (.mv s0)),
 o 1 d24 (.q (.nck s23)),
 o 2 d25 (.q (.fadr s24 0)),
 o 3 d26 (.q (.ld1 s25)),
 o 4 d27 (.q (.ldn s7 32)),
 o 5 d28 (.q (.lkp s26 s27 (.cells (kk .u8 32)) (.agg [(.int .u32 (.ofNat 0)), .nils, .nils, (.int .u32 (.ofNat 0)), (.int .u64 (.ofNat 0)), (.int .i64 (.ofNat 0)), (.int .i64 (.ofNat 0))]) true)),
 o 6 d22 (.q (.mv s28)),
 o 7 d29 (.q (.ext s22 0)),
 o 8 d30 (.q (.ext s22 1)),
 ⟨9, d8, (.e (.alo [(.int .u32 (.ofNat 0)), .nils, .nils, (.int .u32 (.ofNat 0)), (.int .u64 (.ofNat 0)), (.int .i64 (.ofNat 0)), (.int .i64 (.ofNat 0))])), none, [(p26, .ld1 s25, none), (p27, .ldn s7 32, none), (p28, .lkp s26 s27 (.cells (kk .u8 32)) (.agg [(.int .u32 (.ofNat 0)), .nils, .nils, (.int .u32 (.ofNat 0)), (.int .u64 (.ofNat 0)), (.int .i64 (.ofNat 0)), (.int .i64 (.ofNat 0))]) true, none)]⟩,
 o 10 none (.e (.st s8 s29 7)),
 o 11 d9 (.q (.mv s30))])
 (.seq (.reg [o 0 d31 (.q (.mv s9))])
 (.cnd s31 (.seq (.reg [o 0 d32 (.q (.ld1 (.g p5))),
 o 1 d6 (.q (.mv s32))])
 .ret) .skip)))
 (.seq (.seq (.reg [o 0 d33 (.q (.fadr s4 1)),
 o 1 d34 (.q (.ld1 s33)),
 o 2 d35 (.q (.lenv s34)),
 o 3 d36 (.q (.mv (.v (.int .i64 (.ofNat 0)))))])
 (.blk 0 (.loop (.seq (.reg [o 0 d37 (.q (.bin .lss s36 s35))])
 (.seq (.cnd s37 .skip (.exit 0))
 (.seq (.blk 1 (.seq (.reg [o 0 d38 (.q (.iadr s34 s36 35)),
 o 1 d39 (.q (.ldn s38 35)),
 o 2 d11 (.e (.alo (lapp (zz (.int .u8 (.ofNat 0)) 32) [(.int .u32 (.ofNat 0)), .nils, (.int .u32 (.ofNat 0))]))),
 o 3 none (.e (.st s11 s39 35))])
 (.seq (.rgd 0 [o 0 d41 (.q (.mv s0)),
 o 1 d42 (.q (.nck s41)),
 o 2 d43 (.q (.fadr s42 1)),
 o 3 d44 (.q (.ld1 s43)),
 o 4 d45 (.q (.fadr s11 0)),
 o 5 d46 (.q (.ldn s45 33)),
 o 6 d47 (.q (.lkp s44 s46 (.cells [.u8, .u8, .u8, .u8, .u8, .u8, .u8, .u8, .u8, .u8, .u8, .u8, .u8, .u8, .u8, .u8, .u8, .u8, .u8, .u8, .u8, .u8, .u8, .u8, .u8, .u8, .u8, .u8, .u8, .u8, .u8, .u8, .u32]) (.agg (zz (.int .u8 (.ofNat 0)) 32)) true)),
 o 7 d40 (.q (.mv s47)),
 o 8 d48 (.q (.ext s40 0)),
 o 9 d49 (.q (.ext s40 1)),
 ⟨10, d12, (.e (.alo (zz (.int .u8 (.ofNat 0)) 32))), none, [(p44, .ld1 s43, none), (p46, .ldn s45 33, none), (p47, .lkp s44 s46 (.cells [.u8, .u8, .u8, .u8, .u8, .u8, .u8, .u8, .u8, .u8, .u8, .u8, .u8, .u8, .u8, .u8, .u8, .u8, .u8, .u8, .u8, .u8, .u8, .u8, .u8, .u8, .u8, .u8, .u8, .u8, .u8, .u8, .u32]) (.agg (zz (.int .u8 (.ofNat 0)) 32)) true, none)]⟩,
 o 11 none (.e (.st s12 s48 32)),
 o 12 d13 (.q (.mv s49))])
 (.seq (.reg [o 0 d50 (.q (.mv s13))])
 (.cnd s50 (.seq (.reg [o 0 d51 (.q (.ld1 (.g p6))),
 o 1 d6 (.q (.mv s51))])
 .ret) .skip)))))
 (.reg [o 0 d52 (.q (.bin .add s36 (.v (.int .i64 (.ofNat 1))))),
 o 1 d36 (.q (.mv s52))])))))))
 (.seq (.seq (.reg [o 0 d53 (.q (.fadr s4 2)),
 o 1 d54 (.q (.ld1 s53)),
 o 2 d55 (.q (.lenv s54)),
 o 3 d56 (.q (.mv (.v (.int .i64 (.ofNat 0)))))])
 (.blk 2 (.loop (.seq (.reg [o 0 d57 (.q (.bin .lss s56 s55))])
 (.seq (.cnd s57 .skip (.exit 2))
 (.seq (.blk 3 (.seq (.reg [o 0 d58 (.q (.mv s56)),
 o 1 d14 (.q (.mv s58))])
 (.seq (.reg [o 0 d60 (.q (.mv s0)),
 o 1 d61 (.q (.ldn s7 32)),
 o 2 d62 (.q (.mv s14)),
 o 3 d63 (.call p71 [s60, s61, s62]),
 o 4 d59 (.q (.mv s63)),
 o 5 d64 (.q (.ext s59 0)),
 o 6 d65 (.q (.ext s59 1)),
 o 7 d15 (.e (.alo (zz (.int .u8 (.ofNat 0)) 32))),
 o 8 none (.e (.st s15 s64 32)),
 o 9 d16 (.q (.mv s65))])
 (.seq (.reg [o 0 d66 (.q (.mv s16))])
 (.cnd s66 (.seq (.reg [o 0 d67 (.q (.ld1 (.g p7))),
 o 1 d6 (.q (.mv s67))])
 .ret) .skip)))))
 (.reg [o 0 d68 (.q (.bin .add s56 (.v (.int .i64 (.ofNat 1))))),
 o 1 d56 (.q (.mv s68))])))))))
 (.seq (.seq (.reg [o 0 d69 (.q (.mv s0)),
 o 1 d70 (.q (.nck s69)),
 o 2 d71 (.q (.fadr s70 0)),
 o 3 d72 (.q (.ld1 s71)),
 o 4 d73 (.q (.eqp .map false s72 (.v .nilm)))])
 (.cnd s73 (.reg [o 0 d74 (.q (.mv s0)),
 o 1 d75 (.q (.mv s0)),
 o 2 d76 (.e (.mkm (.cells (kk .u8 32)))),
 o 3 d77 (.e (.mkm (.cells [.u8, .u8, .u8, .u8, .u8, .u8, .u8, .u8, .u8, .u8, .u8, .u8, .u8, .u8, .u8, .u8, .u8, .u8, .u8, .u8, .u8, .u8, .u8, .u8, .u8, .u8, .u8, .u8, .u8, .u8, .u8, .u8, .u32]))),
 o 4 d78 (.q (.nck s74)),
 o 5 d79 (.q (.fadr s78 0)),
 o 6 none (.e (.st s79 s76 1)),
 o 7 d80 (.q (.nck s75)),
 o 8 d81 (.q (.fadr s80 1)),
 o 9 none (.e (.st s81 s77 1))]) .skip))
 (.seq (.rgd 1 [o 0 d82 (.q (.ldn s4 4)),
 o 2 d84 (.q (.mv s2)),
 o 3 d85 (.q (.ldn s4 4)),
 o 5 d87 (.q (.mv s0)),
 o 6 d88 (.q (.nck s87)),
 o 7 d89 (.q (.fadr s88 2)),
 o 8 d90 (.q (.ld1 s89)),
 ⟨1, d83, (.call p62 [s82]), none, [(p85, .ldn s4 4, none), (p90, .ld1 s89, none)]⟩,
 ⟨4, d86, (.call p72 [s85]), none, [(p90, .ld1 s89, none)]⟩,
 o 9 d91 (.q (.bld [(.int .u32 (.ofNat 0)), .nils, .nils, (.int .u32 (.ofNat 0)), (.int .u64 (.ofNat 0)), (.int .i64 (.ofNat 0)), (.int .i64 (.ofNat 0))] [(0, 4, s83), (4, 1, s84), (5, 1, s86), (6, 1, s90)])),
 ⟨10, d17, (.l (.alo [(.int .u32 (.ofNat 0)), .nils, .nils, (.int .u32 (.ofNat 0)), (.int .u64 (.ofNat 0)), (.int .i64 (.ofNat 0)), (.int .i64 (.ofNat 0))]) 0), none, [(p82, .ldn s4 4, none), (p85, .ldn s4 4, none), (p90, .ld1 s89, none)]⟩,
 o 11 none (.e (.st s17 s91 7))])
 (.seq (.rgd 0 [o 0 d92 (.q (.mv s0)),
 o 1 d93 (.q (.nck s92)),
 o 2 d94 (.q (.fadr s93 0)),
 o 3 d95 (.q (.ld1 s94)),
 o 4 d96 (.q (.ldn s7 32)),
 o 5 d97 (.q (.ldn s17 7)),
 o 6 none (.e (.mup s95 s96 s97 (.cells (kk .u8 32))))])
 (.seq (.reg [o 0 d98 (.q (.mv s0)),
 o 1 d99 (.q (.nck s98)),
 o 2 d100 (.q (.fadr s99 2)),
 o 3 d101 (.q (.ld1 s100)),
 o 4 d102 (.q (.bin .add s101 (.v (.int .i64 (.ofNat 1))))),
 o 5 d103 (.q (.nck s98)),
 o 6 d104 (.q (.fadr s103 2)),
 o 7 none (.e (.st s104 s102 1))])
 (.seq (.seq (.reg [o 0 d105 (.q (.fadr s4 1)),
 o 1 d106 (.q (.ld1 s105)),
 o 2 d107 (.q (.lenv s106)),
 o 3 d108 (.q (.mv (.v (.int .i64 (.ofNat 0)))))])
 (.blk 4 (.loop (.seq (.reg [o 0 d109 (.q (.bin .lss s108 s107))])
 (.seq (.cnd s109 .skip (.exit 4))
 (.seq (.blk 5 (.seq (.reg [o 0 d110 (.q (.iadr s106 s108 35)),
 o 1 d111 (.q (.ldn s110 35)),
 o 2 d19 (.e (.alo (lapp (zz (.int .u8 (.ofNat 0)) 32) [(.int .u32 (.ofNat 0)), .nils, (.int .u32 (.ofNat 0))]))),
 o 3 none (.e (.st s19 s111 35))])
 (.rgd 0 [o 0 d112 (.q (.mv s0)),
 o 1 d113 (.q (.nck s112)),
 o 2 d114 (.q (.fadr s113 1)),
 o 3 d115 (.q (.ld1 s114)),
 o 4 d116 (.q (.fadr s19 0)),
 o 5 d117 (.q (.ldn s116 33)),
 o 6 d118 (.q (.ldn s7 32)),
 o 7 none (.e (.mup s115 s117 s118 (.cells [.u8, .u8, .u8, .u8, .u8, .u8, .u8, .u8, .u8, .u8, .u8, .u8, .u8, .u8, .u8, .u8, .u8, .u8, .u8, .u8, .u8, .u8, .u8, .u8, .u8, .u8, .u8, .u8, .u8, .u8, .u8, .u8, .u32])))])))
 (.reg [o 0 d119 (.q (.bin .add s108 (.v (.int .i64 (.ofNat 1))))),
 o 1 d108 (.q (.mv s119))])))))))
 (.seq (.rgd 0 [o 0 d120 (.q (.mv s0)),
 o 1 d121 (.q (.mv s0)),
 o 2 d122 (.q (.nck s121)),
 o 3 d123 (.q (.fadr s122 3)),
 o 4 d124 (.q (.ldn s123 3)),
 o 5 d125 (.q (.ldn s17 7)),
 o 6 d126 (.call p73 [s124, s125, (.v (.int .i64 (.ofNat 1)))]),
 o 7 d127 (.q (.nck s120)),
 o 8 d128 (.q (.fadr s127 3)),
 o 9 none (.e (.st s128 s126 3))])
 (.seq (.reg [o 0 d6 (.q (.mv (.v .nili)))])
 .ret))))))))))))
 [.t p6]

noncomputable def f44 : FnE := .code 19
 (.seq (.reg [o 0 d3 (.e (.box s1 32)),
 o 1 d4 (.q (.mv (.v (.int .i64 (.ofNat 0)))))])
 (.seq (.seq (.reg [o 0 d6 (.q (.mv s0)),
 o 1 d7 (.q (.lenv s6)),
 o 2 d8 (.q (.mv (.v (.int .i64 (.ofNat 0)))))])
 (.blk 0 (.loop (.seq (.reg [o 0 d9 (.q (.bin .lss s8 s7))])
 (.seq (.cnd s9 .skip (.exit 0))
 (.seq (.blk 1 (.seq (.reg [o 0 d10 (.q (.mv s8)),
 o 1 d5 (.q (.mv s10))])
 (.seq (.rgd 0 [o 0 d11 (.q (.ldn s3 32)),
 o 1 d12 (.q (.mv s0)),
 o 2 d13 (.q (.mv s5)),
 o 3 d14 (.q (.iadr s12 s13 32)),
 o 4 d15 (.q (.ldn s14 32)),
 o 5 d16 (.q (.eqa false (kk .u8 32) s11 s15))])
 (.cnd s16 (.seq (.reg [o 0 d17 (.q (.mv s5)),
 o 1 d4 (.q (.mv s17))])
 .ret) .skip))))
 (.reg [o 0 d18 (.q (.bin .add s8 (.v (.int .i64 (.ofNat 1))))),
 o 1 d8 (.q (.mv s18))])))))))
 (.seq (.reg [o 0 d4 (.q (.mv (.v (.int .i64 (.negSucc 0)))))])
 .ret)))
 [.t p4]

noncomputable def f45 : FnE := .code 34
 (.seq (.reg [o 0 d4 (.q (.mv (.v .nils)))])
 (.seq (.reg [o 0 d5 (.q (.mv (.v .nils)))])
 (.seq (.blk 0 (.loop (.seq (.seq (.reg [o 0 d10 (.q (.mv s0)),
 o 1 d11 (.call p38 [s10]),
 o 2 d12 (.q (.fld s11 1 1 false)),
 o 3 d13 (.q (.mv s1)),
 o 4 d14 (.q (.bin .gtr s12 s13))])
 (.cnd s14 .skip (.exit 0)))
 (.blk 1 (.seq (.reg [o 0 d16 (.q (.mv s0)),
 o 1 d17 (.call p74 [s16]),
 o 2 d15 (.q (.mv s17)),
 o 3 d18 (.q (.ext s15 0)),
 o 4 d19 (.q (.ext s15 1)),
 o 5 d6 (.e (.alo (zz (.int .u8 (.ofNat 0)) 32))),
 o 6 none (.e (.st s6 s18 32)),
 o 7 d7 (.q (.mv s19))])
 (.seq (.seq (.reg [o 0 d20 (.q (.mv s7)),
 o 1 d21 (.q (.not s20))])
 (.cnd s21 (.exit 0) .skip))
 (.seq (.reg [o 0 d23 (.q (.mv s0)),
 o 1 d24 (.q (.ldn s6 32)),
 o 2 d25 (.call p75 [s23, s24]),
 o 3 d22 (.q (.mv s25)),
 o 4 d26 (.q (.ext s22 0)),
 o 5 d27 (.q (.ext s22 1)),
 o 6 d8 (.q (.mv s26)),
 o 7 d9 (.q (.mv s27))])
 (.seq (.seq (.reg [o 0 d28 (.q (.mv s9)),
 o 1 d29 (.q (.eqp (.iface true) true s28 (.v .nili)))])
 (.cnd s29 (.exit 0) .skip))
 (.reg [o 0 d30 (.q (.mv s5)),
 o 1 d31 (.q (.mv s8)),
 o 2 d32 (.e (.app s30 s31 4 64 false)),
 o 3 d5 (.q (.mv s32))])))))))))
 (.seq (.reg [o 0 d33 (.q (.mv s5)),
 o 1 d4 (.q (.mv s33))])
 .ret))))
 [.t p4]

noncomputable def f46 : FnE := .code 8
 (.seq (.reg [o 0 d2 (.e (.alo (zz (.int .u8 (.ofNat 0)) 32)))])
 (.seq (.reg [o 0 d4 (.q (.mv s0)),
 o 1 d5 (.call p76 [s4]),
 o 2 d3 (.e (.alo (zz (.int .u8 (.ofNat 0)) 32))),
 o 3 none (.e (.st s3 s5 32))])
 (.seq (.reg [o 0 d6 (.q (.slca s3 none none 1 32)),
 o 1 d7 (.call p76 [s6]),
 o 2 none (.e (.st s2 s7 32))])
 .ret)))
 [.cn p2 32]

noncomputable def f47 : FnE := .code 72
 (.seq (.reg [o 0 d1 (.e (.box s0 4)),
 o 1 d2 (.q (.mv (.v .nils)))])
 (.seq (.reg [o 0 d8 (.q (.fadr s1 0)),
 o 1 d9 (.q (.ld1 s8)),
 o 2 d10 (.call p77 [(.v .nils), s9]),
 o 3 d3 (.q (.mv s10))])
 (.seq (.reg [o 0 d11 (.q (.mv s3)),
 o 1 d12 (.q (.fadr s1 1)),
 o 2 d13 (.q (.ld1 s12)),
 o 3 d14 (.q (.lenv s13)),
 o 4 d15 (.q (.cvi .u64 s14)),
 o 5 d16 (.call p78 [s11, s15]),
 o 6 d3 (.q (.mv s16))])
 (.seq (.seq (.reg [o 0 d17 (.q (.fadr s1 1)),
 o 1 d18 (.q (.ld1 s17)),
 o 2 d19 (.q (.lenv s18)),
 o 3 d20 (.q (.mv (.v (.int .i64 (.ofNat 0)))))])
 (.blk 0 (.loop (.seq (.reg [o 0 d21 (.q (.bin .lss s20 s19))])
 (.seq (.cnd s21 .skip (.exit 0))
 (.seq (.blk 1 (.seq (.reg [o 0 d22 (.q (.iadr s18 s20 35)),
 o 1 d23 (.q (.ldn s22 35)),
 o 2 d5 (.e (.alo (lapp (zz (.int .u8 (.ofNat 0)) 32) [(.int .u32 (.ofNat 0)), .nils, (.int .u32 (.ofNat 0))]))),
 o 3 none (.e (.st s5 s23 35))])
 (.seq (.rgd 0 [o 0 d24 (.q (.mv s3)),
 o 1 d25 (.q (.fadr s5 0)),
 o 2 d26 (.q (.fadr s25 0)),
 o 3 d27 (.q (.slca s26 none none 1 32)),
 o 5 d29 (.q (.fadr s5 0)),
 o 6 d30 (.q (.fadr s29 32)),
 o 7 d31 (.q (.ld1 s30)),
 ⟨4, d28, (.e (.app s24 s27 1 1 false)), none, [(p31, .ld1 s30, none)]⟩,
 o 8 d32 (.call p77 [s28, s31]),
 o 9 d3 (.q (.mv s32))])
 (.seq (.rgd 0 [o 0 d33 (.q (.mv s3)),
 o 1 d34 (.q (.fadr s5 33)),
 o 2 d35 (.q (.ld1 s34)),
 o 3 d36 (.q (.lenv s35)),
 o 4 d37 (.q (.cvi .u64 s36)),
 o 6 d39 (.q (.fadr s5 33)),
 o 7 d40 (.q (.ld1 s39)),
 ⟨5, d38, (.call p78 [s33, s37]), none, [(p40, .ld1 s39, none)]⟩,
 o 8 d41 (.e (.app s38 s40 1 1 false)),
 o 9 d3 (.q (.mv s41))])
 (.reg [o 0 d42 (.q (.mv s3)),
 o 1 d43 (.q (.fadr s5 34)),
 o 2 d44 (.q (.ld1 s43)),
 o 3 d45 (.call p77 [s42, s44]),
 o 4 d3 (.q (.mv s45))])))))
 (.reg [o 0 d46 (.q (.bin .add s20 (.v (.int .i64 (.ofNat 1))))),
 o 1 d20 (.q (.mv s46))])))))))
 (.seq (.reg [o 0 d47 (.q (.mv s3)),
 o 1 d48 (.q (.fadr s1 2)),
 o 2 d49 (.q (.ld1 s48)),
 o 3 d50 (.q (.lenv s49)),
 o 4 d51 (.q (.cvi .u64 s50)),
 o 5 d52 (.call p78 [s47, s51]),
 o 6 d3 (.q (.mv s52))])
 (.seq (.seq (.reg [o 0 d53 (.q (.fadr s1 2)),
 o 1 d54 (.q (.ld1 s53)),
 o 2 d55 (.q (.lenv s54)),
 o 3 d56 (.q (.mv (.v (.int .i64 (.ofNat 0)))))])
 (.blk 2 (.loop (.seq (.reg [o 0 d57 (.q (.bin .lss s56 s55))])
 (.seq (.cnd s57 .skip (.exit 2))
 (.seq (.blk 3 (.seq (.reg [o 0 d58 (.q (.iadr s54 s56 33)),
 o 1 d59 (.q (.ldn s58 33)),
 o 2 d7 (.e (.alo (lapp [(.int .u64 (.ofNat 0))] (zz (.int .u8 (.ofNat 0)) 32)))),
 o 3 none (.e (.st s7 s59 33))])
 (.rgd 0 [o 0 d60 (.q (.mv s3)),
 o 1 d61 (.q (.fadr s7 0)),
 o 2 d62 (.q (.ld1 s61)),
 o 4 d64 (.q (.fadr s7 1)),
 o 5 d65 (.q (.slca s64 none none 1 32)),
 ⟨3, d63, (.call p79 [s60, s62]), none, [(p65, .slca s64 none none 1 32, none)]⟩,
 o 6 d66 (.e (.app s63 s65 1 1 false)),
 o 7 d3 (.q (.mv s66))])))
 (.reg [o 0 d67 (.q (.bin .add s56 (.v (.int .i64 (.ofNat 1))))),
 o 1 d56 (.q (.mv s67))])))))))
 (.seq (.reg [o 0 d68 (.q (.mv s3)),
 o 1 d69 (.q (.fadr s1 3)),
 o 2 d70 (.q (.ld1 s69)),
 o 3 d71 (.call p77 [s68, s70]),
 o 4 d2 (.q (.mv s71))])
 .ret)))))))
 [.t p2]

noncomputable def f49 : FnE := .code 62
 (.seq (.reg [o 0 d4 (.e (.box s1 32)),
 o 1 d6 (.q (.mv (.v .nili)))])
 (.seq (.seq (.reg [o 0 d7 (.q (.mv s2)),
 o 1 d8 (.q (.bin .lss s7 (.v (.int .i64 (.ofNat 1))))),
 o 2 d9 (.q (.mv s8)),
 ⟨3, d10, (.q (.mv s2)), (some (p9, false)), []⟩,
 ⟨4, d11, (.q (.bin .gtr s10 (.v (.int .i64 (.ofNat 9))))), (some (p9, false)), []⟩,
 o 5 d12 (.q (.pick s9 (.v (.bool true)) s11))])
 (.cnd s12 (.seq (.reg [o 0 d13 (.q (.ld1 (.g p0))),
 o 1 d6 (.q (.mv s13))])
 .ret) .skip))
 (.seq (.rgd 0 [o 0 d14 (.q (.mv s0)),
 o 1 d15 (.q (.mv s0)),
 o 2 d16 (.q (.nck s15)),
 o 3 d17 (.q (.fadr s16 2)),
 o 4 d18 (.q (.ld1 s17)),
 o 5 d19 (.q (.mv s0)),
 o 6 d20 (.q (.nck s19)),
 o 7 d21 (.q (.fadr s20 1)),
 o 8 d22 (.q (.ld1 s21)),
 o 9 d23 (.q (.ldn s4 32)),
 o 10 d24 (.q (.mv s2)),
 o 11 d25 (.q (.bld (lapp [(.int .i64 (.ofNat 0))] (lapp (zz (.int .u8 (.ofNat 0)) 32) [(.int .i64 (.ofNat 0))])) [(0, 1, s22), (1, 32, s23), (33, 1, s24)])),
 ⟨12, d26, (.e (.bsl (lapp [(.int .i64 (.ofNat 0))] (lapp (zz (.int .u8 (.ofNat 0)) 32) [(.int .i64 (.ofNat 0))])) [(0, 34, s25)] 1 34)), none, [(p18, .ld1 s17, none)]⟩,
 o 13 d27 (.e (.app s18 s26 34 48 false)),
 o 14 d28 (.q (.nck s14)),
 o 15 d29 (.q (.fadr s28 2)),
 o 16 none (.e (.st s29 s27 1))])
 (.seq (.seq (.rgd 0 [o 0 d30 (.q (.mv s0)),
 o 1 d31 (.q (.nck s30)),
 o 2 d32 (.q (.fadr s31 2)),
 o 3 d33 (.q (.ld1 s32)),
 o 4 d34 (.q (.lenv s33)),
 o 5 d35 (.q (.mv s0)),
 o 6 d36 (.q (.nck s35)),
 o 7 d37 (.q (.fadr s36 0)),
 o 8 d38 (.q (.ld1 s37)),
 o 9 d39 (.q (.bin .gtr s34 s38))])
 (.cnd s39 (.seq (.rgd 0 [o 0 d40 (.q (.mv s0)),
 o 1 d41 (.q (.nck s40)),
 o 2 d42 (.q (.fadr s41 3)),
 o 3 d43 (.q (.ld1 s42)),
 o 4 d44 (.q (.mv s0)),
 o 5 d45 (.q (.nck s44)),
 o 6 d46 (.q (.fadr s45 2)),
 o 7 d47 (.q (.ld1 s46)),
 o 8 d48 (.q (.iadr s47 (.v (.int .i64 (.ofNat 0))) 34)),
 o 9 d49 (.q (.fadr s48 0)),
 o 10 d50 (.q (.ld1 s49)),
 o 11 d51 (.q (.lkp s43 s50 (.int .i64) (.int .i64 (.ofNat 0)) false)),
 o 12 d52 (.q (.bin .add s51 (.v (.int .i64 (.ofNat 1))))),
 o 13 none (.e (.mup s43 s50 s52 (.int .i64)))])
 (.reg [o 0 d53 (.q (.mv s0)),
 o 1 d54 (.q (.mv s0)),
 o 2 d55 (.q (.nck s54)),
 o 3 d56 (.q (.fadr s55 2)),
 o 4 d57 (.q (.ld1 s56)),
 o 5 d58 (.q (.slc s57 (some (.v (.int .i64 (.ofNat 1)))) none 34)),
 o 6 d59 (.call p34 [s58]),
 o 7 d60 (.q (.nck s53)),
 o 8 d61 (.q (.fadr s60 2)),
 o 9 none (.e (.st s61 s59 1))])) .skip))
 (.seq (.reg [o 0 d6 (.q (.mv (.v .nili)))])
 .ret)))))
 [.t p6]

noncomputable def f50 : FnE := .code 9
 (.seq (.reg [o 0 d4 (.q (.mv (.v (.bool false))))])
 (.seq (.reg [o 0 d5 (.q (.mv s0)),
 o 1 d6 (.q (.mv s1)),
 o 2 d7 (.call p80 [s5, s6]),
 o 3 d8 (.q (.bin .geq s7 (.v (.int .i64 (.ofNat 0))))),
 o 4 d4 (.q (.mv s8))])
 .ret))
 [.t p4]

noncomputable def f51 : FnE := .code 9
 (.seq (.reg [o 0 d2 (.e (.box s0 35)),
 o 1 d3 (.q (.mv (.v (.bool false))))])
 (.seq (.reg [o 0 d4 (.q (.ld1 s1)),
 o 1 d5 (.q (.fadr s2 0)),
 o 2 d6 (.q (.fadr s5 0)),
 o 3 d7 (.q (.ldn s6 32)),
 o 4 d8 (.q (.lkp s4 s7 (.cells (kk .u8 32)) (.bool false) false)),
 o 5 d3 (.q (.mv s8))])
 .ret))
 [.t p3]

noncomputable def f52 : FnE := .code 29
 (.seq (.reg [o 0 d2 (.q (.mv (.v (.int .i64 (.ofNat 0)))))])
 (.seq (.reg [o 0 d6 (.q (.ld1 (.g p5))),
 o 1 d7 (.q (.ld1 (.g p8))),
 o 2 d8 (.q (.ld1 (.g p9))),
 o 3 d9 (.q (.ld1 (.g p10))),
 o 4 d10 (.q (.ld1 (.g p11))),
 o 5 d11 (.q (.ld1 (.g p6))),
 o 6 d12 (.e (.bsl (zz .nili 10) [(1, 1, s6), (2, 1, s7), (3, 1, s8), (4, 1, s9), (5, 1, s10), (9, 1, s11)] 10 1)),
 o 7 d3 (.q (.mv s12))])
 (.seq (.seq (.reg [o 0 d13 (.q (.mv s3)),
 o 1 d14 (.q (.lenv s13)),
 o 2 d15 (.q (.mv (.v (.int .i64 (.ofNat 0)))))])
 (.blk 0 (.loop (.seq (.reg [o 0 d16 (.q (.bin .lss s15 s14))])
 (.seq (.cnd s16 .skip (.exit 0))
 (.seq (.blk 1 (.seq (.reg [o 0 d17 (.q (.mv s15)),
 o 1 d18 (.q (.iadr s13 s15 1)),
 o 2 d19 (.q (.ld1 s18)),
 o 3 d4 (.q (.mv s17)),
 o 4 d5 (.q (.mv s19))])
 (.seq (.reg [o 0 d20 (.q (.mv s5)),
 o 1 d21 (.q (.eqp (.iface true) true s20 (.v .nili))),
 o 2 d22 (.q (.mv s21)),
 ⟨3, d23, (.q (.mv s0)), (some (p22, true)), []⟩,
 ⟨4, d24, (.q (.mv s5)), (some (p22, true)), []⟩,
 ⟨5, d25, (.call p81 [s23, s24]), (some (p22, true)), []⟩,
 o 6 d26 (.q (.pick s22 s25 (.v (.bool false))))])
 (.cnd s26 (.seq (.reg [o 0 d27 (.q (.mv s4)),
 o 1 d2 (.q (.mv s27))])
 .ret) .skip))))
 (.reg [o 0 d28 (.q (.bin .add s15 (.v (.int .i64 (.ofNat 1))))),
 o 1 d15 (.q (.mv s28))])))))))
 (.seq (.reg [o 0 d2 (.q (.mv (.v (.int .i64 (.ofNat 0)))))])
 .ret))))
 [.t p2]

noncomputable def f53 : FnE := .code 9
 (.seq (.reg [o 0 d2 (.q (.mv (.v .nilm)))])
 (.seq (.seq (.reg [o 0 d3 (.q (.mv s0)),
 o 1 d4 (.q (.eqp .map false s3 (.v .nilm)))])
 (.cnd s4 (.seq (.reg [o 0 d2 (.q (.mv (.v .nilm)))])
 .ret) .skip))
 (.seq (.reg [o 0 d5 (.q (.mv s0)),
 o 1 d6 (.q (.mki 78 s5)),
 o 2 d7 (.call p82 [s6]),
 o 3 d8 (.q (.tas s7 78 .nilm false)),
 o 4 d2 (.q (.mv s8))])
 .ret)))
 [.t p2]

noncomputable def f54 : FnE := .code 9
 (.seq (.reg [o 0 d2 (.q (.mv (.v .nilm)))])
 (.seq (.seq (.reg [o 0 d3 (.q (.mv s0)),
 o 1 d4 (.q (.eqp .map false s3 (.v .nilm)))])
 (.cnd s4 (.seq (.reg [o 0 d2 (.q (.mv (.v .nilm)))])
 .ret) .skip))
 (.seq (.reg [o 0 d5 (.q (.mv s0)),
 o 1 d6 (.q (.mki 79 s5)),
 o 2 d7 (.call p82 [s6]),
 o 3 d8 (.q (.tas s7 79 .nilm false)),
 o 4 d2 (.q (.mv s8))])
 .ret)))
 [.t p2]

noncomputable def f55 : FnE := .code 24
 (.seq (.reg [o 0 d2 (.e (.box s0 35)),
 o 1 d3 (.e (.box s1 35)),
 o 2 d4 (.q (.mv (.v (.bool false))))])
 (.seq (.reg [o 0 d5 (.q (.fadr s2 0)),
 o 1 d6 (.q (.ldn s5 33)),
 o 2 d7 (.q (.fadr s3 0)),
 o 3 d8 (.q (.ldn s7 33)),
 o 4 d9 (.call p83 [s6, s8]),
 o 5 d10 (.q (.mv s9)),
 ⟨6, d11, (.q (.fadr s2 33)), (some (p10, true)), []⟩,
 ⟨7, d12, (.q (.ld1 s11)), (some (p10, true)), []⟩,
 ⟨8, d13, (.q (.fadr s3 33)), (some (p10, true)), []⟩,
 ⟨9, d14, (.q (.ld1 s13)), (some (p10, true)), []⟩,
 ⟨10, d15, (.call p84 [s12, s14]), (some (p10, true)), []⟩,
 o 11 d16 (.q (.pick s10 s15 (.v (.bool false)))),
 o 12 d17 (.q (.mv s16)),
 ⟨13, d18, (.q (.fadr s2 34)), (some (p17, true)), []⟩,
 ⟨14, d19, (.q (.ld1 s18)), (some (p17, true)), []⟩,
 ⟨15, d20, (.q (.fadr s3 34)), (some (p17, true)), []⟩,
 ⟨16, d21, (.q (.ld1 s20)), (some (p17, true)), []⟩,
 ⟨17, d22, (.q (.bin .eql s19 s21)), (some (p17, true)), []⟩,
 o 18 d23 (.q (.pick s17 s22 (.v (.bool false)))),
 o 19 d4 (.q (.mv s23))])
 .ret))
 [.t p4]

noncomputable def f56 : FnE := .code 17
 (.seq (.reg [o 0 d2 (.e (.box s0 33)),
 o 1 d3 (.e (.box s1 33)),
 o 2 d4 (.q (.mv (.v (.bool false))))])
 (.seq (.reg [o 0 d5 (.q (.fadr s2 0)),
 o 1 d6 (.q (.ld1 s5)),
 o 2 d7 (.q (.fadr s3 0)),
 o 3 d8 (.q (.ld1 s7)),
 o 4 d9 (.q (.bin .eql s6 s8)),
 o 5 d10 (.q (.mv s9)),
 ⟨6, d11, (.q (.fadr s2 1)), (some (p10, true)), []⟩,
 ⟨7, d12, (.q (.ldn s11 32)), (some (p10, true)), []⟩,
 ⟨8, d13, (.q (.fadr s3 1)), (some (p10, true)), []⟩,
 ⟨9, d14, (.q (.ldn s13 32)), (some (p10, true)), []⟩,
 ⟨10, d15, (.call p85 [s12, s14]), (some (p10, true)), []⟩,
 o 11 d16 (.q (.pick s10 s15 (.v (.bool false)))),
 o 12 d4 (.q (.mv s16))])
 .ret))
 [.t p4]

noncomputable def f57 : FnE := .code 27
 (.seq (.reg [o 0 d4 (.q (.mv (.v .nils)))])
 (.seq (.reg [o 0 d5 (.q (.mv (.v .nils)))])
 (.seq (.seq (.reg [o 0 d8 (.q (.mv s1)),
 o 1 d9 (.q (.lenv s8)),
 o 2 d10 (.q (.mv (.v (.int .i64 (.ofNat 0)))))])
 (.blk 0 (.loop (.seq (.reg [o 0 d11 (.q (.bin .lss s10 s9))])
 (.seq (.cnd s11 .skip (.exit 0))
 (.seq (.blk 1 (.seq (.reg [o 0 d12 (.q (.iadr s8 s10 32)),
 o 1 d13 (.q (.ldn s12 32)),
 o 2 d7 (.e (.alo (zz (.int .u8 (.ofNat 0)) 32))),
 o 3 none (.e (.st s7 s13 32))])
 (.rgd 0 [o 0 d14 (.q (.mv s5)),
 o 1 d15 (.q (.mv s0)),
 o 2 d16 (.q (.nck s15)),
 o 3 d17 (.q (.fadr s16 0)),
 o 4 d18 (.q (.ld1 s17)),
 o 5 d19 (.q (.ldn s7 32)),
 o 6 d20 (.q (.lkp s18 s19 (.cells (kk .u8 32)) (.agg [(.int .u32 (.ofNat 0)), .nils, .nils, (.int .u32 (.ofNat 0)), (.int .u64 (.ofNat 0)), (.int .i64 (.ofNat 0)), (.int .i64 (.ofNat 0))]) false)),
 o 7 d21 (.q (.fld s20 0 4 true)),
 o 8 d22 (.call p62 [s21]),
 o 9 d23 (.e (.bsl [(.int .u32 (.ofNat 0)), .nils, .nils, (.int .u32 (.ofNat 0))] [(0, 4, s22)] 1 4)),
 o 10 d24 (.e (.app s14 s23 4 64 false)),
 o 11 d5 (.q (.mv s24))])))
 (.reg [o 0 d25 (.q (.bin .add s10 (.v (.int .i64 (.ofNat 1))))),
 o 1 d10 (.q (.mv s25))])))))))
 (.seq (.reg [o 0 d26 (.q (.mv s5)),
 o 1 d4 (.q (.mv s26))])
 .ret))))
 [.t p4]

noncomputable def f58 : FnE := .code 9
 (.seq (.reg [o 0 d2 (.e (.box s0 1)),
 o 1 d4 (.q (.mv (.v .nils)))])
 (.seq (.reg [o 0 d5 (.q (.mv s1)),
 o 1 d6 (.call p86 [s5]),
 o 2 d7 (.q (.mkf 87 [] [s2])),
 o 3 d8 (.call p59 [s6, s7]),
 o 4 d4 (.q (.mv s8))])
 .ret))
 [.t p4]

noncomputable def f59 : FnE := .code 12
 (.seq (.reg [o 0 d4 (.q (.mv (.v .nils)))])
 (.seq (.reg [o 0 d6 (.q (.mv s0)),
 o 1 d7 (.call p88 [s6]),
 o 2 d5 (.q (.mv s7))])
 (.seq (.reg [o 0 d8 (.q (.mv s5)),
 o 1 d9 (.q (.mv s1)),
 o 2 d10 (.call p89 [s8, s9])])
 (.seq (.reg [o 0 d11 (.q (.mv s5)),
 o 1 d4 (.q (.mv s11))])
 .ret))))
 [.t p4]

noncomputable def f60 : FnE := .code 4
 (.seq (.reg [o 0 d1 (.e (.box s0 1)),
 o 1 d2 (.q (.mv (.v .nilf)))])
 (.seq (.reg [o 0 d3 (.q (.mkf 90 [] [s1])),
 o 1 d2 (.q (.mv s3))])
 .ret))
 [.t p2]

noncomputable def f61 : FnE := .code 8
 (.seq (.reg [o 0 d2 (.e (.box s0 32)),
 o 1 d3 (.e (.box s1 32)),
 o 2 d4 (.q (.mv (.v (.int .i64 (.ofNat 0)))))])
 (.seq (.rgd 0 [o 0 d5 (.q (.slca s2 none none 1 32)),
 o 1 d6 (.q (.slca s3 none none 1 32)),
 o 2 d7 (.call p91 [s5, s6]),
 o 3 d4 (.q (.mv s7))])
 .ret))
 [.t p4]

noncomputable def f62 : FnE := .code 32
 (.seq (.reg [o 0 d1 (.e (.box s0 4)),
 o 1 d2 (.e (.alo [(.int .u32 (.ofNat 0)), .nils, .nils, (.int .u32 (.ofNat 0))]))])
 (.seq (.rgd 0 [o 0 d4 (.q (.fadr s1 1)),
 o 1 d5 (.q (.ld1 s4)),
 o 3 d7 (.q (.fadr s1 2)),
 o 4 d8 (.q (.ld1 s7)),
 ⟨2, d6, (.call p92 [s5]), none, [(p8, .ld1 s7, none)]⟩,
 o 5 d9 (.call p93 [s8]),
 o 6 d10 (.q (.fadr s1 1)),
 o 7 none (.e (.st s10 s6 1)),
 o 8 d11 (.q (.fadr s1 2)),
 o 9 none (.e (.st s11 s9 1))])
 (.seq (.seq (.reg [o 0 d12 (.q (.fadr s1 1)),
 o 1 d13 (.q (.ld1 s12)),
 o 2 d14 (.q (.lenv s13)),
 o 3 d15 (.q (.mv (.v (.int .i64 (.ofNat 0)))))])
 (.blk 0 (.loop (.seq (.reg [o 0 d16 (.q (.bin .lss s15 s14))])
 (.seq (.cnd s16 .skip (.exit 0))
 (.seq (.blk 1 (.seq (.reg [o 0 d17 (.q (.mv s15)),
 o 1 d3 (.q (.mv s17))])
 (.rgd 0 [o 0 d18 (.q (.fadr s1 1)),
 o 1 d19 (.q (.ld1 s18)),
 o 2 d20 (.q (.mv s3)),
 o 3 d21 (.q (.fadr s1 1)),
 o 4 d22 (.q (.ld1 s21)),
 o 5 d23 (.q (.mv s3)),
 o 6 d24 (.q (.iadr s22 s23 35)),
 o 7 d25 (.q (.fadr s24 33)),
 o 8 d26 (.q (.ld1 s25)),
 ⟨9, d27, (.call p94 [s26]), none, [(p19, .ld1 s18, none)]⟩,
 o 10 d28 (.q (.iadr s19 s20 35)),
 o 11 d29 (.q (.fadr s28 33)),
 o 12 none (.e (.st s29 s27 1))])))
 (.reg [o 0 d30 (.q (.bin .add s15 (.v (.int .i64 (.ofNat 1))))),
 o 1 d15 (.q (.mv s30))])))))))
 (.seq (.reg [o 0 d31 (.q (.ldn s1 4)),
 o 1 none (.e (.st s2 s31 4))])
 .ret))))
 [.cn p2 4]

noncomputable def f63 : FnE := .code 33
 (.seq (.reg [o 0 d4 (.q (.mv (.v .nils)))])
 (.seq (.seq (.reg [o 0 d5 (.q (.mv s1)),
 o 1 d6 (.call p95 [s5])])
 (.blk 0 (.seq (.reg [o 0 d8 (.q (.bin .eql s6 (.v (.int .i64 (.ofNat 1))))),
 o 1 d7 (.q (.mv s8))])
 (.cnd s7 (.seq (.reg [o 0 d9 (.q (.mv s0)),
 o 1 d10 (.q (.mv s1)),
 o 2 d11 (.q (.cvi .u8 s10)),
 o 3 d12 (.e (.bsl [(.int .u8 (.ofNat 0))] [(0, 1, s11)] 1 1)),
 o 4 d13 (.e (.app s9 s12 1 1 false)),
 o 5 d4 (.q (.mv s13))])
 .ret) (.seq (.reg [o 0 d15 (.q (.bin .eql s6 (.v (.int .i64 (.ofNat 3))))),
 o 1 d14 (.q (.mv s15))])
 (.cnd s14 (.seq (.reg [o 0 d16 (.q (.mv s0)),
 o 1 d17 (.e (.bsl [(.int .u8 (.ofNat 0))] [(0, 1, (.v (.int .u8 (.ofNat 253))))] 1 1)),
 o 2 d18 (.e (.app s16 s17 1 1 false)),
 o 3 d19 (.q (.mv s1)),
 o 4 d20 (.call p96 [s18, s19, (.v (.int .i64 (.ofNat 2)))]),
 o 5 d4 (.q (.mv s20))])
 .ret) (.seq (.reg [o 0 d22 (.q (.bin .eql s6 (.v (.int .i64 (.ofNat 5))))),
 o 1 d21 (.q (.mv s22))])
 (.cnd s21 (.seq (.reg [o 0 d23 (.q (.mv s0)),
 o 1 d24 (.e (.bsl [(.int .u8 (.ofNat 0))] [(0, 1, (.v (.int .u8 (.ofNat 254))))] 1 1)),
 o 2 d25 (.e (.app s23 s24 1 1 false)),
 o 3 d26 (.q (.mv s1)),
 o 4 d27 (.call p96 [s25, s26, (.v (.int .i64 (.ofNat 4)))]),
 o 5 d4 (.q (.mv s27))])
 .ret) .skip))))))))
 (.seq (.reg [o 0 d28 (.q (.mv s0)),
 o 1 d29 (.e (.bsl [(.int .u8 (.ofNat 0))] [(0, 1, (.v (.int .u8 (.ofNat 255))))] 1 1)),
 o 2 d30 (.e (.app s28 s29 1 1 false)),
 o 3 d31 (.q (.mv s1)),
 o 4 d32 (.call p96 [s30, s31, (.v (.int .i64 (.ofNat 8)))]),
 o 5 d4 (.q (.mv s32))])
 .ret)))
 [.t p4]

noncomputable def f64 : FnE := .code 9
 (.seq (.reg [o 0 d4 (.q (.mv (.v .nils)))])
 (.seq (.reg [o 0 d5 (.q (.mv s0)),
 o 1 d6 (.q (.mv s1)),
 o 2 d7 (.q (.cvi .u64 s6)),
 o 3 d8 (.call p96 [s5, s7, (.v (.int .i64 (.ofNat 4)))]),
 o 4 d4 (.q (.mv s8))])
 .ret))
 [.t p4]

noncomputable def f65 : FnE := .code 8
 (.seq (.reg [o 0 d4 (.q (.mv (.v .nils)))])
 (.seq (.reg [o 0 d5 (.q (.mv s0)),
 o 1 d6 (.q (.mv s1)),
 o 2 d7 (.call p96 [s5, s6, (.v (.int .i64 (.ofNat 8)))]),
 o 3 d4 (.q (.mv s7))])
 .ret))
 [.t p4]

noncomputable def f66 : FnE := .code 52
 (.seq (.reg [o 0 d1 (.e (.box s0 4)),
 o 1 d2 (.q (.mv (.v .nili)))])
 (.seq (.blk 0 (.seq (.reg [o 0 d6 (.q (.fadr s1 1)),
 o 1 d7 (.q (.ld1 s6)),
 o 2 d8 (.q (.lenv s7)),
 o 3 d9 (.q (.bin .eql s8 (.v (.int .i64 (.ofNat 0))))),
 o 4 d10 (.q (.mv s9)),
 ⟨5, d11, (.q (.fadr s1 1)), (some (p10, false)), []⟩,
 ⟨6, d12, (.q (.ld1 s11)), (some (p10, false)), []⟩,
 ⟨7, d13, (.q (.lenv s12)), (some (p10, false)), []⟩,
 ⟨8, d14, (.q (.bin .gtr s13 (.v (.int .i64 (.ofNat 50))))), (some (p10, false)), []⟩,
 o 9 d15 (.q (.pick s10 (.v (.bool true)) s14)),
 o 10 d16 (.q (.mv s15)),
 ⟨11, d17, (.q (.fadr s1 2)), (some (p16, false)), []⟩,
 ⟨12, d18, (.q (.ld1 s17)), (some (p16, false)), []⟩,
 ⟨13, d19, (.q (.lenv s18)), (some (p16, false)), []⟩,
 ⟨14, d20, (.q (.bin .eql s19 (.v (.int .i64 (.ofNat 0))))), (some (p16, false)), []⟩,
 o 15 d21 (.q (.pick s16 (.v (.bool true)) s20)),
 o 16 d22 (.q (.mv s21)),
 ⟨17, d23, (.q (.fadr s1 2)), (some (p22, false)), []⟩,
 ⟨18, d24, (.q (.ld1 s23)), (some (p22, false)), []⟩,
 ⟨19, d25, (.q (.lenv s24)), (some (p22, false)), []⟩,
 ⟨20, d26, (.q (.bin .gtr s25 (.v (.int .i64 (.ofNat 50))))), (some (p22, false)), []⟩,
 o 21 d27 (.q (.pick s22 (.v (.bool true)) s26)),
 o 22 d5 (.q (.mv s27))])
 (.cnd s5 (.seq (.reg [o 0 d28 (.q (.ld1 (.g p12))),
 o 1 d2 (.q (.mv s28))])
 .ret) (.seq (.reg [o 0 d30 (.q (.ldn s1 4)),
 o 1 d31 (.call p72 [s30]),
 o 2 d32 (.q (.bin .gtr s31 (.v (.int .i64 (.ofNat 4000))))),
 o 3 d29 (.q (.mv s32))])
 (.cnd s29 (.seq (.reg [o 0 d33 (.q (.ld1 (.g p13))),
 o 1 d2 (.q (.mv s33))])
 .ret) (.seq (.reg [o 0 d35 (.q (.fadr s1 1)),
 o 1 d36 (.q (.ld1 s35)),
 o 2 d37 (.call p50 [s36, (.f 97)]),
 o 3 d34 (.q (.mv s37))])
 (.cnd s34 (.seq (.reg [o 0 d38 (.q (.ld1 (.g p14))),
 o 1 d2 (.q (.mv s38))])
 .ret) .skip)))))))
 (.seq (.seq (.reg [o 0 d40 (.q (.ldn s1 4)),
 o 1 d41 (.call p98 [s40]),
 o 2 d39 (.q (.mv s41)),
 o 3 d42 (.q (.ext s39 0)),
 o 4 d43 (.q (.ext s39 1)),
 o 5 d3 (.q (.mv s42)),
 o 6 d4 (.q (.mv s43))])
 (.seq (.reg [o 0 d44 (.q (.mv s4)),
 o 1 d45 (.q (.not s44))])
 (.cnd s45 (.seq (.reg [o 0 d46 (.q (.ld1 (.g p2))),
 o 1 d2 (.q (.mv s46))])
 .ret) .skip)))
 (.seq (.seq (.reg [o 0 d47 (.q (.ldn s1 4)),
 o 1 d48 (.call p99 [s47])])
 (.cnd s48 (.seq (.reg [o 0 d49 (.q (.ld1 (.g p3))),
 o 1 d2 (.q (.mv s49))])
 .ret) .skip))
 (.seq (.reg [o 0 d50 (.q (.ldn s1 4)),
 o 1 d51 (.call p100 [s50]),
 o 2 d2 (.q (.mv s51))])
 .ret)))))
 [.t p2]

noncomputable def f67 : FnE := .code 15
 (.seq (.reg [o 0 d1 (.e (.box s0 4)),
 o 1 d2 (.q (.mv (.v (.bool false))))])
 (.seq (.reg [o 0 d3 (.q (.fadr s1 1)),
 o 1 d4 (.q (.ld1 s3)),
 o 2 d5 (.q (.lenv s4)),
 o 3 d6 (.q (.bin .eql s5 (.v (.int .i64 (.ofNat 1))))),
 o 4 d7 (.q (.mv s6)),
 ⟨5, d8, (.q (.fadr s1 1)), (some (p7, true)), []⟩,
 ⟨6, d9, (.q (.ld1 s8)), (some (p7, true)), []⟩,
 ⟨7, d10, (.q (.iadr s9 (.v (.int .i64 (.ofNat 0))) 35)), (some (p7, true)), []⟩,
 ⟨8, d11, (.q (.fadr s10 0)), (some (p7, true)), []⟩,
 ⟨9, d12, (.q (.ldn s11 33)), (some (p7, true)), []⟩,
 ⟨10, d13, (.call p101 [s12]), (some (p7, true)), []⟩,
 o 11 d14 (.q (.pick s7 s13 (.v (.bool false)))),
 o 12 d2 (.q (.mv s14))])
 .ret))
 [.t p2]

noncomputable def f68 : FnE := .code 19
 (.seq (.reg [o 0 d3 (.e (.box s1 33)),
 o 1 d4 (.e (.alo (zz (.int .u8 (.ofNat 0)) 32))),
 o 2 d5 (.q (.mv (.v (.bool false))))])
 (.seq (.rgd 0 [o 0 d9 (.q (.mv s0)),
 o 1 d10 (.q (.nck s9)),
 o 2 d11 (.q (.fadr s10 1)),
 o 3 d12 (.q (.ld1 s11)),
 o 4 d13 (.q (.ldn s3 33)),
 o 5 d14 (.q (.lkp s12 s13 (.cells [.u8, .u8, .u8, .u8, .u8, .u8, .u8, .u8, .u8, .u8, .u8, .u8, .u8, .u8, .u8, .u8, .u8, .u8, .u8, .u8, .u8, .u8, .u8, .u8, .u8, .u8, .u8, .u8, .u8, .u8, .u8, .u8, .u32]) (.agg (zz (.int .u8 (.ofNat 0)) 32)) true)),
 o 6 d8 (.q (.mv s14)),
 o 7 d15 (.q (.ext s8 0)),
 o 8 d16 (.q (.ext s8 1)),
 ⟨9, d6, (.e (.alo (zz (.int .u8 (.ofNat 0)) 32))), none, [(p12, .ld1 s11, none), (p13, .ldn s3 33, none), (p14, .lkp s12 s13 (.cells [.u8, .u8, .u8, .u8, .u8, .u8, .u8, .u8, .u8, .u8, .u8, .u8, .u8, .u8, .u8, .u8, .u8, .u8, .u8, .u8, .u8, .u8, .u8, .u8, .u8, .u8, .u8, .u8, .u8, .u8, .u8, .u8, .u32]) (.agg (zz (.int .u8 (.ofNat 0)) 32)) true, none)]⟩,
 o 10 none (.e (.st s6 s15 32)),
 o 11 d7 (.q (.mv s16))])
 (.seq (.reg [o 0 d17 (.q (.ldn s6 32)),
 o 1 d18 (.q (.mv s7)),
 o 2 none (.e (.st s4 s17 32)),
 o 3 d5 (.q (.mv s18))])
 .ret)))
 [.cn p4 32, .t p5]

noncomputable def f69 : FnE := .code 111
 (.seq (.reg [o 0 d5 (.e (.box s0 4)),
 o 1 d10 (.q (.mv (.v (.int .u64 (.ofNat 0))))),
 o 2 d11 (.q (.mv (.v .nili)))])
 (.seq (.seq (.reg [o 0 d23 (.q (.mv s2)),
 o 1 d24 (.q (.mv s3)),
 o 2 d25 (.call p102 [s23, s24]),
 o 3 d12 (.q (.mv s25))])
 (.seq (.reg [o 0 d26 (.q (.mv s12)),
 o 1 d27 (.q (.eqp (.iface true) true s26 (.v .nili)))])
 (.cnd s27 (.seq (.reg [o 0 d28 (.q (.mv s12)),
 o 1 d10 (.q (.mv (.v (.int .u64 (.ofNat 0))))),
 o 2 d11 (.q (.mv s28))])
 .ret) .skip)))
 (.seq (.reg [o 0 d13 (.q (.mv (.v .nils)))])
 (.seq (.reg [o 0 d14 (.q (.mv (.v .nils)))])
 (.seq (.reg [o 0 d15 (.q (.mv (.v .nils)))])
 (.seq (.seq (.reg [o 0 d29 (.q (.fadr s5 1)),
 o 1 d30 (.q (.ld1 s29)),
 o 2 d31 (.q (.lenv s30)),
 o 3 d32 (.q (.mv (.v (.int .i64 (.ofNat 0)))))])
 (.blk 0 (.loop (.seq (.reg [o 0 d33 (.q (.bin .lss s32 s31))])
 (.seq (.cnd s33 .skip (.exit 0))
 (.seq (.blk 1 (.seq (.reg [o 0 d34 (.q (.mv s32)),
 o 1 d35 (.q (.iadr s30 s32 35)),
 o 2 d36 (.q (.ldn s35 35)),
 o 3 d17 (.e (.alo (lapp (zz (.int .u8 (.ofNat 0)) 32) [(.int .u32 (.ofNat 0)), .nils, (.int .u32 (.ofNat 0))]))),
 o 4 d16 (.q (.mv s34)),
 o 5 none (.e (.st s17 s36 35))])
 (.seq (.reg [o 0 d38 (.q (.mv s1)),
 o 1 d39 (.q (.fadr s17 0)),
 o 2 d40 (.q (.ldn s39 33)),
 o 3 d41 (.inv s38 "Get" [s40]),
 o 4 d37 (.q (.mv s41)),
 o 5 d42 (.q (.ext s37 0)),
 o 6 d43 (.q (.ext s37 1)),
 o 7 d18 (.e (.alo (lapp [(.int .u64 (.ofNat 0))] (lapp (zz (.int .u8 (.ofNat 0)) 32) [(.int .i64 (.ofNat 0)), (.bool false)])))),
 o 8 none (.e (.st s18 s42 35)),
 o 9 d19 (.q (.mv s43))])
 (.seq (.blk 2 (.seq (.reg [o 0 d45 (.q (.mv s19)),
 o 1 d46 (.q (.not s45)),
 o 2 d44 (.q (.mv s46))])
 (.cnd s44 (.seq (.rgd 0 [o 0 d47 (.q (.mv s16)),
 o 1 d48 (.q (.ld1 (.g p8))),
 o 2 d49 (.q (.bld [(.int .i64 (.ofNat 0)), .nili] [(0, 1, s47), (1, 1, s48)])),
 o 5 d10 (.q (.mv (.v (.int .u64 (.ofNat 0))))),
 o 3 d50 (.e (.box s49 2)),
 o 4 d51 (.q (.mki 147 s50)),
 o 6 d11 (.q (.mv s51))])
 .ret) (.seq (.reg [o 0 d53 (.q (.ldn s18 35)),
 o 1 d54 (.q (.mv s2)),
 o 2 d55 (.q (.mv s4)),
 o 3 d56 (.call p103 [s53, s54, s55]),
 o 4 d57 (.q (.not s56)),
 o 5 d52 (.q (.mv s57))])
 (.cnd s52 (.seq (.rgd 0 [o 0 d58 (.q (.mv s16)),
 o 1 d59 (.q (.ld1 (.g p9))),
 o 2 d60 (.q (.bld [(.int .i64 (.ofNat 0)), .nili] [(0, 1, s58), (1, 1, s59)])),
 o 5 d10 (.q (.mv (.v (.int .u64 (.ofNat 0))))),
 o 3 d61 (.e (.box s60 2)),
 o 4 d62 (.q (.mki 147 s61)),
 o 6 d11 (.q (.mv s62))])
 .ret) .skip)))))
 (.rgd 2 [o 0 d63 (.q (.mv s13)),
 o 1 d64 (.q (.ldn s18 35)),
 o 4 d67 (.q (.mv s14)),
 o 5 d68 (.q (.fadr s18 33)),
 o 6 d69 (.q (.ld1 s68)),
 o 9 d72 (.q (.mv s15)),
 o 10 d73 (.q (.ldn s18 35)),
 o 11 d74 (.q (.mv s2)),
 o 12 d75 (.q (.mv s3)),
 ⟨2, d65, (.l (.bsl (lapp [(.int .u64 (.ofNat 0))] (lapp (zz (.int .u8 (.ofNat 0)) 32) [(.int .i64 (.ofNat 0)), (.bool false)])) [(0, 35, s64)] 1 35) 0), none, [(p69, .ld1 s68, none), (p73, .ldn s18 35, none)]⟩,
 ⟨3, d66, (.e (.app s63 s65 35 56 false)), none, [(p69, .ld1 s68, none), (p73, .ldn s18 35, none)]⟩,
 ⟨7, d70, (.l (.bsl [(.int .i64 (.ofNat 0))] [(0, 1, s69)] 1 1) 1), none, [(p64, .ldn s18 35, none), (p73, .ldn s18 35, none)]⟩,
 ⟨8, d71, (.e (.app s67 s70 1 8 false)), none, [(p73, .ldn s18 35, none)]⟩,
 o 13 d76 (.call p104 [s73, s74, s75]),
 o 14 d77 (.e (.bsl [(.int .u32 (.ofNat 0))] [(0, 1, s76)] 1 1)),
 o 15 d78 (.e (.app s72 s77 1 4 false)),
 o 16 d13 (.q (.mv s66)),
 o 17 d14 (.q (.mv s71)),
 o 18 d15 (.q (.mv s78))])))))
 (.reg [o 0 d79 (.q (.bin .add s32 (.v (.int .i64 (.ofNat 1))))),
 o 1 d32 (.q (.mv s79))])))))))
 (.seq (.reg [o 0 d81 (.q (.ldn s5 4)),
 o 1 d82 (.q (.mv s13)),
 o 2 d83 (.call p105 [s81, s82]),
 o 3 d80 (.q (.mv s83)),
 o 4 d84 (.q (.ext s80 0)),
 o 5 d85 (.q (.ext s80 1)),
 o 6 d20 (.q (.mv s84)),
 o 7 d21 (.q (.mv s85))])
 (.seq (.seq (.reg [o 0 d86 (.q (.mv s21)),
 o 1 d87 (.q (.eqp (.iface true) true s86 (.v .nili)))])
 (.cnd s87 (.seq (.reg [o 0 d88 (.q (.mv s21)),
 o 1 d10 (.q (.mv (.v (.int .u64 (.ofNat 0))))),
 o 2 d11 (.q (.mv s88))])
 .ret) .skip))
 (.seq (.reg [o 0 d89 (.q (.mv s3)),
 o 1 d90 (.q (.mv s3)),
 o 2 d91 (.q (.lenv s90)),
 o 3 d92 (.q (.bin .sub s91 (.v (.int .i64 (.ofNat 1))))),
 o 4 d93 (.q (.iadr s89 s92 1)),
 o 5 d94 (.q (.ld1 s93)),
 o 6 d22 (.q (.mv s94))])
 (.seq (.seq (.reg [o 0 d95 (.q (.ldn s5 4)),
 o 1 d96 (.q (.mv s2)),
 o 2 d97 (.q (.mv s22)),
 o 3 d98 (.call p106 [s95, s96, s97]),
 o 4 d99 (.q (.not s98)),
 o 5 d100 (.q (.mv s99)),
 ⟨6, d101, (.q (.ldn s5 4)), (some (p100, false)), []⟩,
 ⟨7, d102, (.q (.mv s14)), (some (p100, false)), []⟩,
 ⟨8, d103, (.q (.mv s15)), (some (p100, false)), []⟩,
 ⟨9, d104, (.q (.mv s2)), (some (p100, false)), []⟩,
 ⟨10, d105, (.q (.mv s22)), (some (p100, false)), []⟩,
 ⟨11, d106, (.call p107 [s101, s102, s103, s104, s105]), (some (p100, false)), []⟩,
 ⟨12, d107, (.q (.not s106)), (some (p100, false)), []⟩,
 o 13 d108 (.q (.pick s100 (.v (.bool true)) s107))])
 (.cnd s108 (.seq (.rgd 0 [o 0 d109 (.q (.ld1 (.g p10))),
 o 1 d10 (.q (.mv (.v (.int .u64 (.ofNat 0))))),
 o 2 d11 (.q (.mv s109))])
 .ret) .skip))
 (.seq (.reg [o 0 d110 (.q (.mv s20)),
 o 1 d10 (.q (.mv s110)),
 o 2 d11 (.q (.mv (.v .nili)))])
 .ret)))))))))))
 [.t p10, .t p11]

noncomputable def f70 : FnE := .code 98
 (.seq (.reg [o 0 d4 (.e (.box s1 4)),
 o 1 d5 (.e (.box s2 9)),
 o 2 d6 (.q (.mv (.v .nili)))])
 (.seq (.reg [o 0 d19 (.e (.mkm (.cells (kk .u8 32)))),
 o 1 d7 (.q (.mv s19))])
 (.seq (.seq (.reg [o 0 d20 (.q (.mv s0)),
 o 1 d21 (.q (.ldn s4 4)),
 o 2 d22 (.call p108 [s20, s21]),
 o 3 d23 (.q (.lenv s22)),
 o 4 d24 (.q (.mv (.v (.int .i64 (.ofNat 0)))))])
 (.blk 0 (.loop (.seq (.reg [o 0 d25 (.q (.bin .lss s24 s23))])
 (.seq (.cnd s25 .skip (.exit 0))
 (.seq (.blk 1 (.seq (.reg [o 0 d26 (.q (.iadr s22 s24 32)),
 o 1 d27 (.q (.ldn s26 32)),
 o 2 d9 (.e (.alo (zz (.int .u8 (.ofNat 0)) 32))),
 o 3 none (.e (.st s9 s27 32))])
 (.seq (.reg [o 0 d28 (.q (.mv s0)),
 o 1 d29 (.q (.ldn s9 32)),
 o 2 d30 (.call p109 [s28, s29]),
 o 3 d31 (.q (.lenv s30)),
 o 4 d32 (.q (.mv (.v (.int .i64 (.ofNat 0)))))])
 (.blk 2 (.loop (.seq (.reg [o 0 d33 (.q (.bin .lss s32 s31))])
 (.seq (.cnd s33 .skip (.exit 2))
 (.seq (.blk 3 (.seq (.reg [o 0 d34 (.q (.iadr s30 s32 32)),
 o 1 d35 (.q (.ldn s34 32)),
 o 2 d11 (.e (.alo (zz (.int .u8 (.ofNat 0)) 32))),
 o 3 none (.e (.st s11 s35 32))])
 (.reg [o 0 d36 (.q (.mv s7)),
 o 1 d37 (.q (.ldn s11 32)),
 o 2 none (.e (.mup s36 s37 (.v (.bool true)) (.cells (kk .u8 32))))])))
 (.reg [o 0 d38 (.q (.bin .add s32 (.v (.int .i64 (.ofNat 1))))),
 o 1 d32 (.q (.mv s38))])))))))))
 (.reg [o 0 d39 (.q (.bin .add s24 (.v (.int .i64 (.ofNat 1))))),
 o 1 d24 (.q (.mv s39))])))))))
 (.seq (.reg [o 0 d40 (.q (.ldn s4 4)),
 o 1 d41 (.call p72 [s40]),
 o 2 d12 (.q (.mv s41))])
 (.seq (.reg [o 0 d42 (.q (.mv s0)),
 o 1 d43 (.q (.mv s7)),
 o 2 d44 (.call p111 [s43]),
 o 3 d45 (.call p88 [s44]),
 o 4 d46 (.call p110 [s42, s45]),
 o 5 d13 (.e (.alo [(.int .i64 (.ofNat 0)), (.int .i64 (.ofNat 0)), (.int .u64 (.ofNat 0))])),
 o 6 none (.e (.st s13 s46 3))])
 (.seq (.reg [o 0 d47 (.q (.mv s0)),
 o 1 d48 (.q (.ldn s4 4)),
 o 2 d49 (.call p112 [s47, s48]),
 o 3 d14 (.q (.mv s49))])
 (.seq (.seq (.reg [o 0 d50 (.q (.fadr s13 0)),
 o 1 d51 (.q (.ld1 s50)),
 o 2 d52 (.q (.bin .add s51 (.v (.int .i64 (.ofNat 1))))),
 o 3 d53 (.q (.fadr s5 5)),
 o 4 d54 (.q (.ld1 s53)),
 o 5 d55 (.q (.bin .gtr s52 s54)),
 o 6 d56 (.q (.mv s55)),
 ⟨7, d57, (.q (.fadr s13 1)), (some (p56, false)), []⟩,
 ⟨8, d58, (.q (.ld1 s57)), (some (p56, false)), []⟩,
 ⟨9, d59, (.q (.mv s12)), (some (p56, false)), []⟩,
 ⟨10, d60, (.q (.bin .add s58 s59)), (some (p56, false)), []⟩,
 ⟨11, d61, (.q (.fadr s5 6)), (some (p56, false)), []⟩,
 ⟨12, d62, (.q (.ld1 s61)), (some (p56, false)), []⟩,
 ⟨13, d63, (.q (.bin .gtr s60 s62)), (some (p56, false)), []⟩,
 o 14 d64 (.q (.pick s56 (.v (.bool true)) s63)),
 o 15 d65 (.q (.mv s64)),
 ⟨16, d66, (.q (.mv s0)), (some (p65, false)), []⟩,
 ⟨17, d67, (.q (.mv s14)), (some (p65, false)), []⟩,
 ⟨18, d68, (.q (.mv s12)), (some (p65, false)), []⟩,
 ⟨19, d69, (.q (.ldn s5 9)), (some (p65, false)), []⟩,
 ⟨20, d70, (.call p113 [s66, s67, s68, s69]), (some (p65, false)), []⟩,
 o 21 d71 (.q (.pick s65 (.v (.bool true)) s70))])
 (.cnd s71 (.seq (.reg [o 0 d72 (.q (.ld1 (.g p11))),
 o 1 d6 (.q (.mv s72))])
 .ret) .skip))
 (.seq (.seq (.reg [o 0 d73 (.q (.mv s7)),
 o 1 d74 (.e (.rgm s73))])
 (.blk 4 (.loop (.seq (.reg [o 0 d75 (.e (.nxm s74)),
 o 1 d76 (.q (.ext s75 0))])
 (.seq (.cnd s76 .skip (.exit 4))
 (.blk 5 (.seq (.reg [o 0 d77 (.e (.ent s74)),
 o 1 d78 (.q (.ext s77 0)),
 o 2 d15 (.e (.alo (zz (.int .u8 (.ofNat 0)) 32))),
 o 3 none (.e (.st s15 s78 32))])
 (.seq (.reg [o 0 d79 (.q (.mv s14)),
 o 1 d80 (.call p114 [s79]),
 o 2 d16 (.q (.mv s80))])
 (.seq (.seq (.reg [o 0 d81 (.q (.mv s0)),
 o 1 d82 (.q (.ldn s15 32)),
 o 2 d83 (.call p115 [s81, s82]),
 o 3 d84 (.q (.lenv s83)),
 o 4 d85 (.q (.mv (.v (.int .i64 (.ofNat 0)))))])
 (.blk 6 (.loop (.seq (.reg [o 0 d86 (.q (.bin .lss s85 s84))])
 (.seq (.cnd s86 .skip (.exit 6))
 (.seq (.blk 7 (.seq (.reg [o 0 d87 (.q (.iadr s83 s85 32)),
 o 1 d88 (.q (.ldn s87 32)),
 o 2 d18 (.e (.alo (zz (.int .u8 (.ofNat 0)) 32))),
 o 3 none (.e (.st s18 s88 32))])
 (.reg [o 0 d89 (.q (.mv s16)),
 o 1 d90 (.q (.ldn s18 32)),
 o 2 none (.e (.mup s89 s90 (.v (.bool true)) (.cells (kk .u8 32))))])))
 (.reg [o 0 d91 (.q (.bin .add s85 (.v (.int .i64 (.ofNat 1))))),
 o 1 d85 (.q (.mv s91))])))))))
 (.seq (.reg [o 0 d92 (.q (.mv s0)),
 o 1 d93 (.q (.mv s16)),
 o 2 d94 (.q (.mv s12)),
 o 3 d95 (.q (.ldn s5 9)),
 o 4 d96 (.call p113 [s92, s93, s94, s95])])
 (.cnd s96 (.seq (.reg [o 0 d97 (.q (.ld1 (.g p11))),
 o 1 d6 (.q (.mv s97))])
 .ret) .skip)))))))))))
 (.seq (.reg [o 0 d6 (.q (.mv (.v .nili)))])
 .ret)))))))))
 [.t p6]

noncomputable def f71 : FnE := .code 24
 (.seq (.reg [o 0 d4 (.e (.box s1 32)),
 o 1 d6 (.e (.alo (zz (.int .u8 (.ofNat 0)) 32))),
 o 2 d7 (.q (.mv (.v (.bool false))))])
 (.seq (.rgd 0 [o 0 d11 (.q (.mv s0)),
 o 1 d12 (.q (.nck s11)),
 o 2 d13 (.q (.fadr s12 1)),
 o 3 d14 (.q (.ld1 s13)),
 o 4 d15 (.q (.ldn s4 32)),
 o 5 d16 (.q (.mv s2)),
 o 6 d17 (.q (.cvi .u32 s16)),
 o 7 d18 (.q (.bld (lapp (zz (.int .u8 (.ofNat 0)) 32) [(.int .u32 (.ofNat 0))]) [(0, 32, s15), (32, 1, s17)])),
 o 8 d19 (.q (.lkp s14 s18 (.cells [.u8, .u8, .u8, .u8, .u8, .u8, .u8, .u8, .u8, .u8, .u8, .u8, .u8, .u8, .u8, .u8, .u8, .u8, .u8, .u8, .u8, .u8, .u8, .u8, .u8, .u8, .u8, .u8, .u8, .u8, .u8, .u8, .u32]) (.agg (zz (.int .u8 (.ofNat 0)) 32)) true)),
 o 9 d10 (.q (.mv s19)),
 o 10 d20 (.q (.ext s10 0)),
 o 11 d21 (.q (.ext s10 1)),
 ⟨12, d8, (.e (.alo (zz (.int .u8 (.ofNat 0)) 32))), none, [(p14, .ld1 s13, none), (p15, .ldn s4 32, none), (p19, .lkp s14 s18 (.cells [.u8, .u8, .u8, .u8, .u8, .u8, .u8, .u8, .u8, .u8, .u8, .u8, .u8, .u8, .u8, .u8, .u8, .u8, .u8, .u8, .u8, .u8, .u8, .u8, .u8, .u8, .u8, .u8, .u8, .u8, .u8, .u8, .u32]) (.agg (zz (.int .u8 (.ofNat 0)) 32)) true, none)]⟩,
 o 13 none (.e (.st s8 s20 32)),
 o 14 d9 (.q (.mv s21))])
 (.seq (.reg [o 0 d22 (.q (.ldn s8 32)),
 o 1 d23 (.q (.mv s9)),
 o 2 none (.e (.st s6 s22 32)),
 o 3 d7 (.q (.mv s23))])
 .ret)))
 [.cn p6 32, .t p7]

noncomputable def f72 : FnE := .code 6
 (.seq (.reg [o 0 d1 (.e (.box s0 4)),
 o 1 d2 (.q (.mv (.v (.int .i64 (.ofNat 0)))))])
 (.seq (.reg [o 0 d3 (.q (.ldn s1 4)),
 o 1 d4 (.call p47 [s3]),
 o 2 d5 (.q (.lenv s4)),
 o 3 d2 (.q (.mv s5))])
 .ret))
 [.t p2]

noncomputable def f73 : FnE := .code 27
 (.seq (.reg [o 0 d3 (.e (.box s0 3)),
 o 1 d4 (.e (.box s1 7)),
 o 2 d6 (.e (.alo [(.int .i64 (.ofNat 0)), (.int .i64 (.ofNat 0)), (.int .u64 (.ofNat 0))]))])
 (.seq (.reg [o 0 d7 (.q (.fadr s3 0)),
 o 1 d8 (.q (.ld1 s7)),
 o 2 d9 (.q (.mv s2)),
 o 3 d10 (.q (.bin .add s8 s9)),
 o 4 d11 (.q (.fadr s3 1)),
 o 5 d12 (.q (.ld1 s11)),
 o 6 d13 (.q (.mv s2)),
 o 7 d14 (.q (.fadr s4 5)),
 o 8 d15 (.q (.ld1 s14)),
 o 9 d16 (.q (.bin .mul s13 s15)),
 o 10 d17 (.q (.bin .add s12 s16)),
 o 11 d18 (.q (.fadr s3 2)),
 o 12 d19 (.q (.ld1 s18)),
 o 13 d20 (.q (.mv s2)),
 o 14 d21 (.q (.cvi .u64 s20)),
 o 15 d22 (.q (.fadr s4 4)),
 o 16 d23 (.q (.ld1 s22)),
 o 17 d24 (.q (.bin .mul s21 s23)),
 o 18 d25 (.q (.bin .add s19 s24)),
 o 19 d26 (.q (.bld [(.int .i64 (.ofNat 0)), (.int .i64 (.ofNat 0)), (.int .u64 (.ofNat 0))] [(0, 1, s10), (1, 1, s17), (2, 1, s25)])),
 o 20 none (.e (.st s6 s26 3))])
 .ret))
 [.cn p6 3]

noncomputable def f76 : FnE := .code 7
 (.seq (.reg [o 0 d2 (.e (.alo (zz (.int .u8 (.ofNat 0)) 32)))])
 (.seq (.reg [o 0 d3 (.e (.alo [(.int .u32 (.ofNat 0)), (.int .u32 (.ofNat 0)), (.int .u32 (.ofNat 0)), (.int .u32 (.ofNat 0)), (.int .u32 (.ofNat 0)), (.int .u32 (.ofNat 0)), (.int .u32 (.ofNat 0)), (.int .u32 (.ofNat 0)), .nils, (.int .i64 (.ofNat 0))]))])
 (.seq (.reg [o 0 d4 (.q (.mv s0)),
 o 1 d5 (.call p121 [s3, s4])])
 (.seq (.reg [o 0 d6 (.call p122 [s3]),
 o 1 none (.e (.st s2 s6 32))])
 .ret))))
 [.cn p2 32]

noncomputable def f77 : FnE := .code 10
 (.seq (.reg [o 0 d4 (.q (.mv (.v .nils)))])
 (.seq (.reg [o 0 d5 (.q (.mv s0)),
 o 1 d6 (.call p94 [s5]),
 o 2 d7 (.q (.mv s1)),
 o 3 d8 (.q (.cvi .u64 s7)),
 o 4 d9 (.call p123 [s6, s8, (.v (.int .i64 (.ofNat 4)))]),
 o 5 d4 (.q (.mv s9))])
 .ret))
 [.t p4]

noncomputable def f78 : FnE := .code 38
 (.seq (.reg [o 0 d4 (.q (.mv (.v .nils)))])
 (.seq (.reg [o 0 d7 (.q (.mv s0)),
 o 1 d8 (.call p94 [s7]),
 o 2 d5 (.q (.mv s8))])
 (.seq (.seq (.reg [o 0 d9 (.q (.mv s1)),
 o 1 d10 (.call p124 [s9]),
 o 2 d6 (.q (.mv s10))])
 (.seq (.reg [o 0 d11 (.q (.mv s6))])
 (.blk 0 (.seq (.reg [o 0 d13 (.q (.bin .eql s11 (.v (.int .i64 (.ofNat 1))))),
 o 1 d12 (.q (.mv s13))])
 (.cnd s12 (.seq (.reg [o 0 d14 (.q (.mv s5)),
 o 1 d15 (.q (.mv s1)),
 o 2 d16 (.q (.cvi .u8 s15)),
 o 3 d17 (.e (.bsl [(.int .u8 (.ofNat 0))] [(0, 1, s16)] 1 1)),
 o 4 d18 (.e (.app s14 s17 1 1 false)),
 o 5 d4 (.q (.mv s18))])
 .ret) (.seq (.reg [o 0 d20 (.q (.bin .eql s11 (.v (.int .i64 (.ofNat 3))))),
 o 1 d19 (.q (.mv s20))])
 (.cnd s19 (.seq (.reg [o 0 d21 (.q (.mv s5)),
 o 1 d22 (.e (.bsl [(.int .u8 (.ofNat 0))] [(0, 1, (.v (.int .u8 (.ofNat 253))))] 1 1)),
 o 2 d23 (.e (.app s21 s22 1 1 false)),
 o 3 d24 (.q (.mv s1)),
 o 4 d25 (.call p123 [s23, s24, (.v (.int .i64 (.ofNat 2)))]),
 o 5 d4 (.q (.mv s25))])
 .ret) (.seq (.reg [o 0 d27 (.q (.bin .eql s11 (.v (.int .i64 (.ofNat 5))))),
 o 1 d26 (.q (.mv s27))])
 (.cnd s26 (.seq (.reg [o 0 d28 (.q (.mv s5)),
 o 1 d29 (.e (.bsl [(.int .u8 (.ofNat 0))] [(0, 1, (.v (.int .u8 (.ofNat 254))))] 1 1)),
 o 2 d30 (.e (.app s28 s29 1 1 false)),
 o 3 d31 (.q (.mv s1)),
 o 4 d32 (.call p123 [s30, s31, (.v (.int .i64 (.ofNat 4)))]),
 o 5 d4 (.q (.mv s32))])
 .ret) .skip)))))))))
 (.seq (.reg [o 0 d33 (.q (.mv s5)),
 o 1 d34 (.e (.bsl [(.int .u8 (.ofNat 0))] [(0, 1, (.v (.int .u8 (.ofNat 255))))] 1 1)),
 o 2 d35 (.e (.app s33 s34 1 1 false)),
 o 3 d36 (.q (.mv s1)),
 o 4 d37 (.call p123 [s35, s36, (.v (.int .i64 (.ofNat 8)))]),
 o 5 d4 (.q (.mv s37))])
 .ret))))
 [.t p4]

noncomputable def f79 : FnE := .code 9
 (.seq (.reg [o 0 d4 (.q (.mv (.v .nils)))])
 (.seq (.reg [o 0 d5 (.q (.mv s0)),
 o 1 d6 (.call p94 [s5]),
 o 2 d7 (.q (.mv s1)),
 o 3 d8 (.call p123 [s6, s7, (.v (.int .i64 (.ofNat 8)))]),
 o 4 d4 (.q (.mv s8))])
 .ret))
 [.t p4]

noncomputable def f80 : FnE := .code 19
 (.seq (.reg [o 0 d4 (.q (.mv (.v (.int .i64 (.ofNat 0)))))])
 (.seq (.seq (.reg [o 0 d6 (.q (.mv s0)),
 o 1 d7 (.q (.lenv s6)),
 o 2 d8 (.q (.mv (.v (.int .i64 (.ofNat 0)))))])
 (.blk 0 (.loop (.seq (.reg [o 0 d9 (.q (.bin .lss s8 s7))])
 (.seq (.cnd s9 .skip (.exit 0))
 (.seq (.blk 1 (.seq (.reg [o 0 d10 (.q (.mv s8)),
 o 1 d5 (.q (.mv s10))])
 (.seq (.reg [o 0 d11 (.q (.mv s1)),
 o 1 d12 (.q (.mv s0)),
 o 2 d13 (.q (.mv s5)),
 o 3 d14 (.q (.iadr s12 s13 35)),
 o 4 d15 (.q (.ldn s14 35)),
 o 5 d16 (.callv s11 [s15])])
 (.cnd s16 (.seq (.reg [o 0 d17 (.q (.mv s5)),
 o 1 d4 (.q (.mv s17))])
 .ret) .skip))))
 (.reg [o 0 d18 (.q (.bin .add s8 (.v (.int .i64 (.ofNat 1))))),
 o 1 d8 (.q (.mv s18))])))))))
 (.seq (.reg [o 0 d4 (.q (.mv (.v (.int .i64 (.negSucc 0)))))])
 .ret)))
 [.t p4]

noncomputable def f83 : FnE := .code 17
 (.seq (.reg [o 0 d2 (.e (.box s0 33)),
 o 1 d3 (.e (.box s1 33)),
 o 2 d4 (.q (.mv (.v (.bool false))))])
 (.seq (.reg [o 0 d5 (.q (.fadr s2 0)),
 o 1 d6 (.q (.ldn s5 32)),
 o 2 d7 (.q (.fadr s3 0)),
 o 3 d8 (.q (.ldn s7 32)),
 o 4 d9 (.call p85 [s6, s8]),
 o 5 d10 (.q (.mv s9)),
 ⟨6, d11, (.q (.fadr s2 32)), (some (p10, true)), []⟩,
 ⟨7, d12, (.q (.ld1 s11)), (some (p10, true)), []⟩,
 ⟨8, d13, (.q (.fadr s3 32)), (some (p10, true)), []⟩,
 ⟨9, d14, (.q (.ld1 s13)), (some (p10, true)), []⟩,
 ⟨10, d15, (.q (.bin .eql s12 s14)), (some (p10, true)), []⟩,
 o 11 d16 (.q (.pick s10 s15 (.v (.bool false)))),
 o 12 d4 (.q (.mv s16))])
 .ret))
 [.t p4]

noncomputable def f84 : FnE := .code 29
 (.seq (.reg [o 0 d4 (.q (.mv (.v (.bool false))))])
 (.seq (.seq (.reg [o 0 d7 (.q (.mv s0)),
 o 1 d8 (.q (.lenv s7)),
 o 2 d9 (.q (.mv s1)),
 o 3 d10 (.q (.lenv s9)),
 o 4 d11 (.q (.bin .neq s8 s10))])
 (.cnd s11 (.seq (.reg [o 0 d4 (.q (.mv (.v (.bool false))))])
 .ret) .skip))
 (.seq (.seq (.reg [o 0 d5 (.q (.mv (.v (.int .i64 (.ofNat 0)))))])
 (.blk 0 (.loop (.seq (.seq (.reg [o 0 d12 (.q (.mv s5)),
 o 1 d13 (.q (.mv s0)),
 o 2 d14 (.q (.lenv s13)),
 o 3 d15 (.q (.bin .lss s12 s14))])
 (.cnd s15 .skip (.exit 0)))
 (.seq (.blk 1 (.seq (.rgd 0 [o 0 d18 (.q (.mv s0)),
 o 1 d19 (.q (.mv s5)),
 o 2 d20 (.q (.iadr s18 s19 1)),
 o 3 d21 (.q (.ld1 s20)),
 o 4 d22 (.q (.mv s1)),
 o 5 d23 (.q (.mv s5)),
 o 6 d24 (.q (.iadr s22 s23 1)),
 o 7 d25 (.q (.ld1 s24)),
 o 8 d26 (.q (.bin .eql s21 s25)),
 o 9 d6 (.q (.mv s26))])
 (.seq (.reg [o 0 d27 (.q (.mv s6)),
 o 1 d28 (.q (.not s27))])
 (.cnd s28 (.seq (.reg [o 0 d4 (.q (.mv (.v (.bool false))))])
 .ret) .skip))))
 (.reg [o 0 d16 (.q (.mv s5)),
 o 1 d17 (.q (.bin .add s16 (.v (.int .i64 (.ofNat 1))))),
 o 2 d5 (.q (.mv s17))]))))))
 (.seq (.reg [o 0 d4 (.q (.mv (.v (.bool true))))])
 .ret))))
 [.t p4]

noncomputable def f85 : FnE := .code 17
 (.seq (.reg [o 0 d2 (.e (.box s0 32)),
 o 1 d3 (.e (.box s1 32)),
 o 2 d4 (.q (.mv (.v (.bool false))))])
 (.seq (.seq (.reg [o 0 d5 (.q (.mv (.v (.int .i64 (.ofNat 0)))))])
 (.blk 0 (.loop (.seq (.seq (.reg [o 0 d6 (.q (.mv s5)),
 o 1 d7 (.q (.bin .lss s6 (.v (.int .i64 (.ofNat 32)))))])
 (.cnd s7 .skip (.exit 0)))
 (.seq (.blk 1 (.seq (.rgd 0 [o 0 d10 (.q (.mv s5)),
 o 1 d11 (.q (.iada s2 s10 1 32)),
 o 2 d12 (.q (.ld1 s11)),
 o 3 d13 (.q (.mv s5)),
 o 4 d14 (.q (.iada s3 s13 1 32)),
 o 5 d15 (.q (.ld1 s14)),
 o 6 d16 (.q (.bin .neq s12 s15))])
 (.cnd s16 (.seq (.reg [o 0 d4 (.q (.mv (.v (.bool false))))])
 .ret) .skip)))
 (.reg [o 0 d8 (.q (.mv s5)),
 o 1 d9 (.q (.bin .add s8 (.v (.int .i64 (.ofNat 1))))),
 o 2 d5 (.q (.mv s9))]))))))
 (.seq (.reg [o 0 d4 (.q (.mv (.v (.bool true))))])
 .ret)))
 [.t p4]

noncomputable def f86 : FnE := .code 4
 (.seq (.reg [o 0 d1 (.e (.box s0 1)),
 o 1 d2 (.q (.mv (.v .nilf)))])
 (.seq (.reg [o 0 d3 (.q (.mkf 127 [] [s1])),
 o 1 d2 (.q (.mv s3))])
 .ret))
 [.t p2]

noncomputable def f87 : FnE := .code 21
 (.seq (.reg [o 0 d3 (.e (.box s0 32)),
 o 1 d4 (.e (.box s1 32)),
 o 2 d5 (.q (.mv (.v (.int .i64 (.ofNat 0)))))])
 (.seq (.rgd 0 [o 0 d6 (.q (.ld1 s2)),
 o 1 d7 (.q (.nck s6)),
 o 2 d8 (.q (.fadr s7 0)),
 o 3 d9 (.q (.ld1 s8)),
 o 4 d10 (.q (.ldn s3 32)),
 o 5 d11 (.q (.lkp s9 s10 (.cells (kk .u8 32)) (.agg [(.int .u32 (.ofNat 0)), .nils, .nils, (.int .u32 (.ofNat 0)), (.int .u64 (.ofNat 0)), (.int .i64 (.ofNat 0)), (.int .i64 (.ofNat 0))]) false)),
 o 6 d12 (.q (.fld s11 6 1 false)),
 o 7 d13 (.q (.ld1 s2)),
 o 8 d14 (.q (.nck s13)),
 o 9 d15 (.q (.fadr s14 0)),
 o 10 d16 (.q (.ld1 s15)),
 o 11 d17 (.q (.ldn s4 32)),
 o 12 d18 (.q (.lkp s16 s17 (.cells (kk .u8 32)) (.agg [(.int .u32 (.ofNat 0)), .nils, .nils, (.int .u32 (.ofNat 0)), (.int .u64 (.ofNat 0)), (.int .i64 (.ofNat 0)), (.int .i64 (.ofNat 0))]) false)),
 o 13 d19 (.q (.fld s18 6 1 false)),
 o 14 d20 (.q (.bin .sub s12 s19)),
 o 15 d5 (.q (.mv s20))])
 .ret))
 [.t p5]

noncomputable def f88 : FnE := .code 5
 (.seq (.reg [o 0 d2 (.q (.mv (.v .nils)))])
 (.seq (.reg [o 0 d3 (.q (.mv s0)),
 o 1 d4 (.call p128 [(.v .nils), s3]),
 o 2 d2 (.q (.mv s4))])
 .ret))
 [.t p2]

noncomputable def f89 : FnE := .code 14
 (.seq (.reg [o 0 d5 (.q (.mv s0)),
 o 1 d6 (.q (.lenv s5)),
 o 2 d4 (.q (.mv s6))])
 (.reg [o 0 d7 (.q (.mv s0)),
 o 1 d8 (.q (.mv s4)),
 o 2 d9 (.q (.mv s4)),
 o 3 d10 (.q (.cvi .u64 s9)),
 o 4 d11 (.call p130 [s10]),
 o 5 d12 (.q (.mv s1)),
 o 6 d13 (.call p129 [s7, (.v (.int .i64 (.ofNat 0))), s8, s11, s12])]))
 []

noncomputable def f92 : FnE := .code 8
 (.seq (.reg [o 0 d2 (.q (.mv (.v .nils)))])
 (.seq (.seq (.reg [o 0 d3 (.q (.mv s0)),
 o 1 d4 (.q (.eqp .slice false s3 (.v .nils)))])
 (.cnd s4 (.seq (.reg [o 0 d2 (.q (.mv (.v .nils)))])
 .ret) .skip))
 (.seq (.reg [o 0 d5 (.e (.bsl [] [] 0 35)),
 o 1 d6 (.q (.mv s0)),
 o 2 d7 (.e (.app s5 s6 35 72 false)),
 o 3 d2 (.q (.mv s7))])
 .ret)))
 [.t p2]

noncomputable def f93 : FnE := .code 8
 (.seq (.reg [o 0 d2 (.q (.mv (.v .nils)))])
 (.seq (.seq (.reg [o 0 d3 (.q (.mv s0)),
 o 1 d4 (.q (.eqp .slice false s3 (.v .nils)))])
 (.cnd s4 (.seq (.reg [o 0 d2 (.q (.mv (.v .nils)))])
 .ret) .skip))
 (.seq (.reg [o 0 d5 (.e (.bsl [] [] 0 33)),
 o 1 d6 (.q (.mv s0)),
 o 2 d7 (.e (.app s5 s6 33 40 false)),
 o 3 d2 (.q (.mv s7))])
 .ret)))
 [.t p2]

noncomputable def f94 : FnE := .code 8
 (.seq (.reg [o 0 d2 (.q (.mv (.v .nils)))])
 (.seq (.seq (.reg [o 0 d3 (.q (.mv s0)),
 o 1 d4 (.q (.eqp .slice false s3 (.v .nils)))])
 (.cnd s4 (.seq (.reg [o 0 d2 (.q (.mv (.v .nils)))])
 .ret) .skip))
 (.seq (.reg [o 0 d5 (.e (.bsl [] [] 0 1)),
 o 1 d6 (.q (.mv s0)),
 o 2 d7 (.e (.app s5 s6 1 1 false)),
 o 3 d2 (.q (.mv s7))])
 .ret)))
 [.t p2]

noncomputable def f95 : FnE := .code 12
 (.seq (.reg [o 0 d2 (.q (.mv (.v (.int .i64 (.ofNat 0)))))])
 (.seq (.blk 0 (.seq (.reg [o 0 d4 (.q (.mv s0)),
 o 1 d5 (.q (.bin .lss s4 (.v (.int .u64 (.ofNat 253))))),
 o 2 d3 (.q (.mv s5))])
 (.cnd s3 (.seq (.reg [o 0 d2 (.q (.mv (.v (.int .i64 (.ofNat 1)))))])
 .ret) (.seq (.reg [o 0 d7 (.q (.mv s0)),
 o 1 d8 (.q (.bin .lss s7 (.v (.int .u64 (.ofNat 65536))))),
 o 2 d6 (.q (.mv s8))])
 (.cnd s6 (.seq (.reg [o 0 d2 (.q (.mv (.v (.int .i64 (.ofNat 3)))))])
 .ret) (.seq (.reg [o 0 d10 (.q (.mv s0)),
 o 1 d11 (.q (.bin .lss s10 (.v (.int .u64 (.ofNat 4294967296))))),
 o 2 d9 (.q (.mv s11))])
 (.cnd s9 (.seq (.reg [o 0 d2 (.q (.mv (.v (.int .i64 (.ofNat 5)))))])
 .ret) .skip)))))))
 (.seq (.reg [o 0 d2 (.q (.mv (.v (.int .i64 (.ofNat 9)))))])
 .ret)))
 [.t p2]

noncomputable def f96 : FnE := .code 23
 (.seq (.reg [o 0 d6 (.q (.mv (.v .nils)))])
 (.seq (.seq (.reg [o 0 d7 (.q (.mv (.v (.int .i64 (.ofNat 0)))))])
 (.blk 0 (.loop (.seq (.seq (.reg [o 0 d8 (.q (.mv s7)),
 o 1 d9 (.q (.mv s2)),
 o 2 d10 (.q (.bin .lss s8 s9))])
 (.cnd s10 .skip (.exit 0)))
 (.seq (.blk 1 (.reg [o 0 d13 (.q (.mv s0)),
 o 1 d14 (.q (.mv s1)),
 o 2 d15 (.q (.mv s7)),
 o 3 d16 (.q (.bin .mul (.v (.int .i64 (.ofNat 8))) s15)),
 o 4 d17 (.q (.cvi .u64 s16)),
 o 5 d18 (.q (.shf false s14 s17)),
 o 6 d19 (.q (.cvi .u8 s18)),
 o 7 d20 (.e (.bsl [(.int .u8 (.ofNat 0))] [(0, 1, s19)] 1 1)),
 o 8 d21 (.e (.app s13 s20 1 1 false)),
 o 9 d0 (.q (.mv s21))]))
 (.reg [o 0 d11 (.q (.mv s7)),
 o 1 d12 (.q (.bin .add s11 (.v (.int .i64 (.ofNat 1))))),
 o 2 d7 (.q (.mv s12))]))))))
 (.seq (.reg [o 0 d22 (.q (.mv s0)),
 o 1 d6 (.q (.mv s22))])
 .ret)))
 [.t p6]

noncomputable def f97 : FnE := .code 7
 (.seq (.reg [o 0 d1 (.e (.box s0 35)),
 o 1 d2 (.q (.mv (.v (.bool false))))])
 (.seq (.reg [o 0 d3 (.q (.fadr s1 33)),
 o 1 d4 (.q (.ld1 s3)),
 o 2 d5 (.q (.lenv s4)),
 o 3 d6 (.q (.bin .gtr s5 (.v (.int .i64 (.ofNat 80))))),
 o 4 d2 (.q (.mv s6))])
 .ret))
 [.t p2]

noncomputable def f98 : FnE := .code 9
 (.seq (.reg [o 0 d1 (.e (.box s0 4)),
 o 1 d2 (.q (.mv (.v (.int .u64 (.ofNat 0))))),
 o 2 d3 (.q (.mv (.v (.bool false))))])
 (.seq (.reg [o 0 d4 (.q (.ldn s1 4)),
 o 1 d5 (.call p133 [s4]),
 o 2 d6 (.call p132 [s5]),
 o 3 d7 (.q (.ext s6 0)),
 o 4 d8 (.q (.ext s6 1)),
 o 5 d2 (.q (.mv s7)),
 o 6 d3 (.q (.mv s8))])
 .ret))
 [.t p2, .t p3]

noncomputable def f99 : FnE := .code 22
 (.seq (.reg [o 0 d1 (.e (.box s0 4)),
 o 1 d2 (.q (.mv (.v (.bool false))))])
 (.seq (.reg [o 0 d6 (.e (.mkm (.cells [.u8, .u8, .u8, .u8, .u8, .u8, .u8, .u8, .u8, .u8, .u8, .u8, .u8, .u8, .u8, .u8, .u8, .u8, .u8, .u8, .u8, .u8, .u8, .u8, .u8, .u8, .u8, .u8, .u8, .u8, .u8, .u8, .u32]))),
 o 1 d3 (.q (.mv s6))])
 (.seq (.seq (.reg [o 0 d7 (.q (.fadr s1 1)),
 o 1 d8 (.q (.ld1 s7)),
 o 2 d9 (.q (.lenv s8)),
 o 3 d10 (.q (.mv (.v (.int .i64 (.ofNat 0)))))])
 (.blk 0 (.loop (.seq (.reg [o 0 d11 (.q (.bin .lss s10 s9))])
 (.seq (.cnd s11 .skip (.exit 0))
 (.seq (.blk 1 (.seq (.reg [o 0 d12 (.q (.iadr s8 s10 35)),
 o 1 d13 (.q (.ldn s12 35)),
 o 2 d5 (.e (.alo (lapp (zz (.int .u8 (.ofNat 0)) 32) [(.int .u32 (.ofNat 0)), .nils, (.int .u32 (.ofNat 0))]))),
 o 3 none (.e (.st s5 s13 35))])
 (.seq (.seq (.reg [o 0 d14 (.q (.mv s3)),
 o 1 d15 (.q (.fadr s5 0)),
 o 2 d16 (.q (.ldn s15 33)),
 o 3 d17 (.q (.lkp s14 s16 (.cells [.u8, .u8, .u8, .u8, .u8, .u8, .u8, .u8, .u8, .u8, .u8, .u8, .u8, .u8, .u8, .u8, .u8, .u8, .u8, .u8, .u8, .u8, .u8, .u8, .u8, .u8, .u8, .u8, .u8, .u8, .u8, .u8, .u32]) (.bool false) false))])
 (.cnd s17 (.seq (.reg [o 0 d2 (.q (.mv (.v (.bool true))))])
 .ret) .skip))
 (.reg [o 0 d18 (.q (.mv s3)),
 o 1 d19 (.q (.fadr s5 0)),
 o 2 d20 (.q (.ldn s19 33)),
 o 3 none (.e (.mup s18 s20 (.v (.bool true)) (.cells [.u8, .u8, .u8, .u8, .u8, .u8, .u8, .u8, .u8, .u8, .u8, .u8, .u8, .u8, .u8, .u8, .u8, .u8, .u8, .u8, .u8, .u8, .u8, .u8, .u8, .u8, .u8, .u8, .u8, .u8, .u8, .u8, .u32])))]))))
 (.reg [o 0 d21 (.q (.bin .add s10 (.v (.int .i64 (.ofNat 1))))),
 o 1 d10 (.q (.mv s21))])))))))
 (.seq (.reg [o 0 d2 (.q (.mv (.v (.bool false))))])
 .ret))))
 [.t p2]

noncomputable def f100 : FnE := .code 17
 (.seq (.reg [o 0 d1 (.e (.box s0 4)),
 o 1 d2 (.q (.mv (.v .nili)))])
 (.seq (.seq (.reg [o 0 d3 (.q (.ldn s1 4)),
 o 1 d4 (.call p67 [s3])])
 (.cnd s4 (.seq (.seq (.reg [o 0 d5 (.q (.fadr s1 1)),
 o 1 d6 (.q (.ld1 s5)),
 o 2 d7 (.q (.iadr s6 (.v (.int .i64 (.ofNat 0))) 35)),
 o 3 d8 (.q (.fadr s7 33)),
 o 4 d9 (.q (.ld1 s8)),
 o 5 d10 (.q (.lenv s9)),
 o 6 d11 (.q (.bin .lss s10 (.v (.int .i64 (.ofNat 4)))))])
 (.cnd s11 (.seq (.reg [o 0 d12 (.q (.ld1 (.g p4))),
 o 1 d2 (.q (.mv s12))])
 .ret) .skip))
 (.seq (.reg [o 0 d2 (.q (.mv (.v .nili)))])
 .ret)) .skip))
 (.seq (.seq (.reg [o 0 d13 (.q (.fadr s1 1)),
 o 1 d14 (.q (.ld1 s13)),
 o 2 d15 (.call p50 [s14, (.f 134)])])
 (.cnd s15 (.seq (.reg [o 0 d16 (.q (.ld1 (.g p4))),
 o 1 d2 (.q (.mv s16))])
 .ret) .skip))
 (.seq (.reg [o 0 d2 (.q (.mv (.v .nili)))])
 .ret))))
 [.t p2]

noncomputable def f101 : FnE := .code 6
 (.seq (.reg [o 0 d1 (.e (.box s0 33)),
 o 1 d2 (.q (.mv (.v (.bool false))))])
 (.seq (.rgd 0 [o 0 d3 (.q (.ldn s1 33)),
 ⟨1, d4, (.call p135 []), none, [(p3, .ldn s1 33, none)]⟩,
 o 2 d5 (.q (.eqa false [.u8, .u8, .u8, .u8, .u8, .u8, .u8, .u8, .u8, .u8, .u8, .u8, .u8, .u8, .u8, .u8, .u8, .u8, .u8, .u8, .u8, .u8, .u8, .u8, .u8, .u8, .u8, .u8, .u8, .u8, .u8, .u8, .u32] s3 s4)),
 o 3 d2 (.q (.mv s5))])
 .ret))
 [.t p2]

noncomputable def f102 : FnE := .code 14
 (.seq (.reg [o 0 d4 (.q (.mv (.v .nili)))])
 (.seq (.seq (.reg [o 0 d5 (.q (.mv s0)),
 o 1 d6 (.q (.bin .lss s5 (.v (.int .i64 (.ofNat 1))))),
 o 2 d7 (.q (.mv s6)),
 ⟨3, d8, (.q (.mv s1)), (some (p7, false)), []⟩,
 ⟨4, d9, (.q (.lenv s8)), (some (p7, false)), []⟩,
 ⟨5, d10, (.q (.mv s0)), (some (p7, false)), []⟩,
 ⟨6, d11, (.q (.bin .neq s9 s10)), (some (p7, false)), []⟩,
 o 7 d12 (.q (.pick s7 (.v (.bool true)) s11))])
 (.cnd s12 (.seq (.reg [o 0 d13 (.q (.ld1 (.g p7))),
 o 1 d4 (.q (.mv s13))])
 .ret) .skip))
 (.seq (.reg [o 0 d4 (.q (.mv (.v .nili)))])
 .ret)))
 [.t p4]

noncomputable def f103 : FnE := .code 18
 (.seq (.reg [o 0 d3 (.e (.box s0 35)),
 o 1 d6 (.q (.mv (.v (.bool false))))])
 (.seq (.reg [o 0 d7 (.q (.fadr s3 34)),
 o 1 d8 (.q (.ld1 s7)),
 o 2 d9 (.q (.not s8)),
 o 3 d10 (.q (.mv s9)),
 ⟨4, d11, (.q (.fadr s3 33)), (some (p10, false)), []⟩,
 ⟨5, d12, (.q (.ld1 s11)), (some (p10, false)), []⟩,
 ⟨6, d13, (.q (.mv s2)), (some (p10, false)), []⟩,
 ⟨7, d14, (.q (.bin .add s12 s13)), (some (p10, false)), []⟩,
 ⟨8, d15, (.q (.mv s1)), (some (p10, false)), []⟩,
 ⟨9, d16, (.q (.bin .leq s14 s15)), (some (p10, false)), []⟩,
 o 10 d17 (.q (.pick s10 (.v (.bool true)) s16)),
 o 11 d6 (.q (.mv s17))])
 .ret))
 [.t p6]

noncomputable def f104 : FnE := .code 24
 (.seq (.reg [o 0 d3 (.e (.box s0 35)),
 o 1 d6 (.q (.mv (.v (.int .u32 (.ofNat 0)))))])
 (.seq (.seq (.reg [o 0 d7 (.q (.fadr s3 33)),
 o 1 d8 (.q (.ld1 s7)),
 o 2 d9 (.q (.mv s1)),
 o 3 d10 (.q (.bin .geq s8 s9))])
 (.cnd s10 (.seq (.reg [o 0 d11 (.q (.mv s2)),
 o 1 d12 (.q (.mv s2)),
 o 2 d13 (.q (.lenv s12)),
 o 3 d14 (.q (.bin .sub s13 (.v (.int .i64 (.ofNat 1))))),
 o 4 d15 (.q (.iadr s11 s14 1)),
 o 5 d16 (.q (.ld1 s15)),
 o 6 d6 (.q (.mv s16))])
 .ret) .skip))
 (.seq (.reg [o 0 d17 (.q (.mv s2)),
 o 1 d18 (.q (.fadr s3 33)),
 o 2 d19 (.q (.ld1 s18)),
 o 3 d20 (.q (.bin .sub s19 (.v (.int .i64 (.ofNat 1))))),
 o 4 d21 (.q (.mnx true s20 (.v (.int .i64 (.ofNat 0))))),
 o 5 d22 (.q (.iadr s17 s21 1)),
 o 6 d23 (.q (.ld1 s22)),
 o 7 d6 (.q (.mv s23))])
 .ret)))
 [.t p6]

noncomputable def f105 : FnE := .code 77
 (.seq (.reg [o 0 d2 (.e (.box s0 4)),
 o 1 d4 (.q (.mv (.v (.int .u64 (.ofNat 0))))),
 o 2 d5 (.q (.mv (.v .nili)))])
 (.seq (.seq (.reg [o 0 d13 (.q (.mv s1)),
 o 1 d14 (.q (.lenv s13)),
 o 2 d15 (.q (.fadr s2 1)),
 o 3 d16 (.q (.ld1 s15)),
 o 4 d17 (.q (.lenv s16)),
 o 5 d18 (.q (.bin .neq s14 s17))])
 (.cnd s18 (.seq (.rgd 0 [o 0 d19 (.q (.ld1 (.g p7))),
 o 1 d4 (.q (.mv (.v (.int .u64 (.ofNat 0))))),
 o 2 d5 (.q (.mv s19))])
 .ret) .skip))
 (.seq (.reg [o 0 d6 (.q (.mv (.v .nils)))])
 (.seq (.seq (.reg [o 0 d20 (.q (.fadr s2 1)),
 o 1 d21 (.q (.ld1 s20)),
 o 2 d22 (.q (.lenv s21)),
 o 3 d23 (.q (.mv (.v (.int .i64 (.ofNat 0)))))])
 (.blk 0 (.loop (.seq (.reg [o 0 d24 (.q (.bin .lss s23 s22))])
 (.seq (.cnd s24 .skip (.exit 0))
 (.seq (.blk 1 (.seq (.reg [o 0 d25 (.q (.mv s23)),
 o 1 d26 (.q (.iadr s21 s23 35)),
 o 2 d27 (.q (.ldn s26 35)),
 o 3 d8 (.e (.alo (lapp (zz (.int .u8 (.ofNat 0)) 32) [(.int .u32 (.ofNat 0)), .nils, (.int .u32 (.ofNat 0))]))),
 o 4 d7 (.q (.mv s25)),
 o 5 none (.e (.st s8 s27 35))])
 (.seq (.seq (.rgd 0 [o 0 d28 (.q (.fadr s8 33)),
 o 1 d29 (.q (.ld1 s28)),
 o 2 d30 (.q (.mv s1)),
 o 3 d31 (.q (.mv s7)),
 o 4 d32 (.q (.iadr s30 s31 35)),
 o 5 d33 (.q (.fadr s32 1)),
 o 6 d34 (.q (.ldn s33 32)),
 o 7 d35 (.call p136 [s29, s34]),
 o 8 d36 (.q (.not s35))])
 (.cnd s36 (.seq (.rgd 0 [o 0 d37 (.q (.mv s7)),
 o 1 d38 (.q (.ld1 (.g p14))),
 o 2 d39 (.q (.bld [(.int .i64 (.ofNat 0)), .nili] [(0, 1, s37), (1, 1, s38)])),
 o 5 d4 (.q (.mv (.v (.int .u64 (.ofNat 0))))),
 o 3 d40 (.e (.box s39 2)),
 o 4 d41 (.q (.mki 147 s40)),
 o 6 d5 (.q (.mv s41))])
 .ret) .skip))
 (.reg [o 0 d42 (.q (.mv s6)),
 o 1 d43 (.q (.mv s1)),
 o 2 d44 (.q (.mv s7)),
 o 3 d45 (.q (.iadr s43 s44 35)),
 o 4 d46 (.q (.fadr s45 0)),
 o 5 d47 (.q (.ld1 s46)),
 o 6 d48 (.e (.bsl [(.int .u64 (.ofNat 0))] [(0, 1, s47)] 1 1)),
 o 7 d49 (.e (.app s42 s48 1 8 false)),
 o 8 d6 (.q (.mv s49))]))))
 (.reg [o 0 d50 (.q (.bin .add s23 (.v (.int .i64 (.ofNat 1))))),
 o 1 d23 (.q (.mv s50))])))))))
 (.seq (.reg [o 0 d52 (.q (.mv s6)),
 o 1 d53 (.call p132 [s52]),
 o 2 d51 (.q (.mv s53)),
 o 3 d54 (.q (.ext s51 0)),
 o 4 d55 (.q (.ext s51 1)),
 o 5 d9 (.q (.mv s54)),
 o 6 d10 (.q (.mv s55))])
 (.seq (.reg [o 0 d57 (.q (.ldn s2 4)),
 o 1 d58 (.call p98 [s57]),
 o 2 d56 (.q (.mv s58)),
 o 3 d59 (.q (.ext s56 0)),
 o 4 d60 (.q (.ext s56 1)),
 o 5 d11 (.q (.mv s59)),
 o 6 d12 (.q (.mv s60))])
 (.seq (.blk 2 (.seq (.reg [o 0 d62 (.q (.mv s10)),
 o 1 d63 (.q (.not s62)),
 o 2 d64 (.q (.mv s63)),
 ⟨3, d65, (.q (.mv s12)), (some (p64, false)), []⟩,
 ⟨4, d66, (.q (.not s65)), (some (p64, false)), []⟩,
 o 5 d67 (.q (.pick s64 (.v (.bool true)) s66)),
 o 6 d61 (.q (.mv s67))])
 (.cnd s61 (.seq (.rgd 0 [o 0 d68 (.q (.ld1 (.g p2))),
 o 1 d4 (.q (.mv (.v (.int .u64 (.ofNat 0))))),
 o 2 d5 (.q (.mv s68))])
 .ret) (.seq (.reg [o 0 d70 (.q (.mv s9)),
 o 1 d71 (.q (.mv s11)),
 o 2 d72 (.q (.bin .lss s70 s71)),
 o 3 d69 (.q (.mv s72))])
 (.cnd s69 (.seq (.rgd 0 [o 0 d73 (.q (.ld1 (.g p16))),
 o 1 d4 (.q (.mv (.v (.int .u64 (.ofNat 0))))),
 o 2 d5 (.q (.mv s73))])
 .ret) .skip)))))
 (.seq (.reg [o 0 d74 (.q (.mv s9)),
 o 1 d75 (.q (.mv s11)),
 o 2 d76 (.q (.bin .sub s74 s75)),
 o 3 d4 (.q (.mv s76)),
 o 4 d5 (.q (.mv (.v .nili)))])
 .ret))))))))
 [.t p4, .t p5]

noncomputable def f106 : FnE := .code 36
 (.seq (.reg [o 0 d3 (.e (.box s0 4)),
 o 1 d6 (.q (.mv (.v (.bool false))))])
 (.seq (.blk 0 (.seq (.reg [o 0 d8 (.q (.fadr s3 3)),
 o 1 d9 (.q (.ld1 s8)),
 o 2 d10 (.q (.bin .eql s9 (.v (.int .u32 (.ofNat 0))))),
 o 3 d7 (.q (.mv s10))])
 (.cnd s7 (.seq (.reg [o 0 d6 (.q (.mv (.v (.bool true))))])
 .ret) (.seq (.reg [o 0 d12 (.q (.fadr s3 3)),
 o 1 d13 (.q (.ld1 s12)),
 o 2 d14 (.q (.bin .lss s13 (.v (.int .u32 (.ofNat 500000000))))),
 o 3 d15 (.q (.mv s14)),
 ⟨4, d16, (.q (.fadr s3 3)), (some (p15, true)), []⟩,
 ⟨5, d17, (.q (.ld1 s16)), (some (p15, true)), []⟩,
 ⟨6, d18, (.q (.cvi .i64 s17)), (some (p15, true)), []⟩,
 ⟨7, d19, (.q (.mv s1)), (some (p15, true)), []⟩,
 ⟨8, d20, (.q (.bin .lss s18 s19)), (some (p15, true)), []⟩,
 o 9 d21 (.q (.pick s15 s20 (.v (.bool false)))),
 o 10 d11 (.q (.mv s21))])
 (.cnd s11 (.seq (.reg [o 0 d6 (.q (.mv (.v (.bool true))))])
 .ret) (.seq (.reg [o 0 d23 (.q (.fadr s3 3)),
 o 1 d24 (.q (.ld1 s23)),
 o 2 d25 (.q (.bin .geq s24 (.v (.int .u32 (.ofNat 500000000))))),
 o 3 d26 (.q (.mv s25)),
 ⟨4, d27, (.q (.fadr s3 3)), (some (p26, true)), []⟩,
 ⟨5, d28, (.q (.ld1 s27)), (some (p26, true)), []⟩,
 ⟨6, d29, (.q (.mv s2)), (some (p26, true)), []⟩,
 ⟨7, d30, (.q (.bin .lss s28 s29)), (some (p26, true)), []⟩,
 o 8 d31 (.q (.pick s26 s30 (.v (.bool false)))),
 o 9 d22 (.q (.mv s31))])
 (.cnd s22 (.seq (.reg [o 0 d6 (.q (.mv (.v (.bool true))))])
 .ret) .skip)))))))
 (.seq (.reg [o 0 d32 (.q (.fadr s3 1)),
 o 1 d33 (.q (.ld1 s32)),
 o 2 d34 (.call p50 [s33, (.f 137)]),
 o 3 d35 (.q (.not s34)),
 o 4 d6 (.q (.mv s35))])
 .ret)))
 [.t p6]

noncomputable def f107 : FnE := .code 34
 (.seq (.reg [o 0 d5 (.e (.box s0 4)),
 o 1 d10 (.q (.mv (.v (.bool false))))])
 (.seq (.reg [o 0 d15 (.q (.ldn s5 4)),
 o 1 d16 (.q (.mv s1)),
 o 2 d17 (.q (.mv s2)),
 o 3 d18 (.call p138 [s15, s16, s17]),
 o 4 d14 (.q (.mv s18)),
 o 5 d19 (.q (.ext s14 0)),
 o 6 d20 (.q (.ext s14 1)),
 o 7 d21 (.q (.ext s14 2)),
 o 8 d11 (.q (.mv s19)),
 o 9 d12 (.q (.mv s20)),
 o 10 d13 (.q (.mv s21))])
 (.seq (.reg [o 0 d22 (.q (.mv s13)),
 o 1 d23 (.q (.mv s22)),
 ⟨2, d24, (.q (.mv s3)), (some (p23, true)), []⟩,
 ⟨3, d25, (.q (.mv s11)), (some (p23, true)), []⟩,
 ⟨4, d26, (.q (.bin .gtr s24 s25)), (some (p23, true)), []⟩,
 o 5 d27 (.q (.pick s23 s26 (.v (.bool false)))),
 o 6 d28 (.q (.mv s27)),
 ⟨7, d29, (.q (.mv s4)), (some (p28, true)), []⟩,
 ⟨8, d30, (.q (.cvi .i64 s29)), (some (p28, true)), []⟩,
 ⟨9, d31, (.q (.mv s12)), (some (p28, true)), []⟩,
 ⟨10, d32, (.q (.bin .gtr s30 s31)), (some (p28, true)), []⟩,
 o 11 d33 (.q (.pick s28 s32 (.v (.bool false)))),
 o 12 d10 (.q (.mv s33))])
 .ret)))
 [.t p10]

noncomputable def f108 : FnE := .code 48
 (.seq (.reg [o 0 d3 (.e (.box s1 4)),
 o 1 d4 (.q (.mv (.v .nils)))])
 (.seq (.reg [o 0 d5 (.q (.mv (.v .nils)))])
 (.seq (.seq (.reg [o 0 d10 (.q (.fadr s3 1)),
 o 1 d11 (.q (.ld1 s10)),
 o 2 d12 (.q (.lenv s11)),
 o 3 d13 (.q (.mv (.v (.int .i64 (.ofNat 0)))))])
 (.blk 0 (.loop (.seq (.reg [o 0 d14 (.q (.bin .lss s13 s12))])
 (.seq (.cnd s14 .skip (.exit 0))
 (.seq (.blk 1 (.seq (.reg [o 0 d15 (.q (.iadr s11 s13 35)),
 o 1 d16 (.q (.ldn s15 35)),
 o 2 d7 (.e (.alo (lapp (zz (.int .u8 (.ofNat 0)) 32) [(.int .u32 (.ofNat 0)), .nils, (.int .u32 (.ofNat 0))]))),
 o 3 none (.e (.st s7 s16 35))])
 (.seq (.rgd 0 [o 0 d18 (.q (.mv s0)),
 o 1 d19 (.q (.nck s18)),
 o 2 d20 (.q (.fadr s19 0)),
 o 3 d21 (.q (.ld1 s20)),
 o 4 d22 (.q (.fadr s7 0)),
 o 5 d23 (.q (.fadr s22 0)),
 o 6 d24 (.q (.ldn s23 32)),
 o 7 d25 (.q (.lkp s21 s24 (.cells (kk .u8 32)) (.agg [(.int .u32 (.ofNat 0)), .nils, .nils, (.int .u32 (.ofNat 0)), (.int .u64 (.ofNat 0)), (.int .i64 (.ofNat 0)), (.int .i64 (.ofNat 0))]) true)),
 o 8 d17 (.q (.mv s25)),
 o 9 d26 (.q (.ext s17 0)),
 o 10 d27 (.q (.ext s17 1)),
 ⟨11, d8, (.e (.alo [(.int .u32 (.ofNat 0)), .nils, .nils, (.int .u32 (.ofNat 0)), (.int .u64 (.ofNat 0)), (.int .i64 (.ofNat 0)), (.int .i64 (.ofNat 0))])), none, [(p21, .ld1 s20, none), (p24, .ldn s23 32, none), (p25, .lkp s21 s24 (.cells (kk .u8 32)) (.agg [(.int .u32 (.ofNat 0)), .nils, .nils, (.int .u32 (.ofNat 0)), (.int .u64 (.ofNat 0)), (.int .i64 (.ofNat 0)), (.int .i64 (.ofNat 0))]) true, none)]⟩,
 o 12 none (.e (.st s8 s26 7)),
 o 13 d9 (.q (.mv s27))])
 (.seq (.reg [o 0 d28 (.q (.mv s9)),
 o 1 d29 (.q (.mv s28)),
 ⟨2, d30, (.q (.fadr s7 0)), (some (p29, true)), []⟩,
 ⟨3, d31, (.q (.fadr s30 32)), (some (p29, true)), []⟩,
 ⟨4, d32, (.q (.ld1 s31)), (some (p29, true)), []⟩,
 ⟨5, d33, (.q (.cvi .i64 s32)), (some (p29, true)), []⟩,
 ⟨6, d34, (.q (.fadr s8 0)), (some (p29, true)), []⟩,
 ⟨7, d35, (.q (.fadr s34 2)), (some (p29, true)), []⟩,
 ⟨8, d36, (.q (.ld1 s35)), (some (p29, true)), []⟩,
 ⟨9, d37, (.q (.lenv s36)), (some (p29, true)), []⟩,
 ⟨10, d38, (.q (.bin .lss s33 s37)), (some (p29, true)), []⟩,
 o 11 d39 (.q (.pick s29 s38 (.v (.bool false))))])
 (.cnd s39 (.reg [o 0 d40 (.q (.mv s5)),
 o 1 d41 (.q (.fadr s7 0)),
 o 2 d42 (.q (.fadr s41 0)),
 o 3 d43 (.q (.ldn s42 32)),
 o 4 d44 (.e (.bsl (zz (.int .u8 (.ofNat 0)) 32) [(0, 32, s43)] 1 32)),
 o 5 d45 (.e (.app s40 s44 32 32 false)),
 o 6 d5 (.q (.mv s45))]) .skip)))))
 (.reg [o 0 d46 (.q (.bin .add s13 (.v (.int .i64 (.ofNat 1))))),
 o 1 d13 (.q (.mv s46))])))))))
 (.seq (.reg [o 0 d47 (.q (.mv s5)),
 o 1 d4 (.q (.mv s47))])
 .ret))))
 [.t p4]

noncomputable def f110 : FnE := .code 24
 (.seq (.reg [o 0 d4 (.e (.alo [(.int .i64 (.ofNat 0)), (.int .i64 (.ofNat 0)), (.int .u64 (.ofNat 0))]))])
 (.seq (.reg [o 0 d5 (.e (.alo [(.int .i64 (.ofNat 0)), (.int .i64 (.ofNat 0)), (.int .u64 (.ofNat 0))]))])
 (.seq (.seq (.reg [o 0 d8 (.q (.mv s1)),
 o 1 d9 (.q (.lenv s8)),
 o 2 d10 (.q (.mv (.v (.int .i64 (.ofNat 0)))))])
 (.blk 0 (.loop (.seq (.reg [o 0 d11 (.q (.bin .lss s10 s9))])
 (.seq (.cnd s11 .skip (.exit 0))
 (.seq (.blk 1 (.seq (.reg [o 0 d12 (.q (.iadr s8 s10 32)),
 o 1 d13 (.q (.ldn s12 32)),
 o 2 d7 (.e (.alo (zz (.int .u8 (.ofNat 0)) 32))),
 o 3 none (.e (.st s7 s13 32))])
 (.rgd 0 [o 0 d14 (.q (.ldn s5 3)),
 o 1 d15 (.q (.mv s0)),
 o 2 d16 (.q (.nck s15)),
 o 3 d17 (.q (.fadr s16 0)),
 o 4 d18 (.q (.ld1 s17)),
 o 5 d19 (.q (.ldn s7 32)),
 o 6 d20 (.q (.lkp s18 s19 (.cells (kk .u8 32)) (.agg [(.int .u32 (.ofNat 0)), .nils, .nils, (.int .u32 (.ofNat 0)), (.int .u64 (.ofNat 0)), (.int .i64 (.ofNat 0)), (.int .i64 (.ofNat 0))]) false)),
 o 7 d21 (.call p73 [s14, s20, (.v (.int .i64 (.ofNat 1)))]),
 o 8 none (.e (.st s5 s21 3))])))
 (.reg [o 0 d22 (.q (.bin .add s10 (.v (.int .i64 (.ofNat 1))))),
 o 1 d10 (.q (.mv s22))])))))))
 (.seq (.reg [o 0 d23 (.q (.ldn s5 3)),
 o 1 none (.e (.st s4 s23 3))])
 .ret))))
 [.cn p4 3]

noncomputable def f111 : FnE := .code 4
 (.seq (.reg [o 0 d1 (.e (.box s0 1)),
 o 1 d2 (.q (.mv (.v .nilf)))])
 (.seq (.reg [o 0 d3 (.q (.mkf 141 [] [s1])),
 o 1 d2 (.q (.mv s3))])
 .ret))
 [.t p2]

noncomputable def f112 : FnE := .code 44
 (.seq (.reg [o 0 d3 (.e (.box s1 4)),
 o 1 d4 (.q (.mv (.v .nilm)))])
 (.seq (.reg [o 0 d12 (.e (.mkm (.cells (kk .u8 32)))),
 o 1 d5 (.q (.mv s12))])
 (.seq (.reg [o 0 d13 (.q (.ldn s3 4)),
 o 1 d14 (.call p26 [s13]),
 o 2 d6 (.e (.alo (zz (.int .u8 (.ofNat 0)) 32))),
 o 3 none (.e (.st s6 s14 32))])
 (.seq (.seq (.reg [o 0 d15 (.q (.fadr s3 2)),
 o 1 d16 (.q (.ld1 s15)),
 o 2 d17 (.q (.lenv s16)),
 o 3 d18 (.q (.mv (.v (.int .i64 (.ofNat 0)))))])
 (.blk 0 (.loop (.seq (.reg [o 0 d19 (.q (.bin .lss s18 s17))])
 (.seq (.cnd s19 .skip (.exit 0))
 (.seq (.blk 1 (.seq (.reg [o 0 d20 (.q (.mv s18)),
 o 1 d7 (.q (.mv s20))])
 (.seq (.reg [o 0 d22 (.q (.mv s0)),
 o 1 d23 (.q (.ldn s6 32)),
 o 2 d24 (.q (.mv s7)),
 o 3 d25 (.q (.cvi .u32 s24)),
 o 4 d26 (.q (.bld (lapp (zz (.int .u8 (.ofNat 0)) 32) [(.int .u32 (.ofNat 0))]) [(0, 32, s23), (32, 1, s25)])),
 o 5 d27 (.call p68 [s22, s26]),
 o 6 d21 (.q (.mv s27)),
 o 7 d28 (.q (.ext s21 0)),
 o 8 d29 (.q (.ext s21 1)),
 o 9 d8 (.e (.alo (zz (.int .u8 (.ofNat 0)) 32))),
 o 10 none (.e (.st s8 s28 32)),
 o 11 d9 (.q (.mv s29))])
 (.seq (.reg [o 0 d30 (.q (.mv s9))])
 (.cnd s30 (.seq (.reg [o 0 d31 (.q (.mv s0)),
 o 1 d32 (.q (.ldn s8 32)),
 o 2 d33 (.call p115 [s31, s32]),
 o 3 d34 (.q (.lenv s33)),
 o 4 d35 (.q (.mv (.v (.int .i64 (.ofNat 0)))))])
 (.blk 2 (.loop (.seq (.reg [o 0 d36 (.q (.bin .lss s35 s34))])
 (.seq (.cnd s36 .skip (.exit 2))
 (.seq (.blk 3 (.seq (.reg [o 0 d37 (.q (.iadr s33 s35 32)),
 o 1 d38 (.q (.ldn s37 32)),
 o 2 d11 (.e (.alo (zz (.int .u8 (.ofNat 0)) 32))),
 o 3 none (.e (.st s11 s38 32))])
 (.reg [o 0 d39 (.q (.mv s5)),
 o 1 d40 (.q (.ldn s11 32)),
 o 2 none (.e (.mup s39 s40 (.v (.bool true)) (.cells (kk .u8 32))))])))
 (.reg [o 0 d41 (.q (.bin .add s35 (.v (.int .i64 (.ofNat 1))))),
 o 1 d35 (.q (.mv s41))]))))))) .skip)))))
 (.reg [o 0 d42 (.q (.bin .add s18 (.v (.int .i64 (.ofNat 1))))),
 o 1 d18 (.q (.mv s42))])))))))
 (.seq (.reg [o 0 d43 (.q (.mv s5)),
 o 1 d4 (.q (.mv s43))])
 .ret)))))
 [.t p4]

noncomputable def f113 : FnE := .code 30
 (.seq (.reg [o 0 d7 (.e (.box s3 9)),
 o 1 d8 (.q (.mv (.v (.bool false))))])
 (.seq (.reg [o 0 d10 (.q (.mv s0)),
 o 1 d11 (.q (.mv s1)),
 o 2 d12 (.call p111 [s11]),
 o 3 d13 (.call p88 [s12]),
 o 4 d14 (.call p110 [s10, s13]),
 o 5 d9 (.e (.alo [(.int .i64 (.ofNat 0)), (.int .i64 (.ofNat 0)), (.int .u64 (.ofNat 0))])),
 o 6 none (.e (.st s9 s14 3))])
 (.seq (.reg [o 0 d15 (.q (.fadr s9 0)),
 o 1 d16 (.q (.ld1 s15)),
 o 2 d17 (.q (.bin .add s16 (.v (.int .i64 (.ofNat 1))))),
 o 3 d18 (.q (.fadr s7 7)),
 o 4 d19 (.q (.ld1 s18)),
 o 5 d20 (.q (.bin .gtr s17 s19)),
 o 6 d21 (.q (.mv s20)),
 ⟨7, d22, (.q (.fadr s9 1)), (some (p21, false)), []⟩,
 ⟨8, d23, (.q (.ld1 s22)), (some (p21, false)), []⟩,
 ⟨9, d24, (.q (.mv s2)), (some (p21, false)), []⟩,
 ⟨10, d25, (.q (.bin .add s23 s24)), (some (p21, false)), []⟩,
 ⟨11, d26, (.q (.fadr s7 8)), (some (p21, false)), []⟩,
 ⟨12, d27, (.q (.ld1 s26)), (some (p21, false)), []⟩,
 ⟨13, d28, (.q (.bin .gtr s25 s27)), (some (p21, false)), []⟩,
 o 14 d29 (.q (.pick s21 (.v (.bool true)) s28)),
 o 15 d8 (.q (.mv s29))])
 .ret)))
 [.t p8]

noncomputable def f121 : FnE := .code 60
 (.seq (.reg [o 0 d6 (.q (.mv s0)),
 o 1 d7 (.call p149 [s6]),
 o 2 d4 (.e (.alo (zz (.int .u32 (.ofNat 0)) 8))),
 o 3 none (.e (.st s4 s7 8))])
 (.seq (.reg [o 0 d8 (.q (.mv s0)),
 o 1 d9 (.q (.nck s8)),
 o 2 d10 (.q (.fadr s9 9)),
 o 3 d11 (.q (.ld1 s10)),
 o 4 d12 (.q (.mv s1)),
 o 5 d13 (.q (.lenv s12)),
 o 6 d14 (.q (.bin .add s11 s13)),
 o 7 d15 (.q (.nck s8)),
 o 8 d16 (.q (.fadr s15 9)),
 o 9 none (.e (.st s16 s14 1))])
 (.seq (.reg [o 0 d17 (.q (.mv s0)),
 o 1 d18 (.q (.mv s0)),
 o 2 d19 (.q (.nck s18)),
 o 3 d20 (.q (.fadr s19 8)),
 o 4 d21 (.q (.ld1 s20)),
 o 5 d22 (.q (.mv s1)),
 o 6 d23 (.e (.app s21 s22 1 1 false)),
 o 7 d24 (.q (.nck s17)),
 o 8 d25 (.q (.fadr s24 8)),
 o 9 none (.e (.st s25 s23 1))])
 (.seq (.reg [o 0 d5 (.q (.mv (.v (.int .i64 (.ofNat 0)))))])
 (.seq (.blk 0 (.loop (.seq (.seq (.reg [o 0 d26 (.q (.mv s5)),
 o 1 d27 (.q (.bin .add s26 (.v (.int .i64 (.ofNat 64))))),
 o 2 d28 (.q (.mv s0)),
 o 3 d29 (.q (.nck s28)),
 o 4 d30 (.q (.fadr s29 8)),
 o 5 d31 (.q (.ld1 s30)),
 o 6 d32 (.q (.lenv s31)),
 o 7 d33 (.q (.bin .leq s27 s32))])
 (.cnd s33 .skip (.exit 0)))
 (.seq (.blk 1 (.rgd 0 [o 0 d36 (.q (.ldn s4 8)),
 o 1 d37 (.q (.mv s0)),
 o 2 d38 (.q (.nck s37)),
 o 3 d39 (.q (.fadr s38 8)),
 o 4 d40 (.q (.ld1 s39)),
 o 5 d41 (.q (.mv s5)),
 o 6 d42 (.q (.mv s5)),
 o 7 d43 (.q (.bin .add s42 (.v (.int .i64 (.ofNat 64))))),
 o 8 d44 (.q (.slc s40 (some s41) (some s43) 1)),
 o 9 d45 (.call p150 [s36, s44]),
 o 10 none (.e (.st s4 s45 8))]))
 (.reg [o 0 d34 (.q (.mv s5)),
 o 1 d35 (.q (.bin .add s34 (.v (.int .i64 (.ofNat 64))))),
 o 2 d5 (.q (.mv s35))])))))
 (.rgd 0 [o 0 d46 (.q (.mv s0)),
 o 1 d47 (.q (.mv s0)),
 o 2 d48 (.q (.ldn s4 8)),
 o 3 d49 (.q (.mv s0)),
 o 4 d50 (.q (.nck s49)),
 o 5 d51 (.q (.fadr s50 8)),
 o 6 d52 (.q (.ld1 s51)),
 o 7 d53 (.q (.mv s5)),
 o 8 d54 (.q (.slc s52 (some s53) none 1)),
 ⟨9, d55, (.call p94 [s54]), none, [(p48, .ldn s4 8, none)]⟩,
 o 10 d56 (.q (.nck s46)),
 o 11 d57 (.q (.fadr s56 0)),
 o 12 none (.e (.st s57 s48 8)),
 o 13 d58 (.q (.nck s47)),
 o 14 d59 (.q (.fadr s58 8)),
 o 15 none (.e (.st s59 s55 1))]))))))
 []

noncomputable def f122 : FnE := .code 79
 (.seq (.reg [o 0 d2 (.e (.alo (zz (.int .u8 (.ofNat 0)) 32)))])
 (.seq (.reg [o 0 d11 (.q (.mv s0)),
 o 1 d12 (.q (.nck s11)),
 o 2 d13 (.q (.fadr s12 8)),
 o 3 d14 (.q (.ld1 s13)),
 o 4 d15 (.call p94 [s14]),
 o 5 d16 (.e (.bsl [(.int .u8 (.ofNat 0))] [(0, 1, (.v (.int .u8 (.ofNat 128))))] 1 1)),
 o 6 d17 (.e (.app s15 s16 1 1 false)),
 o 7 d3 (.q (.mv s17))])
 (.seq (.blk 0 (.loop (.seq (.seq (.reg [o 0 d18 (.q (.mv s3)),
 o 1 d19 (.q (.lenv s18)),
 o 2 d20 (.q (.bin .rem s19 (.v (.int .i64 (.ofNat 64))))),
 o 3 d21 (.q (.bin .neq s20 (.v (.int .i64 (.ofNat 56)))))])
 (.cnd s21 .skip (.exit 0)))
 (.blk 1 (.reg [o 0 d22 (.q (.mv s3)),
 o 1 d23 (.e (.bsl [(.int .u8 (.ofNat 0))] [(0, 1, (.v (.int .u8 (.ofNat 0))))] 1 1)),
 o 2 d24 (.e (.app s22 s23 1 1 false)),
 o 3 d3 (.q (.mv s24))])))))
 (.seq (.seq (.reg [o 0 d4 (.q (.mv (.v (.int .i64 (.ofNat 7)))))])
 (.blk 2 (.loop (.seq (.seq (.reg [o 0 d25 (.q (.mv s4)),
 o 1 d26 (.q (.bin .geq s25 (.v (.int .i64 (.ofNat 0)))))])
 (.cnd s26 .skip (.exit 2)))
 (.seq (.blk 3 (.reg [o 0 d29 (.q (.mv s3)),
 o 1 d30 (.q (.mv s0)),
 o 2 d31 (.q (.nck s30)),
 o 3 d32 (.q (.fadr s31 9)),
 o 4 d33 (.q (.ld1 s32)),
 o 5 d34 (.q (.cvi .u64 s33)),
 o 6 d35 (.q (.shf true s34 (.v (.int .u64 (.ofNat 3))))),
 o 7 d36 (.q (.mv s4)),
 o 8 d37 (.q (.bin .mul (.v (.int .i64 (.ofNat 8))) s36)),
 o 9 d38 (.q (.shf false s35 s37)),
 o 10 d39 (.q (.cvi .u8 s38)),
 o 11 d40 (.e (.bsl [(.int .u8 (.ofNat 0))] [(0, 1, s39)] 1 1)),
 o 12 d41 (.e (.app s29 s40 1 1 false)),
 o 13 d3 (.q (.mv s41))]))
 (.reg [o 0 d27 (.q (.mv s4)),
 o 1 d28 (.q (.bin .sub s27 (.v (.int .i64 (.ofNat 1))))),
 o 2 d4 (.q (.mv s28))]))))))
 (.seq (.reg [o 0 d42 (.q (.mv s0)),
 o 1 d43 (.call p149 [s42]),
 o 2 d5 (.e (.alo (zz (.int .u32 (.ofNat 0)) 8))),
 o 3 none (.e (.st s5 s43 8))])
 (.seq (.seq (.reg [o 0 d6 (.q (.mv (.v (.int .i64 (.ofNat 0)))))])
 (.blk 4 (.loop (.seq (.seq (.reg [o 0 d44 (.q (.mv s6)),
 o 1 d45 (.q (.mv s3)),
 o 2 d46 (.q (.lenv s45)),
 o 3 d47 (.q (.bin .lss s44 s46))])
 (.cnd s47 .skip (.exit 4)))
 (.seq (.blk 5 (.rgd 0 [o 0 d50 (.q (.ldn s5 8)),
 o 1 d51 (.q (.mv s3)),
 o 2 d52 (.q (.mv s6)),
 o 3 d53 (.q (.mv s6)),
 o 4 d54 (.q (.bin .add s53 (.v (.int .i64 (.ofNat 64))))),
 o 5 d55 (.q (.slc s51 (some s52) (some s54) 1)),
 o 6 d56 (.call p150 [s50, s55]),
 o 7 none (.e (.st s5 s56 8))]))
 (.reg [o 0 d48 (.q (.mv s6)),
 o 1 d49 (.q (.bin .add s48 (.v (.int .i64 (.ofNat 64))))),
 o 2 d6 (.q (.mv s49))]))))))
 (.seq (.reg [o 0 d7 (.e (.alo (zz (.int .u8 (.ofNat 0)) 32)))])
 (.seq (.seq (.reg [o 0 d57 (.q (.ldn s5 8)),
 o 1 d58 (.q (.mv (.v (.int .i64 (.ofNat 0)))))])
 (.blk 6 (.loop (.seq (.reg [o 0 d59 (.q (.bin .lss s58 (.v (.int .i64 (.ofNat 8)))))])
 (.seq (.cnd s59 .skip (.exit 6))
 (.seq (.blk 7 (.seq (.reg [o 0 d60 (.q (.mv s58)),
 o 1 d61 (.q (.idxa s57 s58 1 8 false)),
 o 2 d8 (.q (.mv s60)),
 o 3 d9 (.q (.mv s61))])
 (.seq (.reg [o 0 d62 (.q (.mv (.v (.int .i64 (.ofNat 0)))))])
 (.blk 8 (.loop (.seq (.reg [o 0 d63 (.q (.bin .lss s62 (.v (.int .i64 (.ofNat 4)))))])
 (.seq (.cnd s63 .skip (.exit 8))
 (.seq (.blk 9 (.seq (.reg [o 0 d64 (.q (.mv s62)),
 o 1 d10 (.q (.mv s64))])
 (.reg [o 0 d65 (.q (.mv s8)),
 o 1 d66 (.q (.bin .mul (.v (.int .i64 (.ofNat 4))) s65)),
 o 2 d67 (.q (.mv s10)),
 o 3 d68 (.q (.bin .add s66 s67)),
 o 4 d69 (.q (.mv s9)),
 o 5 d70 (.q (.mv s10)),
 o 6 d71 (.q (.bin .mul (.v (.int .i64 (.ofNat 8))) s70)),
 o 7 d72 (.q (.bin .sub (.v (.int .i64 (.ofNat 24))) s71)),
 o 8 d73 (.q (.shf false s69 s72)),
 o 9 d74 (.q (.cvi .u8 s73)),
 o 10 d75 (.q (.iada s7 s68 1 32)),
 o 11 none (.e (.st s75 s74 1))])))
 (.reg [o 0 d76 (.q (.bin .add s62 (.v (.int .i64 (.ofNat 1))))),
 o 1 d62 (.q (.mv s76))])))))))))
 (.reg [o 0 d77 (.q (.bin .add s58 (.v (.int .i64 (.ofNat 1))))),
 o 1 d58 (.q (.mv s77))])))))))
 (.seq (.reg [o 0 d78 (.q (.ldn s7 32)),
 o 1 none (.e (.st s2 s78 32))])
 .ret)))))))))
 [.cn p2 32]

noncomputable def f123 : FnE := .code 19
 (.seq (.reg [o 0 d6 (.q (.mv (.v .nils)))])
 (.seq (.seq (.reg [o 0 d7 (.q (.mv s2)),
 o 1 d8 (.q (.mv (.v (.int .i64 (.ofNat 0)))))])
 (.blk 0 (.loop (.seq (.reg [o 0 d9 (.q (.bin .lss s8 s7))])
 (.seq (.cnd s9 .skip (.exit 0))
 (.seq (.blk 1 (.seq (.reg [o 0 d10 (.q (.mv s0)),
 o 1 d11 (.q (.mv s1)),
 o 2 d12 (.q (.cvi .u8 s11)),
 o 3 d13 (.e (.bsl [(.int .u8 (.ofNat 0))] [(0, 1, s12)] 1 1)),
 o 4 d14 (.e (.app s10 s13 1 1 false)),
 o 5 d0 (.q (.mv s14))])
 (.reg [o 0 d15 (.q (.mv s1)),
 o 1 d16 (.q (.shf false s15 (.v (.int .u64 (.ofNat 8))))),
 o 2 d1 (.q (.mv s16))])))
 (.reg [o 0 d17 (.q (.bin .add s8 (.v (.int .i64 (.ofNat 1))))),
 o 1 d8 (.q (.mv s17))])))))))
 (.seq (.reg [o 0 d18 (.q (.mv s0)),
 o 1 d6 (.q (.mv s18))])
 .ret)))
 [.t p6]

noncomputable def f124 : FnE := .code 12
 (.seq (.reg [o 0 d2 (.q (.mv (.v (.int .i64 (.ofNat 0)))))])
 (.seq (.blk 0 (.seq (.reg [o 0 d4 (.q (.mv s0)),
 o 1 d5 (.q (.bin .lss s4 (.v (.int .u64 (.ofNat 253))))),
 o 2 d3 (.q (.mv s5))])
 (.cnd s3 (.seq (.reg [o 0 d2 (.q (.mv (.v (.int .i64 (.ofNat 1)))))])
 .ret) (.seq (.reg [o 0 d7 (.q (.mv s0)),
 o 1 d8 (.q (.bin .lss s7 (.v (.int .u64 (.ofNat 65536))))),
 o 2 d6 (.q (.mv s8))])
 (.cnd s6 (.seq (.reg [o 0 d2 (.q (.mv (.v (.int .i64 (.ofNat 3)))))])
 .ret) (.seq (.reg [o 0 d10 (.q (.mv s0)),
 o 1 d11 (.q (.bin .lss s10 (.v (.int .u64 (.ofNat 4294967296))))),
 o 2 d9 (.q (.mv s11))])
 (.cnd s9 (.seq (.reg [o 0 d2 (.q (.mv (.v (.int .i64 (.ofNat 5)))))])
 .ret) .skip)))))))
 (.seq (.reg [o 0 d2 (.q (.mv (.v (.int .i64 (.ofNat 9)))))])
 .ret)))
 [.t p2]

noncomputable def f126 : FnE := .code 54
 (.seq (.reg [o 0 d6 (.q (.mv (.v (.bool false))))])
 (.blk 0 (.loop (.blk 1 (.seq (.seq (.reg [o 0 d14 (.q (.mv s2)),
 o 1 d15 (.q (.mv s14)),
 ⟨2, d16, (.q (.mv s0)), (some (p15, true)), []⟩,
 ⟨3, d17, (.q (.mv s1)), (some (p15, true)), []⟩,
 ⟨4, d18, (.q (.eqp (.iface false) false s16 s17)), (some (p15, true)), []⟩,
 o 5 d19 (.q (.pick s15 s18 (.v (.bool false))))])
 (.cnd s19 (.seq (.reg [o 0 d6 (.q (.mv (.v (.bool true))))])
 .ret) .skip))
 (.seq (.seq (.reg [o 0 d21 (.q (.mv s0)),
 o 1 d22 (.q (.tai s21 [17, 21, 23, 29, 31, 33, 35, 39, 49, 67, 73, 89, 113, 163, 295, 305, 393, 401, 457, 475, 481, 483, 485, 561, 567, 583, 621] true)),
 o 2 d20 (.q (.mv s22)),
 o 3 d23 (.q (.ext s20 0)),
 o 4 d24 (.q (.ext s20 1)),
 o 5 d7 (.q (.mv s23)),
 o 6 d8 (.q (.mv s24))])
 (.seq (.reg [o 0 d25 (.q (.mv s8)),
 o 1 d26 (.q (.mv s25)),
 ⟨2, d27, (.q (.mv s7)), (some (p26, true)), []⟩,
 ⟨3, d28, (.q (.mv s1)), (some (p26, true)), []⟩,
 ⟨4, d29, (.inv s27 "Is" [s28]), (some (p26, true)), []⟩,
 o 5 d30 (.q (.pick s26 s29 (.v (.bool false))))])
 (.cnd s30 (.seq (.reg [o 0 d6 (.q (.mv (.v (.bool true))))])
 .ret) .skip)))
 (.seq (.reg [o 0 d31 (.q (.mv s0))])
 (.blk 2 (.seq (.reg [o 0 d32 (.q (.tai s31 [17, 21, 23, 29, 31, 33, 35, 39, 49, 67, 73, 89, 113, 163, 294, 305, 393, 401, 457, 475, 481, 483, 485, 561, 567, 583, 621] true)),
 o 1 d33 (.q (.ext s32 1)),
 o 2 d34 (.q (.ext s32 0))])
 (.cnd s33 (.seq (.reg [o 0 d9 (.q (.mv s34))])
 (.seq (.reg [o 0 d35 (.q (.mv s9)),
 o 1 d36 (.inv s35 "Unwrap" []),
 o 2 d0 (.q (.mv s36))])
 (.seq (.reg [o 0 d37 (.q (.mv s0)),
 o 1 d38 (.q (.eqp (.iface true) false s37 (.v .nili)))])
 (.cnd s38 (.seq (.reg [o 0 d6 (.q (.mv (.v (.bool false))))])
 .ret) .skip)))) (.seq (.reg [o 0 d39 (.q (.tai s31 [17, 21, 23, 29, 31, 33, 35, 39, 49, 67, 73, 89, 113, 163, 295, 305, 393, 401, 457, 475, 481, 483, 485, 561, 567, 583, 621] true)),
 o 1 d40 (.q (.ext s39 1)),
 o 2 d41 (.q (.ext s39 0))])
 (.cnd s40 (.seq (.reg [o 0 d10 (.q (.mv s41))])
 (.seq (.seq (.reg [o 0 d42 (.q (.mv s10)),
 o 1 d43 (.inv s42 "Unwrap" []),
 o 2 d44 (.q (.lenv s43)),
 o 3 d45 (.q (.mv (.v (.int .i64 (.ofNat 0)))))])
 (.blk 3 (.loop (.seq (.reg [o 0 d46 (.q (.bin .lss s45 s44))])
 (.seq (.cnd s46 .skip (.exit 3))
 (.seq (.blk 4 (.seq (.reg [o 0 d47 (.q (.iadr s43 s45 1)),
 o 1 d48 (.q (.ld1 s47)),
 o 2 d12 (.q (.mv s48))])
 (.seq (.reg [o 0 d49 (.q (.mv s12)),
 o 1 d50 (.q (.mv s1)),
 o 2 d51 (.q (.mv s2)),
 o 3 d52 (.call p126 [s49, s50, s51])])
 (.cnd s52 (.seq (.reg [o 0 d6 (.q (.mv (.v (.bool true))))])
 .ret) .skip))))
 (.reg [o 0 d53 (.q (.bin .add s45 (.v (.int .i64 (.ofNat 1))))),
 o 1 d45 (.q (.mv s53))])))))))
 (.seq (.reg [o 0 d6 (.q (.mv (.v (.bool false))))])
 .ret))) (.seq (.reg [o 0 d13 (.q (.mv s31))])
 (.seq (.reg [o 0 d6 (.q (.mv (.v (.bool false))))])
 .ret))))))))))))))
 [.t p6]

noncomputable def f129 : FnE := .code 148
 (.seq (.reg [o 0 d10 (.q (.mv (.v (.bool true))))])
 (.seq (.reg [o 0 d11 (.q (.mv (.v (.bool true))))])
 (.blk 0 (.loop (.blk 1 (.seq (.reg [o 0 d21 (.q (.mv s2)),
 o 1 d22 (.q (.mv s1)),
 o 2 d23 (.q (.bin .sub s21 s22)),
 o 3 d12 (.q (.mv s23))])
 (.seq (.seq (.reg [o 0 d24 (.q (.mv s12)),
 o 1 d25 (.q (.bin .leq s24 (.v (.int .i64 (.ofNat 12)))))])
 (.cnd s25 (.seq (.reg [o 0 d26 (.q (.mv s0)),
 o 1 d27 (.q (.mv s1)),
 o 2 d28 (.q (.mv s2)),
 o 3 d29 (.q (.mv s4)),
 o 4 d30 (.call p151 [s26, s27, s28, s29])])
 .ret) .skip))
 (.seq (.seq (.reg [o 0 d31 (.q (.mv s3)),
 o 1 d32 (.q (.bin .eql s31 (.v (.int .i64 (.ofNat 0)))))])
 (.cnd s32 (.seq (.reg [o 0 d33 (.q (.mv s0)),
 o 1 d34 (.q (.mv s1)),
 o 2 d35 (.q (.mv s2)),
 o 3 d36 (.q (.mv s4)),
 o 4 d37 (.call p152 [s33, s34, s35, s36])])
 .ret) .skip))
 (.seq (.seq (.reg [o 0 d38 (.q (.mv s10)),
 o 1 d39 (.q (.not s38))])
 (.cnd s39 (.seq (.reg [o 0 d40 (.q (.mv s0)),
 o 1 d41 (.q (.mv s1)),
 o 2 d42 (.q (.mv s2)),
 o 3 d43 (.q (.mv s4)),
 o 4 d44 (.call p153 [s40, s41, s42, s43])])
 (.reg [o 0 d45 (.q (.mv s3)),
 o 1 d46 (.q (.bin .sub s45 (.v (.int .i64 (.ofNat 1))))),
 o 2 d3 (.q (.mv s46))])) .skip))
 (.seq (.reg [o 0 d48 (.q (.mv s0)),
 o 1 d49 (.q (.mv s1)),
 o 2 d50 (.q (.mv s2)),
 o 3 d51 (.q (.mv s4)),
 o 4 d52 (.call p154 [s48, s49, s50, s51]),
 o 5 d47 (.q (.mv s52)),
 o 6 d53 (.q (.ext s47 0)),
 o 7 d54 (.q (.ext s47 1)),
 o 8 d13 (.q (.mv s53)),
 o 9 d14 (.q (.mv s54))])
 (.seq (.seq (.reg [o 0 d55 (.q (.mv s14)),
 o 1 d56 (.q (.bin .eql s55 (.v (.int .i64 (.ofNat 2)))))])
 (.cnd s56 (.seq (.reg [o 0 d57 (.q (.mv s0)),
 o 1 d58 (.q (.mv s1)),
 o 2 d59 (.q (.mv s2)),
 o 3 d60 (.q (.mv s4)),
 o 4 d61 (.call p155 [s57, s58, s59, s60])])
 (.seq (.reg [o 0 d62 (.q (.mv s2)),
 o 1 d63 (.q (.bin .sub s62 (.v (.int .i64 (.ofNat 1))))),
 o 2 d64 (.q (.mv s13)),
 o 3 d65 (.q (.mv s1)),
 o 4 d66 (.q (.bin .sub s64 s65)),
 o 5 d67 (.q (.bin .sub s63 s66)),
 o 6 d13 (.q (.mv s67))])
 (.reg [o 0 d14 (.q (.mv (.v (.int .i64 (.ofNat 1)))))]))) .skip))
 (.seq (.seq (.reg [o 0 d68 (.q (.mv s10)),
 o 1 d69 (.q (.mv s68)),
 ⟨2, d70, (.q (.mv s11)), (some (p69, true)), []⟩,
 o 3 d71 (.q (.pick s69 s70 (.v (.bool false)))),
 o 4 d72 (.q (.mv s71)),
 ⟨5, d73, (.q (.mv s14)), (some (p72, true)), []⟩,
 ⟨6, d74, (.q (.bin .eql s73 (.v (.int .i64 (.ofNat 1))))), (some (p72, true)), []⟩,
 o 7 d75 (.q (.pick s72 s74 (.v (.bool false))))])
 (.cnd s75 (.seq (.reg [o 0 d76 (.q (.mv s0)),
 o 1 d77 (.q (.mv s1)),
 o 2 d78 (.q (.mv s2)),
 o 3 d79 (.q (.mv s4)),
 o 4 d80 (.call p156 [s76, s77, s78, s79])])
 (.cnd s80 .ret .skip)) .skip))
 (.seq (.seq (.rgd 0 [o 0 d81 (.q (.mv s1)),
 o 1 d82 (.q (.bin .gtr s81 (.v (.int .i64 (.ofNat 0))))),
 o 2 d83 (.q (.mv s82)),
 ⟨3, d84, (.q (.mv s4)), (some (p83, true)), []⟩,
 ⟨4, d85, (.q (.mv s0)), (some (p83, true)), []⟩,
 ⟨5, d86, (.q (.mv s1)), (some (p83, true)), []⟩,
 ⟨6, d87, (.q (.bin .sub s86 (.v (.int .i64 (.ofNat 1))))), (some (p83, true)), []⟩,
 ⟨7, d88, (.q (.iadr s85 s87 32)), (some (p83, true)), []⟩,
 ⟨8, d89, (.q (.ldn s88 32)), (some (p83, true)), []⟩,
 ⟨9, d90, (.q (.mv s0)), (some (p83, true)), []⟩,
 ⟨10, d91, (.q (.mv s13)), (some (p83, true)), []⟩,
 ⟨11, d92, (.q (.iadr s90 s91 32)), (some (p83, true)), []⟩,
 ⟨12, d93, (.q (.ldn s92 32)), (some (p83, true)), []⟩,
 ⟨13, d94, (.callv s84 [s89, s93]), (some (p83, true)), []⟩,
 ⟨14, d95, (.q (.bin .lss s94 (.v (.int .i64 (.ofNat 0))))), (some (p83, true)), []⟩,
 ⟨15, d96, (.q (.not s95)), (some (p83, true)), []⟩,
 o 16 d97 (.q (.pick s83 s96 (.v (.bool false))))])
 (.cnd s97 (.seq (.reg [o 0 d98 (.q (.mv s0)),
 o 1 d99 (.q (.mv s1)),
 o 2 d100 (.q (.mv s2)),
 o 3 d101 (.q (.mv s13)),
 o 4 d102 (.q (.mv s4)),
 o 5 d103 (.call p157 [s98, s99, s100, s101, s102]),
 o 6 d15 (.q (.mv s103))])
 (.seq (.reg [o 0 d104 (.q (.mv s15)),
 o 1 d1 (.q (.mv s104))])
 (.exit 1))) .skip))
 (.seq (.reg [o 0 d106 (.q (.mv s0)),
 o 1 d107 (.q (.mv s1)),
 o 2 d108 (.q (.mv s2)),
 o 3 d109 (.q (.mv s13)),
 o 4 d110 (.q (.mv s4)),
 o 5 d111 (.call p158 [s106, s107, s108, s109, s110]),
 o 6 d105 (.q (.mv s111)),
 o 7 d112 (.q (.ext s105 0)),
 o 8 d113 (.q (.ext s105 1)),
 o 9 d16 (.q (.mv s112)),
 o 10 d17 (.q (.mv s113))])
 (.seq (.reg [o 0 d114 (.q (.mv s17)),
 o 1 d11 (.q (.mv s114))])
 (.seq (.reg [o 0 d115 (.q (.mv s16)),
 o 1 d116 (.q (.mv s1)),
 o 2 d117 (.q (.bin .sub s115 s116)),
 o 3 d118 (.q (.mv s2)),
 o 4 d119 (.q (.mv s16)),
 o 5 d120 (.q (.bin .sub s118 s119)),
 o 6 d18 (.q (.mv s117)),
 o 7 d19 (.q (.mv s120))])
 (.seq (.reg [o 0 d121 (.q (.mv s12)),
 o 1 d122 (.q (.bin .quo s121 (.v (.int .i64 (.ofNat 8))))),
 o 2 d20 (.q (.mv s122))])
 (.seq (.reg [o 0 d123 (.q (.mv s18)),
 o 1 d124 (.q (.mv s19)),
 o 2 d125 (.q (.bin .lss s123 s124))])
 (.cnd s125 (.seq (.reg [o 0 d126 (.q (.mv s18)),
 o 1 d127 (.q (.mv s20)),
 o 2 d128 (.q (.bin .geq s126 s127)),
 o 3 d10 (.q (.mv s128))])
 (.seq (.reg [o 0 d129 (.q (.mv s0)),
 o 1 d130 (.q (.mv s1)),
 o 2 d131 (.q (.mv s16)),
 o 3 d132 (.q (.mv s3)),
 o 4 d133 (.q (.mv s4)),
 o 5 d134 (.call p129 [s129, s130, s131, s132, s133])])
 (.reg [o 0 d135 (.q (.mv s16)),
 o 1 d136 (.q (.bin .add s135 (.v (.int .i64 (.ofNat 1))))),
 o 2 d1 (.q (.mv s136))]))) (.seq (.reg [o 0 d137 (.q (.mv s19)),
 o 1 d138 (.q (.mv s20)),
 o 2 d139 (.q (.bin .geq s137 s138)),
 o 3 d10 (.q (.mv s139))])
 (.seq (.reg [o 0 d140 (.q (.mv s0)),
 o 1 d141 (.q (.mv s16)),
 o 2 d142 (.q (.bin .add s141 (.v (.int .i64 (.ofNat 1))))),
 o 3 d143 (.q (.mv s2)),
 o 4 d144 (.q (.mv s3)),
 o 5 d145 (.q (.mv s4)),
 o 6 d146 (.call p129 [s140, s142, s143, s144, s145])])
 (.reg [o 0 d147 (.q (.mv s16)),
 o 1 d2 (.q (.mv s147))]))))))))))))))))))))))
 []

noncomputable def f130 : FnE := .code 8
 (.seq (.reg [o 0 d2 (.q (.mv (.v (.int .i64 (.ofNat 0)))))])
 (.seq (.cnd (.v (.bool false)) (.seq (.reg [o 0 d3 (.q (.mv s0)),
 o 1 d4 (.q (.cvi .u32 s3)),
 o 2 d5 (.call p159 [s4]),
 o 3 d2 (.q (.mv s5))])
 .ret) .skip)
 (.seq (.reg [o 0 d6 (.q (.mv s0)),
 o 1 d7 (.call p160 [s6]),
 o 2 d2 (.q (.mv s7))])
 .ret)))
 [.t p2]

noncomputable def f132 : FnE := .code 22
 (.seq (.reg [o 0 d2 (.q (.mv (.v (.int .u64 (.ofNat 0))))),
 o 1 d3 (.q (.mv (.v (.bool false))))])
 (.seq (.reg [o 0 d4 (.q (.mv (.v (.int .u64 (.ofNat 0)))))])
 (.seq (.seq (.reg [o 0 d7 (.q (.mv s0)),
 o 1 d8 (.q (.lenv s7)),
 o 2 d9 (.q (.mv (.v (.int .i64 (.ofNat 0)))))])
 (.blk 0 (.loop (.seq (.reg [o 0 d10 (.q (.bin .lss s9 s8))])
 (.seq (.cnd s10 .skip (.exit 0))
 (.seq (.blk 1 (.seq (.reg [o 0 d11 (.q (.iadr s7 s9 1)),
 o 1 d12 (.q (.ld1 s11)),
 o 2 d6 (.q (.mv s12))])
 (.seq (.seq (.reg [o 0 d13 (.q (.mv s6)),
 o 1 d14 (.q (.mv s4)),
 o 2 d15 (.q (.bin .sub (.v (.int .u64 (.ofNat 2100000000000000))) s14)),
 o 3 d16 (.q (.bin .gtr s13 s15))])
 (.cnd s16 (.seq (.reg [o 0 d2 (.q (.mv (.v (.int .u64 (.ofNat 0))))),
 o 1 d3 (.q (.mv (.v (.bool false))))])
 .ret) .skip))
 (.reg [o 0 d17 (.q (.mv s4)),
 o 1 d18 (.q (.mv s6)),
 o 2 d19 (.q (.bin .add s17 s18)),
 o 3 d4 (.q (.mv s19))]))))
 (.reg [o 0 d20 (.q (.bin .add s9 (.v (.int .i64 (.ofNat 1))))),
 o 1 d9 (.q (.mv s20))])))))))
 (.seq (.reg [o 0 d21 (.q (.mv s4)),
 o 1 d2 (.q (.mv s21)),
 o 2 d3 (.q (.mv (.v (.bool true))))])
 .ret))))
 [.t p2, .t p3]

noncomputable def f133 : FnE := .code 20
 (.seq (.reg [o 0 d1 (.e (.box s0 4)),
 o 1 d2 (.q (.mv (.v .nils)))])
 (.seq (.reg [o 0 d3 (.q (.mv (.v .nils)))])
 (.seq (.seq (.reg [o 0 d6 (.q (.fadr s1 2)),
 o 1 d7 (.q (.ld1 s6)),
 o 2 d8 (.q (.lenv s7)),
 o 3 d9 (.q (.mv (.v (.int .i64 (.ofNat 0)))))])
 (.blk 0 (.loop (.seq (.reg [o 0 d10 (.q (.bin .lss s9 s8))])
 (.seq (.cnd s10 .skip (.exit 0))
 (.seq (.blk 1 (.seq (.reg [o 0 d11 (.q (.iadr s7 s9 33)),
 o 1 d12 (.q (.ldn s11 33)),
 o 2 d5 (.e (.alo (lapp [(.int .u64 (.ofNat 0))] (zz (.int .u8 (.ofNat 0)) 32)))),
 o 3 none (.e (.st s5 s12 33))])
 (.reg [o 0 d13 (.q (.mv s3)),
 o 1 d14 (.q (.fadr s5 0)),
 o 2 d15 (.q (.ld1 s14)),
 o 3 d16 (.e (.bsl [(.int .u64 (.ofNat 0))] [(0, 1, s15)] 1 1)),
 o 4 d17 (.e (.app s13 s16 1 8 false)),
 o 5 d3 (.q (.mv s17))])))
 (.reg [o 0 d18 (.q (.bin .add s9 (.v (.int .i64 (.ofNat 1))))),
 o 1 d9 (.q (.mv s18))])))))))
 (.seq (.reg [o 0 d19 (.q (.mv s3)),
 o 1 d2 (.q (.mv s19))])
 .ret))))
 [.t p2]

noncomputable def f134 : FnE := .code 6
 (.seq (.reg [o 0 d1 (.e (.box s0 35)),
 o 1 d2 (.q (.mv (.v (.bool false))))])
 (.seq (.reg [o 0 d3 (.q (.fadr s1 0)),
 o 1 d4 (.q (.ldn s3 33)),
 o 2 d5 (.call p101 [s4]),
 o 3 d2 (.q (.mv s5))])
 .ret))
 [.t p2]

noncomputable def f135 : FnE := .code 2
 (.seq (.reg [o 0 d0 (.e (.alo (lapp (zz (.int .u8 (.ofNat 0)) 32) [(.int .u32 (.ofNat 0))])))])
 (.seq (.reg [o 0 d1 (.q (.bld (lapp (zz (.int .u8 (.ofNat 0)) 32) [(.int .u32 (.ofNat 0))]) [(32, 1, (.v (.int .u32 (.ofNat 4294967295))))])),
 o 1 none (.e (.st s0 s1 33))])
 .ret))
 [.cn p0 33]

noncomputable def f136 : FnE := .code 14
 (.seq (.reg [o 0 d3 (.e (.box s1 32)),
 o 1 d4 (.q (.mv (.v (.bool false))))])
 (.seq (.rgd 0 [o 0 d5 (.q (.mv s0)),
 o 1 d6 (.q (.lenv s5)),
 o 2 d7 (.q (.bin .leq s6 (.v (.int .i64 (.ofNat 80))))),
 o 3 d8 (.q (.mv s7)),
 ⟨4, d9, (.q (.mv s0)), (some (p8, true)), []⟩,
 ⟨6, d11, (.q (.ldn s3 32)), (some (p8, true)), []⟩,
 ⟨5, d10, (.call p161 [s9]), (some (p8, true)), [(p11, .ldn s3 32, (some (p8, true)))]⟩,
 ⟨7, d12, (.q (.eqa false (kk .u8 32) s10 s11)), (some (p8, true)), []⟩,
 o 8 d13 (.q (.pick s8 s12 (.v (.bool false)))),
 o 9 d4 (.q (.mv s13))])
 .ret))
 [.t p4]

noncomputable def f138 : FnE := .code 78
 (.seq (.reg [o 0 d3 (.e (.box s0 4)),
 o 1 d6 (.q (.mv (.v (.int .i64 (.ofNat 0))))),
 o 2 d7 (.q (.mv (.v (.int .i64 (.ofNat 0))))),
 o 3 d8 (.q (.mv (.v (.bool false))))])
 (.seq (.seq (.reg [o 0 d14 (.q (.mv s1)),
 o 1 d15 (.q (.lenv s14)),
 o 2 d16 (.q (.fadr s3 1)),
 o 3 d17 (.q (.ld1 s16)),
 o 4 d18 (.q (.lenv s17)),
 o 5 d19 (.q (.bin .neq s15 s18)),
 o 6 d20 (.q (.mv s19)),
 ⟨7, d21, (.q (.mv s2)), (some (p20, false)), []⟩,
 ⟨8, d22, (.q (.lenv s21)), (some (p20, false)), []⟩,
 ⟨9, d23, (.q (.fadr s3 1)), (some (p20, false)), []⟩,
 ⟨10, d24, (.q (.ld1 s23)), (some (p20, false)), []⟩,
 ⟨11, d25, (.q (.lenv s24)), (some (p20, false)), []⟩,
 ⟨12, d26, (.q (.bin .neq s22 s25)), (some (p20, false)), []⟩,
 o 13 d27 (.q (.pick s20 (.v (.bool true)) s26))])
 (.cnd s27 (.seq (.reg [o 0 d6 (.q (.mv (.v (.int .i64 (.ofNat 0))))),
 o 1 d7 (.q (.mv (.v (.int .i64 (.ofNat 0))))),
 o 2 d8 (.q (.mv (.v (.bool false))))])
 .ret) .skip))
 (.seq (.reg [o 0 d9 (.q (.mv (.v (.int .i64 (.negSucc 0))))),
 o 1 d10 (.q (.mv (.v (.int .i64 (.negSucc 0)))))])
 (.seq (.seq (.reg [o 0 d28 (.q (.fadr s3 0)),
 o 1 d29 (.q (.ld1 s28)),
 o 2 d30 (.q (.bin .lss s29 (.v (.int .u32 (.ofNat 2)))))])
 (.cnd s30 (.seq (.reg [o 0 d31 (.q (.mv s9)),
 o 1 d32 (.q (.mv s10)),
 o 2 d6 (.q (.mv s31)),
 o 3 d7 (.q (.mv s32)),
 o 4 d8 (.q (.mv (.v (.bool true))))])
 .ret) .skip))
 (.seq (.seq (.reg [o 0 d33 (.q (.fadr s3 1)),
 o 1 d34 (.q (.ld1 s33)),
 o 2 d35 (.q (.lenv s34)),
 o 3 d36 (.q (.mv (.v (.int .i64 (.ofNat 0)))))])
 (.blk 0 (.loop (.seq (.reg [o 0 d37 (.q (.bin .lss s36 s35))])
 (.seq (.cnd s37 .skip (.exit 0))
 (.seq (.blk 1 (.seq (.reg [o 0 d38 (.q (.mv s36)),
 o 1 d39 (.q (.iadr s34 s36 35)),
 o 2 d40 (.q (.ldn s39 35)),
 o 3 d12 (.e (.alo (lapp (zz (.int .u8 (.ofNat 0)) 32) [(.int .u32 (.ofNat 0)), .nils, (.int .u32 (.ofNat 0))]))),
 o 4 d11 (.q (.mv s38)),
 o 5 none (.e (.st s12 s40 35))])
 (.seq (.reg [o 0 d41 (.q (.fadr s12 34)),
 o 1 d42 (.q (.ld1 s41)),
 o 2 d43 (.q (.bin .and s42 (.v (.int .u32 (.ofNat 65535))))),
 o 3 d44 (.q (.cvi .i64 s43)),
 o 4 d13 (.q (.mv s44))])
 (.blk 2 (.seq (.reg [o 0 d55 (.q (.fadr s12 34)),
 o 1 d56 (.q (.ld1 s55)),
 o 2 d57 (.q (.bin .and s56 (.v (.int .u32 (.ofNat 2147483648))))),
 o 3 d58 (.q (.bin .neq s57 (.v (.int .u32 (.ofNat 0))))),
 o 4 d54 (.q (.mv s58))])
 (.cnd s54 .skip (.seq (.reg [o 0 d60 (.q (.fadr s12 34)),
 o 1 d61 (.q (.ld1 s60)),
 o 2 d62 (.q (.bin .and s61 (.v (.int .u32 (.ofNat 4194304))))),
 o 3 d63 (.q (.bin .neq s62 (.v (.int .u32 (.ofNat 0))))),
 o 4 d59 (.q (.mv s63))])
 (.cnd s59 (.reg [o 0 d64 (.q (.mv s10)),
 o 1 d65 (.q (.mv s2)),
 o 2 d66 (.q (.mv s11)),
 o 3 d67 (.q (.iadr s65 s66 1)),
 o 4 d68 (.q (.ld1 s67)),
 o 5 d69 (.q (.cvi .i64 s68)),
 o 6 d70 (.q (.mv s13)),
 o 7 d71 (.q (.bin .mul (.v (.int .i64 (.ofNat 512))) s70)),
 o 8 d72 (.q (.bin .add s69 s71)),
 o 9 d73 (.q (.bin .sub s72 (.v (.int .i64 (.ofNat 1))))),
 o 10 d74 (.q (.mnx true s64 s73)),
 o 11 d10 (.q (.mv s74))]) (.reg [o 0 d45 (.q (.mv s9)),
 o 1 d46 (.q (.mv s1)),
 o 2 d47 (.q (.mv s11)),
 o 3 d48 (.q (.iadr s46 s47 1)),
 o 4 d49 (.q (.ld1 s48)),
 o 5 d50 (.q (.mv s13)),
 o 6 d51 (.q (.bin .add s49 s50)),
 o 7 d52 (.q (.bin .sub s51 (.v (.int .i64 (.ofNat 1))))),
 o 8 d53 (.q (.mnx true s45 s52)),
 o 9 d9 (.q (.mv s53))])))))))))
 (.reg [o 0 d75 (.q (.bin .add s36 (.v (.int .i64 (.ofNat 1))))),
 o 1 d36 (.q (.mv s75))])))))))
 (.seq (.reg [o 0 d76 (.q (.mv s9)),
 o 1 d77 (.q (.mv s10)),
 o 2 d6 (.q (.mv s76)),
 o 3 d7 (.q (.mv s77)),
 o 4 d8 (.q (.mv (.v (.bool true))))])
 .ret))))))
 [.t p6, .t p7, .t p8]

noncomputable def f149 : FnE := .code 13
 (.seq (.reg [o 0 d2 (.e (.alo (zz (.int .u32 (.ofNat 0)) 8)))])
 (.seq (.seq (.reg [o 0 d3 (.q (.mv s0)),
 o 1 d4 (.q (.nck s3)),
 o 2 d5 (.q (.fadr s4 9)),
 o 3 d6 (.q (.ld1 s5)),
 o 4 d7 (.q (.bin .lss s6 (.v (.int .i64 (.ofNat 64)))))])
 (.cnd s7 (.seq (.reg [o 0 d8 (.call p167 []),
 o 1 none (.e (.st s2 s8 8))])
 .ret) .skip))
 (.seq (.reg [o 0 d9 (.q (.mv s0)),
 o 1 d10 (.q (.nck s9)),
 o 2 d11 (.q (.fadr s10 0)),
 o 3 d12 (.q (.ldn s11 8)),
 o 4 none (.e (.st s2 s12 8))])
 .ret)))
 [.cn p2 8]

noncomputable def f150 : FnE := .code 111
 (.seq (.reg [o 0 d2 (.e (.box s0 8)),
 o 1 d4 (.e (.alo (zz (.int .u32 (.ofNat 0)) 8)))])
 (.seq (.reg [o 0 d14 (.q (.mv s1)),
 o 1 d15 (.call p168 [s14]),
 o 2 d16 (.call p169 []),
 o 3 d5 (.e (.alo (zz (.int .u32 (.ofNat 0)) 64))),
 o 4 d6 (.e (.alo (zz (.int .u32 (.ofNat 0)) 64))),
 o 5 none (.e (.st s5 s15 64)),
 o 6 none (.e (.st s6 s16 64))])
 (.seq (.reg [o 0 d17 (.q (.ldn s2 8)),
 o 1 d7 (.e (.alo (zz (.int .u32 (.ofNat 0)) 8))),
 o 2 none (.e (.st s7 s17 8))])
 (.seq (.seq (.reg [o 0 d18 (.q (.mv (.v (.int .i64 (.ofNat 0)))))])
 (.blk 0 (.loop (.seq (.reg [o 0 d19 (.q (.bin .lss s18 (.v (.int .i64 (.ofNat 64)))))])
 (.seq (.cnd s19 .skip (.exit 0))
 (.seq (.blk 1 (.seq (.reg [o 0 d20 (.q (.mv s18)),
 o 1 d8 (.q (.mv s20))])
 (.seq (.rgd 0 [o 0 d21 (.q (.iada s7 (.v (.int .i64 (.ofNat 0))) 1 8)),
 o 1 d22 (.q (.ld1 s21)),
 o 2 d23 (.q (.iada s7 (.v (.int .i64 (.ofNat 4))) 1 8)),
 o 3 d24 (.q (.ld1 s23)),
 o 4 d9 (.q (.mv s22)),
 o 5 d10 (.q (.mv s24))])
 (.seq (.rgd 0 [o 0 d25 (.q (.iada s7 (.v (.int .i64 (.ofNat 7))) 1 8)),
 o 1 d26 (.q (.ld1 s25)),
 o 2 d27 (.q (.mv s10)),
 o 4 d29 (.q (.mv s10)),
 o 7 d32 (.q (.mv s10)),
 o 11 d36 (.q (.mv s10)),
 o 12 d37 (.q (.iada s7 (.v (.int .i64 (.ofNat 5))) 1 8)),
 o 13 d38 (.q (.ld1 s37)),
 o 14 d39 (.q (.bin .and s36 s38)),
 o 15 d40 (.q (.mv s10)),
 o 16 d41 (.q (.inv s40)),
 o 17 d42 (.q (.iada s7 (.v (.int .i64 (.ofNat 6))) 1 8)),
 o 18 d43 (.q (.ld1 s42)),
 o 19 d44 (.q (.bin .and s41 s43)),
 o 20 d45 (.q (.bin .xor s39 s44)),
 o 22 d47 (.q (.mv s8)),
 o 23 d48 (.q (.iada s6 s47 1 64)),
 o 24 d49 (.q (.ld1 s48)),
 o 26 d51 (.q (.mv s8)),
 o 27 d52 (.q (.iada s5 s51 1 64)),
 o 28 d53 (.q (.ld1 s52)),
 ⟨3, d28, (.call p170 [s27, (.v (.int .i64 (.ofNat 6)))]), none, [(p26, .ld1 s25, none), (p38, .ld1 s37, none), (p43, .ld1 s42, none), (p49, .ld1 s48, none), (p53, .ld1 s52, none)]⟩,
 ⟨5, d30, (.call p170 [s29, (.v (.int .i64 (.ofNat 11)))]), none, [(p26, .ld1 s25, none), (p38, .ld1 s37, none), (p43, .ld1 s42, none), (p49, .ld1 s48, none), (p53, .ld1 s52, none)]⟩,
 o 6 d31 (.q (.bin .xor s28 s30)),
 ⟨8, d33, (.call p170 [s32, (.v (.int .i64 (.ofNat 25)))]), none, [(p26, .ld1 s25, none), (p38, .ld1 s37, none), (p43, .ld1 s42, none), (p49, .ld1 s48, none), (p53, .ld1 s52, none)]⟩,
 o 9 d34 (.q (.bin .xor s31 s33)),
 o 10 d35 (.q (.bin .add s26 s34)),
 o 21 d46 (.q (.bin .add s35 s45)),
 o 25 d50 (.q (.bin .add s46 s49)),
 o 29 d54 (.q (.bin .add s50 s53)),
 o 30 d11 (.q (.mv s54))])
 (.seq (.rgd 0 [o 0 d55 (.q (.mv s9)),
 o 2 d57 (.q (.mv s9)),
 o 5 d60 (.q (.mv s9)),
 o 8 d63 (.q (.mv s9)),
 o 9 d64 (.q (.iada s7 (.v (.int .i64 (.ofNat 1))) 1 8)),
 o 10 d65 (.q (.ld1 s64)),
 o 11 d66 (.q (.bin .and s63 s65)),
 o 12 d67 (.q (.mv s9)),
 o 13 d68 (.q (.iada s7 (.v (.int .i64 (.ofNat 2))) 1 8)),
 o 14 d69 (.q (.ld1 s68)),
 o 15 d70 (.q (.bin .and s67 s69)),
 o 16 d71 (.q (.bin .xor s66 s70)),
 o 17 d72 (.q (.iada s7 (.v (.int .i64 (.ofNat 1))) 1 8)),
 o 18 d73 (.q (.ld1 s72)),
 o 19 d74 (.q (.iada s7 (.v (.int .i64 (.ofNat 2))) 1 8)),
 o 20 d75 (.q (.ld1 s74)),
 o 21 d76 (.q (.bin .and s73 s75)),
 o 22 d77 (.q (.bin .xor s71 s76)),
 ⟨1, d56, (.call p170 [s55, (.v (.int .i64 (.ofNat 2)))]), none, [(p65, .ld1 s64, none), (p69, .ld1 s68, none), (p73, .ld1 s72, none), (p75, .ld1 s74, none)]⟩,
 ⟨3, d58, (.call p170 [s57, (.v (.int .i64 (.ofNat 13)))]), none, [(p65, .ld1 s64, none), (p69, .ld1 s68, none), (p73, .ld1 s72, none), (p75, .ld1 s74, none)]⟩,
 o 4 d59 (.q (.bin .xor s56 s58)),
 ⟨6, d61, (.call p170 [s60, (.v (.int .i64 (.ofNat 22)))]), none, [(p65, .ld1 s64, none), (p69, .ld1 s68, none), (p73, .ld1 s72, none), (p75, .ld1 s74, none)]⟩,
 o 7 d62 (.q (.bin .xor s59 s61)),
 o 23 d78 (.q (.bin .add s62 s77)),
 o 24 d12 (.q (.mv s78))])
 (.reg [o 0 d79 (.q (.mv s11)),
 o 1 d80 (.q (.mv s12)),
 o 2 d81 (.q (.bin .add s79 s80)),
 o 3 d82 (.q (.mv s9)),
 o 4 d83 (.q (.iada s7 (.v (.int .i64 (.ofNat 1))) 1 8)),
 o 5 d84 (.q (.ld1 s83)),
 o 6 d85 (.q (.iada s7 (.v (.int .i64 (.ofNat 2))) 1 8)),
 o 7 d86 (.q (.ld1 s85)),
 o 8 d87 (.q (.iada s7 (.v (.int .i64 (.ofNat 3))) 1 8)),
 o 9 d88 (.q (.ld1 s87)),
 o 10 d89 (.q (.mv s11)),
 o 11 d90 (.q (.bin .add s88 s89)),
 o 12 d91 (.q (.mv s10)),
 o 13 d92 (.q (.iada s7 (.v (.int .i64 (.ofNat 5))) 1 8)),
 o 14 d93 (.q (.ld1 s92)),
 o 15 d94 (.q (.iada s7 (.v (.int .i64 (.ofNat 6))) 1 8)),
 o 16 d95 (.q (.ld1 s94)),
 o 17 d96 (.q (.bld (zz (.int .u32 (.ofNat 0)) 8) [(0, 1, s81), (1, 1, s82), (2, 1, s84), (3, 1, s86), (4, 1, s90), (5, 1, s91), (6, 1, s93), (7, 1, s95)])),
 o 18 none (.e (.st s7 s96 8))]))))))
 (.reg [o 0 d97 (.q (.bin .add s18 (.v (.int .i64 (.ofNat 1))))),
 o 1 d18 (.q (.mv s97))])))))))
 (.seq (.seq (.reg [o 0 d98 (.q (.mv (.v (.int .i64 (.ofNat 0)))))])
 (.blk 2 (.loop (.seq (.reg [o 0 d99 (.q (.bin .lss s98 (.v (.int .i64 (.ofNat 8)))))])
 (.seq (.cnd s99 .skip (.exit 2))
 (.seq (.blk 3 (.seq (.reg [o 0 d100 (.q (.mv s98)),
 o 1 d13 (.q (.mv s100))])
 (.rgd 0 [o 0 d101 (.q (.mv s13)),
 o 1 d102 (.q (.iada s2 s101 1 8)),
 o 2 d103 (.q (.ld1 s102)),
 o 3 d104 (.q (.mv s13)),
 o 4 d105 (.q (.iada s7 s104 1 8)),
 o 5 d106 (.q (.ld1 s105)),
 o 6 d107 (.q (.bin .add s103 s106)),
 o 7 d108 (.q (.iada s2 s101 1 8)),
 o 8 none (.e (.st s108 s107 1))])))
 (.reg [o 0 d109 (.q (.bin .add s98 (.v (.int .i64 (.ofNat 1))))),
 o 1 d98 (.q (.mv s109))])))))))
 (.seq (.reg [o 0 d110 (.q (.ldn s2 8)),
 o 1 none (.e (.st s4 s110 8))])
 .ret))))))
 [.cn p4 8]

noncomputable def f151 : FnE := .code 53
 (.seq (.reg [o 0 d10 (.q (.mv s1)),
 o 1 d11 (.q (.bin .add s10 (.v (.int .i64 (.ofNat 1))))),
 o 2 d8 (.q (.mv s11))])
 (.blk 0 (.loop (.seq (.seq (.reg [o 0 d12 (.q (.mv s8)),
 o 1 d13 (.q (.mv s2)),
 o 2 d14 (.q (.bin .lss s12 s13))])
 (.cnd s14 .skip (.exit 0)))
 (.seq (.blk 1 (.seq (.reg [o 0 d17 (.q (.mv s8)),
 o 1 d9 (.q (.mv s17))])
 (.blk 2 (.loop (.seq (.seq (.rgd 0 [o 0 d18 (.q (.mv s9)),
 o 1 d19 (.q (.mv s1)),
 o 2 d20 (.q (.bin .gtr s18 s19)),
 o 3 d21 (.q (.mv s20)),
 ⟨4, d22, (.q (.mv s3)), (some (p21, true)), []⟩,
 ⟨5, d23, (.q (.mv s0)), (some (p21, true)), []⟩,
 ⟨6, d24, (.q (.mv s9)), (some (p21, true)), []⟩,
 ⟨7, d25, (.q (.iadr s23 s24 32)), (some (p21, true)), []⟩,
 ⟨8, d26, (.q (.ldn s25 32)), (some (p21, true)), []⟩,
 ⟨9, d27, (.q (.mv s0)), (some (p21, true)), []⟩,
 ⟨10, d28, (.q (.mv s9)), (some (p21, true)), []⟩,
 ⟨11, d29, (.q (.bin .sub s28 (.v (.int .i64 (.ofNat 1))))), (some (p21, true)), []⟩,
 ⟨12, d30, (.q (.iadr s27 s29 32)), (some (p21, true)), []⟩,
 ⟨13, d31, (.q (.ldn s30 32)), (some (p21, true)), []⟩,
 ⟨14, d32, (.callv s22 [s26, s31]), (some (p21, true)), []⟩,
 ⟨15, d33, (.q (.bin .lss s32 (.v (.int .i64 (.ofNat 0))))), (some (p21, true)), []⟩,
 o 16 d34 (.q (.pick s21 s33 (.v (.bool false))))])
 (.cnd s34 .skip (.exit 2)))
 (.seq (.blk 3 (.rgd 0 [o 0 d37 (.q (.mv s0)),
 o 1 d38 (.q (.mv s9)),
 o 2 d39 (.q (.mv s0)),
 o 3 d40 (.q (.mv s9)),
 o 4 d41 (.q (.bin .sub s40 (.v (.int .i64 (.ofNat 1))))),
 o 5 d42 (.q (.mv s0)),
 o 6 d43 (.q (.mv s9)),
 o 7 d44 (.q (.bin .sub s43 (.v (.int .i64 (.ofNat 1))))),
 o 8 d45 (.q (.iadr s42 s44 32)),
 o 9 d46 (.q (.ldn s45 32)),
 o 10 d47 (.q (.mv s0)),
 o 11 d48 (.q (.mv s9)),
 o 12 d49 (.q (.iadr s47 s48 32)),
 o 13 d50 (.q (.ldn s49 32)),
 o 14 d51 (.q (.iadr s37 s38 32)),
 o 15 none (.e (.st s51 s46 32)),
 o 16 d52 (.q (.iadr s39 s41 32)),
 o 17 none (.e (.st s52 s50 32))]))
 (.reg [o 0 d35 (.q (.mv s9)),
 o 1 d36 (.q (.bin .sub s35 (.v (.int .i64 (.ofNat 1))))),
 o 2 d9 (.q (.mv s36))])))))))
 (.reg [o 0 d15 (.q (.mv s8)),
 o 1 d16 (.q (.bin .add s15 (.v (.int .i64 (.ofNat 1))))),
 o 2 d8 (.q (.mv s16))]))))))
 []

noncomputable def f160 : FnE := .code 25
 (.seq (.reg [o 0 d2 (.q (.mv (.v (.int .i64 (.ofNat 0)))))])
 (.seq (.seq (.reg [o 0 d3 (.q (.mv s0)),
 o 1 d4 (.q (.bin .geq s3 (.v (.int .u64 (.ofNat 4294967296)))))])
 (.cnd s4 (.seq (.reg [o 0 d5 (.q (.mv s0)),
 o 1 d6 (.q (.shf false s5 (.v (.int .u64 (.ofNat 32))))),
 o 2 d0 (.q (.mv s6))])
 (.reg [o 0 d2 (.q (.mv (.v (.int .i64 (.ofNat 32)))))])) .skip))
 (.seq (.seq (.reg [o 0 d7 (.q (.mv s0)),
 o 1 d8 (.q (.bin .geq s7 (.v (.int .u64 (.ofNat 65536)))))])
 (.cnd s8 (.seq (.reg [o 0 d9 (.q (.mv s0)),
 o 1 d10 (.q (.shf false s9 (.v (.int .u64 (.ofNat 16))))),
 o 2 d0 (.q (.mv s10))])
 (.reg [o 0 d11 (.q (.mv s2)),
 o 1 d12 (.q (.bin .add s11 (.v (.int .i64 (.ofNat 16))))),
 o 2 d2 (.q (.mv s12))])) .skip))
 (.seq (.seq (.reg [o 0 d13 (.q (.mv s0)),
 o 1 d14 (.q (.bin .geq s13 (.v (.int .u64 (.ofNat 256)))))])
 (.cnd s14 (.seq (.reg [o 0 d15 (.q (.mv s0)),
 o 1 d16 (.q (.shf false s15 (.v (.int .u64 (.ofNat 8))))),
 o 2 d0 (.q (.mv s16))])
 (.reg [o 0 d17 (.q (.mv s2)),
 o 1 d18 (.q (.bin .add s17 (.v (.int .i64 (.ofNat 8))))),
 o 2 d2 (.q (.mv s18))])) .skip))
 (.seq (.reg [o 0 d19 (.q (.mv s2)),
 o 1 d20 (.q (.mv s0)),
 o 2 d21 (.q (.cvi .u8 s20)),
 o 3 d22 (.q (.idxs (.v (.str [0, 1, 2, 2, 3, 3, 3, 3, 4, 4, 4, 4, 4, 4, 4, 4, 5, 5, 5, 5, 5, 5, 5, 5, 5, 5, 5, 5, 5, 5, 5, 5, 6, 6, 6, 6, 6, 6, 6, 6, 6, 6, 6, 6, 6, 6, 6, 6, 6, 6, 6, 6, 6, 6, 6, 6, 6, 6, 6, 6, 6, 6, 6, 6, 7, 7, 7, 7, 7, 7, 7, 7, 7, 7, 7, 7, 7, 7, 7, 7, 7, 7, 7, 7, 7, 7, 7, 7, 7, 7, 7, 7, 7, 7, 7, 7, 7, 7, 7, 7, 7, 7, 7, 7, 7, 7, 7, 7, 7, 7, 7, 7, 7, 7, 7, 7, 7, 7, 7, 7, 7, 7, 7, 7, 7, 7, 7, 7, 8, 8, 8, 8, 8, 8, 8, 8, 8, 8, 8, 8, 8, 8, 8, 8, 8, 8, 8, 8, 8, 8, 8, 8, 8, 8, 8, 8, 8, 8, 8, 8, 8, 8, 8, 8, 8, 8, 8, 8, 8, 8, 8, 8, 8, 8, 8, 8, 8, 8, 8, 8, 8, 8, 8, 8, 8, 8, 8, 8, 8, 8, 8, 8, 8, 8, 8, 8, 8, 8, 8, 8, 8, 8, 8, 8, 8, 8, 8, 8, 8, 8, 8, 8, 8, 8, 8, 8, 8, 8, 8, 8, 8, 8, 8, 8, 8, 8, 8, 8, 8, 8, 8, 8, 8, 8, 8, 8, 8, 8, 8, 8, 8, 8, 8, 8, 8, 8, 8, 8, 8, 8, 8, 8, 8, 8, 8, 8])) s21)),
 o 4 d23 (.q (.cvi .i64 s22)),
 o 5 d24 (.q (.bin .add s19 s23)),
 o 6 d2 (.q (.mv s24))])
 .ret)))))
 [.t p2]

noncomputable def f161 : FnE := .code 5
 (.seq (.reg [o 0 d2 (.e (.alo (zz (.int .u8 (.ofNat 0)) 32)))])
 (.seq (.reg [o 0 d3 (.q (.mv s0)),
 o 1 d4 (.call p76 [s3]),
 o 2 none (.e (.st s2 s4 32))])
 .ret))
 [.cn p2 32]

noncomputable def f167 : FnE := .code 2
 (.seq (.reg [o 0 d0 (.e (.alo (zz (.int .u32 (.ofNat 0)) 8)))])
 (.seq (.reg [o 0 d1 (.q (.bld (zz (.int .u32 (.ofNat 0)) 8) [(0, 1, (.v (.int .u32 (.ofNat 1779033703)))), (1, 1, (.v (.int .u32 (.ofNat 3144134277)))), (2, 1, (.v (.int .u32 (.ofNat 1013904242)))), (3, 1, (.v (.int .u32 (.ofNat 2773480762)))), (4, 1, (.v (.int .u32 (.ofNat 1359893119)))), (5, 1, (.v (.int .u32 (.ofNat 2600822924)))), (6, 1, (.v (.int .u32 (.ofNat 528734635)))), (7, 1, (.v (.int .u32 (.ofNat 1541459225))))])),
 o 1 none (.e (.st s0 s1 8))])
 .ret))
 [.cn p0 8]

noncomputable def f168 : FnE := .code 80
 (.seq (.reg [o 0 d2 (.e (.alo (zz (.int .u32 (.ofNat 0)) 64)))])
 (.seq (.reg [o 0 d3 (.e (.alo (zz (.int .u32 (.ofNat 0)) 64)))])
 (.seq (.seq (.reg [o 0 d8 (.q (.mv (.v (.int .i64 (.ofNat 0)))))])
 (.blk 0 (.loop (.seq (.reg [o 0 d9 (.q (.bin .lss s8 (.v (.int .i64 (.ofNat 64)))))])
 (.seq (.cnd s9 .skip (.exit 0))
 (.seq (.blk 1 (.seq (.reg [o 0 d10 (.q (.mv s8)),
 o 1 d4 (.q (.mv s10))])
 (.seq (.seq (.reg [o 0 d11 (.q (.mv s4)),
 o 1 d12 (.q (.bin .lss s11 (.v (.int .i64 (.ofNat 16)))))])
 (.cnd s12 (.seq (.reg [o 0 d13 (.q (.mv s0)),
 o 1 d14 (.q (.mv s4)),
 o 2 d15 (.q (.bin .mul (.v (.int .i64 (.ofNat 4))) s14)),
 o 3 d16 (.q (.slc s13 (some s15) none 1)),
 o 4 d5 (.q (.mv s16))])
 (.seq (.rgd 0 [o 0 d17 (.q (.mv s4)),
 o 1 d18 (.q (.mv s5)),
 o 2 d19 (.q (.iadr s18 (.v (.int .i64 (.ofNat 0))) 1)),
 o 3 d20 (.q (.ld1 s19)),
 o 4 d21 (.q (.cvi .u32 s20)),
 o 5 d22 (.q (.shf true s21 (.v (.int .u64 (.ofNat 24))))),
 o 6 d23 (.q (.mv s5)),
 o 7 d24 (.q (.iadr s23 (.v (.int .i64 (.ofNat 1))) 1)),
 o 8 d25 (.q (.ld1 s24)),
 o 9 d26 (.q (.cvi .u32 s25)),
 o 10 d27 (.q (.shf true s26 (.v (.int .u64 (.ofNat 16))))),
 o 11 d28 (.q (.bin .or s22 s27)),
 o 12 d29 (.q (.mv s5)),
 o 13 d30 (.q (.iadr s29 (.v (.int .i64 (.ofNat 2))) 1)),
 o 14 d31 (.q (.ld1 s30)),
 o 15 d32 (.q (.cvi .u32 s31)),
 o 16 d33 (.q (.shf true s32 (.v (.int .u64 (.ofNat 8))))),
 o 17 d34 (.q (.bin .or s28 s33)),
 o 18 d35 (.q (.mv s5)),
 o 19 d36 (.q (.iadr s35 (.v (.int .i64 (.ofNat 3))) 1)),
 o 20 d37 (.q (.ld1 s36)),
 o 21 d38 (.q (.cvi .u32 s37)),
 o 22 d39 (.q (.bin .or s34 s38)),
 o 23 d40 (.q (.iada s3 s17 1 64)),
 o 24 none (.e (.st s40 s39 1))])
 (.exit 1))) .skip))
 (.seq (.rgd 0 [o 0 d41 (.q (.mv s4)),
 o 1 d42 (.q (.bin .sub s41 (.v (.int .i64 (.ofNat 2))))),
 o 2 d43 (.q (.iada s3 s42 1 64)),
 o 3 d44 (.q (.ld1 s43)),
 o 4 d45 (.q (.mv s4)),
 o 5 d46 (.q (.bin .sub s45 (.v (.int .i64 (.ofNat 15))))),
 o 6 d47 (.q (.iada s3 s46 1 64)),
 o 7 d48 (.q (.ld1 s47)),
 o 8 d6 (.q (.mv s44)),
 o 9 d7 (.q (.mv s48))])
 (.rgd 0 [o 0 d49 (.q (.mv s4)),
 o 1 d50 (.q (.mv s6)),
 o 3 d52 (.q (.mv s6)),
 o 6 d55 (.q (.mv s6)),
 o 7 d56 (.q (.shf false s55 (.v (.int .u64 (.ofNat 10))))),
 o 9 d58 (.q (.mv s4)),
 o 10 d59 (.q (.bin .sub s58 (.v (.int .i64 (.ofNat 7))))),
 o 11 d60 (.q (.iada s3 s59 1 64)),
 o 12 d61 (.q (.ld1 s60)),
 o 14 d63 (.q (.mv s7)),
 o 16 d65 (.q (.mv s7)),
 o 19 d68 (.q (.mv s7)),
 o 20 d69 (.q (.shf false s68 (.v (.int .u64 (.ofNat 3))))),
 o 23 d72 (.q (.mv s4)),
 o 24 d73 (.q (.bin .sub s72 (.v (.int .i64 (.ofNat 16))))),
 o 25 d74 (.q (.iada s3 s73 1 64)),
 o 26 d75 (.q (.ld1 s74)),
 ⟨2, d51, (.call p170 [s50, (.v (.int .i64 (.ofNat 17)))]), none, [(p61, .ld1 s60, none), (p75, .ld1 s74, none)]⟩,
 ⟨4, d53, (.call p170 [s52, (.v (.int .i64 (.ofNat 19)))]), none, [(p61, .ld1 s60, none), (p75, .ld1 s74, none)]⟩,
 o 5 d54 (.q (.bin .xor s51 s53)),
 o 8 d57 (.q (.bin .xor s54 s56)),
 o 13 d62 (.q (.bin .add s57 s61)),
 ⟨15, d64, (.call p170 [s63, (.v (.int .i64 (.ofNat 7)))]), none, [(p61, .ld1 s60, none), (p75, .ld1 s74, none)]⟩,
 ⟨17, d66, (.call p170 [s65, (.v (.int .i64 (.ofNat 18)))]), none, [(p61, .ld1 s60, none), (p75, .ld1 s74, none)]⟩,
 o 18 d67 (.q (.bin .xor s64 s66)),
 o 21 d70 (.q (.bin .xor s67 s69)),
 o 22 d71 (.q (.bin .add s62 s70)),
 o 27 d76 (.q (.bin .add s71 s75)),
 o 28 d77 (.q (.iada s3 s49 1 64)),
 o 29 none (.e (.st s77 s76 1))])))))
 (.reg [o 0 d78 (.q (.bin .add s8 (.v (.int .i64 (.ofNat 1))))),
 o 1 d8 (.q (.mv s78))])))))))
 (.seq (.reg [o 0 d79 (.q (.ldn s3 64)),
 o 1 none (.e (.st s2 s79 64))])
 .ret))))
 [.cn p2 64]

noncomputable def f169 : FnE := .code 2
 (.seq (.reg [o 0 d0 (.e (.alo (zz (.int .u32 (.ofNat 0)) 64)))])
 (.seq (.reg [o 0 d1 (.q (.bld (zz (.int .u32 (.ofNat 0)) 64) [(0, 1, (.v (.int .u32 (.ofNat 1116352408)))), (1, 1, (.v (.int .u32 (.ofNat 1899447441)))), (2, 1, (.v (.int .u32 (.ofNat 3049323471)))), (3, 1, (.v (.int .u32 (.ofNat 3921009573)))), (4, 1, (.v (.int .u32 (.ofNat 961987163)))), (5, 1, (.v (.int .u32 (.ofNat 1508970993)))), (6, 1, (.v (.int .u32 (.ofNat 2453635748)))), (7, 1, (.v (.int .u32 (.ofNat 2870763221)))), (8, 1, (.v (.int .u32 (.ofNat 3624381080)))), (9, 1, (.v (.int .u32 (.ofNat 310598401)))), (10, 1, (.v (.int .u32 (.ofNat 607225278)))), (11, 1, (.v (.int .u32 (.ofNat 1426881987)))), (12, 1, (.v (.int .u32 (.ofNat 1925078388)))), (13, 1, (.v (.int .u32 (.ofNat 2162078206)))), (14, 1, (.v (.int .u32 (.ofNat 2614888103)))), (15, 1, (.v (.int .u32 (.ofNat 3248222580)))), (16, 1, (.v (.int .u32 (.ofNat 3835390401)))), (17, 1, (.v (.int .u32 (.ofNat 4022224774)))), (18, 1, (.v (.int .u32 (.ofNat 264347078)))), (19, 1, (.v (.int .u32 (.ofNat 604807628)))), (20, 1, (.v (.int .u32 (.ofNat 770255983)))), (21, 1, (.v (.int .u32 (.ofNat 1249150122)))), (22, 1, (.v (.int .u32 (.ofNat 1555081692)))), (23, 1, (.v (.int .u32 (.ofNat 1996064986)))), (24, 1, (.v (.int .u32 (.ofNat 2554220882)))), (25, 1, (.v (.int .u32 (.ofNat 2821834349)))), (26, 1, (.v (.int .u32 (.ofNat 2952996808)))), (27, 1, (.v (.int .u32 (.ofNat 3210313671)))), (28, 1, (.v (.int .u32 (.ofNat 3336571891)))), (29, 1, (.v (.int .u32 (.ofNat 3584528711)))), (30, 1, (.v (.int .u32 (.ofNat 113926993)))), (31, 1, (.v (.int .u32 (.ofNat 338241895)))), (32, 1, (.v (.int .u32 (.ofNat 666307205)))), (33, 1, (.v (.int .u32 (.ofNat 773529912)))), (34, 1, (.v (.int .u32 (.ofNat 1294757372)))), (35, 1, (.v (.int .u32 (.ofNat 1396182291)))), (36, 1, (.v (.int .u32 (.ofNat 1695183700)))), (37, 1, (.v (.int .u32 (.ofNat 1986661051)))), (38, 1, (.v (.int .u32 (.ofNat 2177026350)))), (39, 1, (.v (.int .u32 (.ofNat 2456956037)))), (40, 1, (.v (.int .u32 (.ofNat 2730485921)))), (41, 1, (.v (.int .u32 (.ofNat 2820302411)))), (42, 1, (.v (.int .u32 (.ofNat 3259730800)))), (43, 1, (.v (.int .u32 (.ofNat 3345764771)))), (44, 1, (.v (.int .u32 (.ofNat 3516065817)))), (45, 1, (.v (.int .u32 (.ofNat 3600352804)))), (46, 1, (.v (.int .u32 (.ofNat 4094571909)))), (47, 1, (.v (.int .u32 (.ofNat 275423344)))), (48, 1, (.v (.int .u32 (.ofNat 430227734)))), (49, 1, (.v (.int .u32 (.ofNat 506948616)))), (50, 1, (.v (.int .u32 (.ofNat 659060556)))), (51, 1, (.v (.int .u32 (.ofNat 883997877)))), (52, 1, (.v (.int .u32 (.ofNat 958139571)))), (53, 1, (.v (.int .u32 (.ofNat 1322822218)))), (54, 1, (.v (.int .u32 (.ofNat 1537002063)))), (55, 1, (.v (.int .u32 (.ofNat 1747873779)))), (56, 1, (.v (.int .u32 (.ofNat 1955562222)))), (57, 1, (.v (.int .u32 (.ofNat 2024104815)))), (58, 1, (.v (.int .u32 (.ofNat 2227730452)))), (59, 1, (.v (.int .u32 (.ofNat 2361852424)))), (60, 1, (.v (.int .u32 (.ofNat 2428436474)))), (61, 1, (.v (.int .u32 (.ofNat 2756734187)))), (62, 1, (.v (.int .u32 (.ofNat 3204031479)))), (63, 1, (.v (.int .u32 (.ofNat 3329325298))))])),
 o 1 none (.e (.st s0 s1 64))])
 .ret))
 [.cn p0 64]

noncomputable def f170 : FnE := .code 9
 (.seq (.reg [o 0 d4 (.q (.mv (.v (.int .u32 (.ofNat 0)))))])
 (.seq (.reg [o 0 d5 (.q (.mv s0)),
 o 1 d6 (.q (.mv s1)),
 o 2 d7 (.q (.neg s6)),
 o 3 d8 (.call p178 [s5, s7]),
 o 4 d4 (.q (.mv s8))])
 .ret))
 [.t p4]

noncomputable def f178 : FnE := .code 17
 (.seq (.reg [o 0 d4 (.q (.mv (.v (.int .u32 (.ofNat 0)))))])
 (.seq (.reg [o 0 d6 (.q (.mv s1)),
 o 1 d7 (.q (.cvi .u64 s6)),
 o 2 d8 (.q (.bin .and s7 (.v (.int .u64 (.ofNat 31))))),
 o 3 d5 (.q (.mv s8))])
 (.seq (.reg [o 0 d9 (.q (.mv s0)),
 o 1 d10 (.q (.mv s5)),
 o 2 d11 (.q (.shf true s9 s10)),
 o 3 d12 (.q (.mv s0)),
 o 4 d13 (.q (.mv s5)),
 o 5 d14 (.q (.bin .sub (.v (.int .u64 (.ofNat 32))) s13)),
 o 6 d15 (.q (.shf false s12 s14)),
 o 7 d16 (.q (.bin .or s11 s15)),
 o 8 d4 (.q (.mv s16))])
 .ret)))
 [.t p4]

noncomputable def f196 : FnE := .code 19
 (.seq (.reg [o 0 d3 (.e (.box s1 33)),
 o 1 d4 (.e (.alo (lapp [(.int .u64 (.ofNat 0))] (lapp (zz (.int .u8 (.ofNat 0)) 32) [(.int .i64 (.ofNat 0)), (.bool false)])))),
 o 2 d5 (.q (.mv (.v (.bool false))))])
 (.seq (.rgd 0 [o 0 d9 (.q (.mv s0)),
 o 1 d10 (.q (.nck s9)),
 o 2 d11 (.q (.fadr s10 0)),
 o 3 d12 (.q (.ld1 s11)),
 o 4 d13 (.q (.ldn s3 33)),
 o 5 d14 (.q (.lkp s12 s13 (.cells [.u8, .u8, .u8, .u8, .u8, .u8, .u8, .u8, .u8, .u8, .u8, .u8, .u8, .u8, .u8, .u8, .u8, .u8, .u8, .u8, .u8, .u8, .u8, .u8, .u8, .u8, .u8, .u8, .u8, .u8, .u8, .u8, .u32]) (.agg (lapp [(.int .u64 (.ofNat 0))] (lapp (zz (.int .u8 (.ofNat 0)) 32) [(.int .i64 (.ofNat 0)), (.bool false)]))) true)),
 o 6 d8 (.q (.mv s14)),
 o 7 d15 (.q (.ext s8 0)),
 o 8 d16 (.q (.ext s8 1)),
 ⟨9, d6, (.e (.alo (lapp [(.int .u64 (.ofNat 0))] (lapp (zz (.int .u8 (.ofNat 0)) 32) [(.int .i64 (.ofNat 0)), (.bool false)])))), none, [(p12, .ld1 s11, none), (p13, .ldn s3 33, none), (p14, .lkp s12 s13 (.cells [.u8, .u8, .u8, .u8, .u8, .u8, .u8, .u8, .u8, .u8, .u8, .u8, .u8, .u8, .u8, .u8, .u8, .u8, .u8, .u8, .u8, .u8, .u8, .u8, .u8, .u8, .u8, .u8, .u8, .u8, .u8, .u8, .u32]) (.agg (lapp [(.int .u64 (.ofNat 0))] (lapp (zz (.int .u8 (.ofNat 0)) 32) [(.int .i64 (.ofNat 0)), (.bool false)]))) true, none)]⟩,
 o 10 none (.e (.st s6 s15 35)),
 o 11 d7 (.q (.mv s16))])
 (.seq (.reg [o 0 d17 (.q (.ldn s6 35)),
 o 1 d18 (.q (.mv s7)),
 o 2 none (.e (.st s4 s17 35)),
 o 3 d5 (.q (.mv s18))])
 .ret)))
 [.cn p4 35, .t p5]

noncomputable def f201 : FnE := .code 7
 (.seq (.reg [o 0 d2 (.q (.mv (.v .nili)))])
 (.seq (.reg [o 0 d3 (.q (.mv s0)),
 o 1 d4 (.q (.nck s3)),
 o 2 d5 (.q (.fadr s4 1)),
 o 3 d6 (.q (.ld1 s5)),
 o 4 d2 (.q (.mv s6))])
 .ret))
 [.t p2]

noncomputable def f202 : FnE := .code 66
 (.seq (.reg [o 0 d2 (.e (.box s0 3)),
 o 1 d3 (.e (.box s1 33)),
 o 2 d4 (.e (.alo (lapp [(.int .u64 (.ofNat 0))] (lapp (zz (.int .u8 (.ofNat 0)) 32) [(.int .i64 (.ofNat 0)), (.bool false)])))),
 o 3 d5 (.q (.mv (.v (.bool false))))])
 (.seq (.seq (.reg [o 0 d15 (.q (.fadr s2 0)),
 o 1 d16 (.q (.ld1 s15)),
 o 2 d17 (.q (.ldn s3 33)),
 o 3 d18 (.call p68 [s16, s17]),
 o 4 d14 (.q (.mv s18)),
 o 5 d19 (.q (.ext s14 0)),
 o 6 d20 (.q (.ext s14 1)),
 o 7 d6 (.e (.alo (zz (.int .u8 (.ofNat 0)) 32))),
 o 8 none (.e (.st s6 s19 32)),
 o 9 d7 (.q (.mv s20))])
 (.seq (.reg [o 0 d21 (.q (.mv s7))])
 (.cnd s21 (.seq (.reg [o 0 d22 (.q (.bld (lapp [(.int .u64 (.ofNat 0))] (lapp (zz (.int .u8 (.ofNat 0)) 32) [(.int .i64 (.ofNat 0)), (.bool false)])) [])),
 o 1 none (.e (.st s4 s22 35)),
 o 2 d5 (.q (.mv (.v (.bool false))))])
 .ret) .skip)))
 (.seq (.seq (.reg [o 0 d24 (.q (.fadr s2 1)),
 o 1 d25 (.q (.ld1 s24)),
 o 2 d26 (.q (.ldn s3 33)),
 o 3 d27 (.call p196 [s25, s26]),
 o 4 d23 (.q (.mv s27)),
 o 5 d28 (.q (.ext s23 0)),
 o 6 d29 (.q (.ext s23 1)),
 o 7 d8 (.e (.alo (lapp [(.int .u64 (.ofNat 0))] (lapp (zz (.int .u8 (.ofNat 0)) 32) [(.int .i64 (.ofNat 0)), (.bool false)])))),
 o 8 none (.e (.st s8 s28 35)),
 o 9 d9 (.q (.mv s29))])
 (.seq (.reg [o 0 d30 (.q (.mv s9))])
 (.cnd s30 (.seq (.reg [o 0 d31 (.q (.ldn s8 35)),
 o 1 none (.e (.st s4 s31 35)),
 o 2 d5 (.q (.mv (.v (.bool true))))])
 .ret) .skip)))
 (.seq (.reg [o 0 d33 (.q (.fadr s2 0)),
 o 1 d34 (.q (.ld1 s33)),
 o 2 d35 (.q (.fadr s3 0)),
 o 3 d36 (.q (.ldn s35 32)),
 o 4 d37 (.call p35 [s34, s36]),
 o 5 d32 (.q (.mv s37)),
 o 6 d38 (.q (.ext s32 0)),
 o 7 d39 (.q (.ext s32 1)),
 o 8 d40 (.q (.ext s32 2)),
 o 9 d10 (.e (.alo [(.int .u32 (.ofNat 0)), .nils, .nils, (.int .u32 (.ofNat 0))])),
 o 10 none (.e (.st s10 s38 4)),
 o 11 d11 (.q (.mv s39)),
 o 12 d12 (.q (.mv s40))])
 (.seq (.seq (.reg [o 0 d41 (.q (.mv s12)),
 o 1 d42 (.q (.not s41)),
 o 2 d43 (.q (.mv s42)),
 ⟨3, d44, (.q (.fadr s3 32)), (some (p43, false)), []⟩,
 ⟨4, d45, (.q (.ld1 s44)), (some (p43, false)), []⟩,
 ⟨5, d46, (.q (.cvi .i64 s45)), (some (p43, false)), []⟩,
 ⟨6, d47, (.q (.fadr s10 2)), (some (p43, false)), []⟩,
 ⟨7, d48, (.q (.ld1 s47)), (some (p43, false)), []⟩,
 ⟨8, d49, (.q (.lenv s48)), (some (p43, false)), []⟩,
 ⟨9, d50, (.q (.bin .geq s46 s49)), (some (p43, false)), []⟩,
 o 10 d51 (.q (.pick s43 (.v (.bool true)) s50))])
 (.cnd s51 (.seq (.reg [o 0 d52 (.q (.bld (lapp [(.int .u64 (.ofNat 0))] (lapp (zz (.int .u8 (.ofNat 0)) 32) [(.int .i64 (.ofNat 0)), (.bool false)])) [])),
 o 1 none (.e (.st s4 s52 35)),
 o 2 d5 (.q (.mv (.v (.bool false))))])
 .ret) .skip))
 (.seq (.reg [o 0 d53 (.q (.fadr s10 2)),
 o 1 d54 (.q (.ld1 s53)),
 o 2 d55 (.q (.fadr s3 32)),
 o 3 d56 (.q (.ld1 s55)),
 o 4 d57 (.q (.iadr s54 s56 33)),
 o 5 d58 (.q (.ldn s57 33)),
 o 6 d13 (.e (.alo (lapp [(.int .u64 (.ofNat 0))] (zz (.int .u8 (.ofNat 0)) 32)))),
 o 7 none (.e (.st s13 s58 33))])
 (.seq (.reg [o 0 d59 (.q (.fadr s13 0)),
 o 1 d60 (.q (.ld1 s59)),
 o 2 d61 (.q (.fadr s13 1)),
 o 3 d62 (.q (.ldn s61 32)),
 o 4 d63 (.q (.fadr s2 2)),
 o 5 d64 (.q (.ld1 s63)),
 o 6 d65 (.q (.bld (lapp [(.int .u64 (.ofNat 0))] (lapp (zz (.int .u8 (.ofNat 0)) 32) [(.int .i64 (.ofNat 0)), (.bool false)])) [(0, 1, s60), (1, 32, s62), (33, 1, s64)])),
 o 7 none (.e (.st s4 s65 35)),
 o 8 d5 (.q (.mv (.v (.bool true))))])
 .ret)))))))
 [.cn p4 35, .t p5]

noncomputable def tabA : T FnE := (.node (.node (.node (.node (.node (.node (.node .nil (some f63) .nil) (some f31) (.node .nil (some f95) .nil)) (some f15) (.node (.node .nil (some f79) .nil) (some f47) (.node .nil (some f111) .nil))) (some f7) (.node (.node (.node (.node .nil (some f135) .nil) (some f71) .nil) (some f39) (.node (.node .nil (some f167) .nil) (some f103) .nil)) (some f23) (.node (.node (.node .nil (some f151) .nil) (some f87) .nil) (some f55) .nil))) (some f3) (.node (.node (.node (.node .nil (some f67) .nil) (some f35) (.node .nil (some f99) .nil)) (some f19) (.node (.node .nil (some f83) .nil) (some f51) .nil)) (some f11) (.node (.node .nil (some f43) (.node .nil (some f107) .nil)) (some f27) (.node .nil (some f59) (.node .nil (some f123) .nil))))) none (.node (.node (.node (.node (.node (.node .nil (some f129) .nil) (some f65) .nil) (some f33) (.node (.node .nil (some f161) .nil) (some f97) .nil)) (some f17) (.node .nil (some f49) (.node .nil (some f113) .nil))) (some f9) (.node (.node (.node .nil (some f73) (.node .nil (some f201) .nil)) (some f41) (.node (.node .nil (some f169) .nil) (some f105) .nil)) (some f25) (.node (.node .nil (some f89) .nil) (some f57) (.node .nil (some f121) .nil)))) (some f5) (.node (.node (.node (.node (.node .nil (some f133) .nil) (some f69) .nil) (some f37) (.node .nil (some f101) .nil)) (some f21) (.node (.node (.node .nil (some f149) .nil) (some f85) .nil) (some f53) .nil)) (some f13) (.node (.node (.node .nil (some f77) .nil) (some f45) .nil) (some f29) (.node (.node .nil (some f93) .nil) (some f61) .nil))))) none (.node (.node (.node (.node (.node (.node .nil (some f64) .nil) (some f32) (.node (.node .nil (some f160) .nil) (some f96) .nil)) (some f16) (.node (.node .nil (some f80) .nil) none (.node .nil (some f112) .nil))) (some f8) (.node (.node (.node (.node .nil (some f136) .nil) (some f72) .nil) (some f40) (.node (.node .nil (some f168) .nil) (some f104) .nil)) (some f24) (.node (.node .nil (some f88) .nil) (some f56) .nil))) (some f4) (.node (.node (.node (.node (.node .nil (some f132) .nil) (some f68) (.node .nil (some f196) .nil)) (some f36) (.node .nil (some f100) .nil)) (some f20) (.node (.node .nil (some f84) .nil) (some f52) .nil)) (some f12) (.node (.node (.node .nil (some f76) .nil) (some f44) (.node .nil (some f108) .nil)) (some f28) (.node (.node .nil (some f92) .nil) (some f60) (.node .nil (some f124) .nil))))) none (.node (.node (.node (.node (.node (.node .nil (some f130) .nil) (some f66) .nil) (some f34) (.node .nil (some f98) .nil)) (some f18) (.node .nil (some f50) (.node (.node .nil (some f178) .nil) none .nil))) (some f10) (.node (.node (.node (.node .nil (some f138) .nil) none (.node .nil (some f202) .nil)) (some f42) (.node (.node .nil (some f170) .nil) (some f106) .nil)) (some f26) (.node .nil (some f58) (.node .nil (some f122) .nil)))) (some f6) (.node (.node (.node (.node (.node .nil (some f134) .nil) (some f70) .nil) (some f38) (.node .nil (some f102) .nil)) (some f22) (.node (.node (.node .nil (some f150) .nil) (some f86) .nil) (some f54) .nil)) (some f14) (.node (.node (.node .nil (some f78) .nil) (some f46) (.node .nil (some f110) .nil)) (some f30) (.node (.node .nil (some f94) .nil) (some f62) (.node .nil (some f126) .nil)))))))
end Go.Proofs.YtneolnnngjbdcaaGreatDoor.Ir
