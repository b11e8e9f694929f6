/-
  The functions of the road, for the machine. (Written by a program.)
-/
import Derived.Test.YtcecdaeceipbnaaGreatDoorNr0
namespace Go.Proofs.YtcecdaeceipbnaaGreatDoor.Ir
set_option linter.unusedVariables false
set_option maxRecDepth 100000
open Go Go.Proofs.YtcecdaeceipbnaaGreatDoor
noncomputable def f3 : FnE := .code 88
 (.seq (.reg [o 0 d6 (.q (.mv (.v (.bool false))))])
 (.seq (.reg [o 0 d14 (.call p4 []),
 o 1 d7 (.q (.mv s14))])
 (.seq (.seq (.reg [o 0 d15 (.q (.mv s7)),
 o 1 d16 (.q (.not s15))])
 (.cnd s16 (.seq (.reg [o 0 d6 (.q (.mv (.v (.bool false))))])
 .ret) .skip))
 (.seq (.reg [o 0 d17 (.q (.mv s0)),
 o 1 d18 (.call p5 [s17]),
 o 2 d8 (.e (.alo (zz (.int .i64 (.ofNat 0)) 9))),
 o 3 none (.e (.st s8 s18 9))])
 (.seq (.reg [o 0 d20 (.q (.ldn s8 9)),
 o 1 d21 (.call p6 [s20]),
 o 2 d19 (.q (.mv s21)),
 o 3 d22 (.q (.ext s19 0)),
 o 4 d23 (.q (.ext s19 1)),
 o 5 d9 (.q (.mv s22)),
 o 6 d10 (.q (.mv s23))])
 (.seq (.reg [o 0 d11 (.q (.mv (.v (.int .i64 (.ofNat 0)))))])
 (.seq (.seq (.reg [o 0 d24 (.q (.mv s2)),
 o 1 d25 (.q (.not s24))])
 (.cnd s25 (.reg [o 0 d11 (.q (.mv (.v (.int .i64 (.ofNat 16777217)))))]) .skip))
 (.seq (.seq (.reg [o 0 d26 (.q (.mv s1)),
 o 1 d27 (.call p7 [s26, (.v (.int .i64 (.ofNat 9)))])])
 (.blk 0 (.seq (.reg [o 0 d31 (.q (.bin .eql s27 (.v (.int .i64 (.ofNat 0))))),
 o 1 d30 (.q (.mv s31))])
 (.cnd s30 (.reg [o 0 d32 (.q (.mv s11)),
 o 1 d33 (.q (.fadr s8 0)),
 o 2 none (.e (.st s33 s32 1))]) (.seq (.reg [o 0 d35 (.q (.bin .eql s27 (.v (.int .i64 (.ofNat 1))))),
 o 1 d34 (.q (.mv s35))])
 (.cnd s34 (.seq (.reg [o 0 d36 (.q (.mv s11)),
 o 1 d37 (.q (.bin .sub s36 (.v (.int .i64 (.ofNat 1))))),
 o 2 d38 (.q (.fadr s8 1)),
 o 3 none (.e (.st s38 s37 1))])
 (.seq (.reg [o 0 d39 (.q (.mv s2)),
 o 1 d40 (.q (.not s39))])
 (.cnd s40 (.reg [o 0 d41 (.q (.fadr s8 1)),
 o 1 none (.e (.st s41 (.v (.int .i64 (.ofNat 1001))) 1))]) .skip))) (.seq (.reg [o 0 d43 (.q (.bin .eql s27 (.v (.int .i64 (.ofNat 2))))),
 o 1 d42 (.q (.mv s43))])
 (.cnd s42 (.reg [o 0 d44 (.q (.mv s11)),
 o 1 d45 (.q (.fadr s8 2)),
 o 2 none (.e (.st s45 s44 1))]) (.seq (.reg [o 0 d47 (.q (.bin .eql s27 (.v (.int .i64 (.ofNat 3))))),
 o 1 d46 (.q (.mv s47))])
 (.cnd s46 (.reg [o 0 d48 (.q (.mv s11)),
 o 1 d49 (.q (.fadr s8 3)),
 o 2 none (.e (.st s49 s48 1))]) (.seq (.reg [o 0 d51 (.q (.bin .eql s27 (.v (.int .i64 (.ofNat 4))))),
 o 1 d50 (.q (.mv s51))])
 (.cnd s50 (.reg [o 0 d52 (.q (.mv s11)),
 o 1 d53 (.q (.fadr s8 4)),
 o 2 none (.e (.st s53 s52 1))]) (.seq (.reg [o 0 d55 (.q (.bin .eql s27 (.v (.int .i64 (.ofNat 5))))),
 o 1 d54 (.q (.mv s55))])
 (.cnd s54 (.reg [o 0 d56 (.q (.mv s11)),
 o 1 d57 (.q (.fadr s8 5)),
 o 2 none (.e (.st s57 s56 1))]) (.seq (.reg [o 0 d59 (.q (.bin .eql s27 (.v (.int .i64 (.ofNat 6))))),
 o 1 d58 (.q (.mv s59))])
 (.cnd s58 (.reg [o 0 d60 (.q (.mv s11)),
 o 1 d61 (.q (.fadr s8 6)),
 o 2 none (.e (.st s61 s60 1))]) (.seq (.reg [o 0 d63 (.q (.bin .eql s27 (.v (.int .i64 (.ofNat 7))))),
 o 1 d62 (.q (.mv s63))])
 (.cnd s62 (.reg [o 0 d64 (.q (.mv s11)),
 o 1 d65 (.q (.fadr s8 7)),
 o 2 none (.e (.st s65 s64 1))]) (.reg [o 0 d28 (.q (.mv s11)),
 o 1 d29 (.q (.fadr s8 8)),
 o 2 none (.e (.st s29 s28 1))])))))))))))))))))))
 (.seq (.reg [o 0 d67 (.q (.ldn s8 9)),
 o 1 d68 (.call p6 [s67]),
 o 2 d66 (.q (.mv s68)),
 o 3 d69 (.q (.ext s66 0)),
 o 4 d70 (.q (.ext s66 1)),
 o 5 d12 (.q (.mv s69)),
 o 6 d13 (.q (.mv s70))])
 (.seq (.reg [o 0 d71 (.q (.mv s7)),
 o 1 d72 (.q (.mv s71)),
 ⟨2, d73, (.q (.mv s9)), (some (p72, true)), []⟩,
 ⟨3, d74, (.q (.eqp .ptr true s73 (.v .nilp))), (some (p72, true)), []⟩,
 o 4 d75 (.q (.pick s72 s74 (.v (.bool false)))),
 o 5 d76 (.q (.mv s75)),
 ⟨6, d77, (.q (.mv s10)), (some (p76, true)), []⟩,
 ⟨7, d78, (.q (.eqp (.iface true) false s77 (.v .nili))), (some (p76, true)), []⟩,
 o 8 d79 (.q (.pick s76 s78 (.v (.bool false)))),
 o 9 d80 (.q (.mv s79)),
 ⟨10, d81, (.q (.mv s12)), (some (p80, true)), []⟩,
 ⟨11, d82, (.q (.eqp .ptr false s81 (.v .nilp))), (some (p80, true)), []⟩,
 o 12 d83 (.q (.pick s80 s82 (.v (.bool false)))),
 o 13 d84 (.q (.mv s83)),
 ⟨14, d85, (.q (.mv s13)), (some (p84, true)), []⟩,
 ⟨15, d86, (.call p8 [s85, (.v (.int .i64 (.ofNat 122)))]), (some (p84, true)), []⟩,
 o 16 d87 (.q (.pick s84 s86 (.v (.bool false)))),
 o 17 d6 (.q (.mv s87))])
 .ret))))))))))
 [.t p6]

noncomputable def f4 : FnE := .code 36
 (.seq (.reg [o 0 d0 (.q (.mv (.v (.bool false))))])
 (.seq (.reg [o 0 d5 (.call p5 [(.v (.int .i64 (.ofNat 0)))]),
 o 1 d6 (.call p6 [s5]),
 o 2 d4 (.q (.mv s6)),
 o 3 d7 (.q (.ext s4 0)),
 o 4 d8 (.q (.ext s4 1)),
 o 5 d1 (.q (.mv s7)),
 o 6 d2 (.q (.mv s8))])
 (.seq (.seq (.reg [o 0 d9 (.q (.mv s1)),
 o 1 d10 (.q (.eqp .ptr false s9 (.v .nilp))),
 o 2 d11 (.q (.mv s10)),
 ⟨3, d12, (.q (.mv s2)), (some (p11, false)), []⟩,
 ⟨4, d13, (.q (.eqp (.iface true) true s12 (.v .nili))), (some (p11, false)), []⟩,
 o 5 d14 (.q (.pick s11 (.v (.bool true)) s13))])
 (.cnd s14 (.seq (.reg [o 0 d0 (.q (.mv (.v (.bool false))))])
 .ret) .skip))
 (.seq (.reg [o 0 d15 (.q (.mv s1)),
 o 1 d16 (.call p9 [s15]),
 o 2 d3 (.e (.alo (lapp [(.int .u8 (.ofNat 0)), (.int .u8 (.ofNat 0)), (.int .u8 (.ofNat 0)), (.int .u8 (.ofNat 0)), (.int .u8 (.ofNat 0)), (.int .u8 (.ofNat 0)), (.int .u8 (.ofNat 0)), (.int .u8 (.ofNat 0)), (.int .u8 (.ofNat 0)), (.int .u8 (.ofNat 0)), (.int .u8 (.ofNat 0)), (.int .u8 (.ofNat 0)), (.int .u8 (.ofNat 0)), (.int .u8 (.ofNat 0)), (.int .u8 (.ofNat 0)), (.int .u8 (.ofNat 0)), (.int .u8 (.ofNat 0)), (.int .u8 (.ofNat 0)), (.int .u8 (.ofNat 0)), (.int .u8 (.ofNat 0)), (.int .u8 (.ofNat 0)), (.int .u8 (.ofNat 0)), (.int .u8 (.ofNat 0)), (.int .u8 (.ofNat 0)), (.int .u8 (.ofNat 0)), (.int .u8 (.ofNat 0)), (.int .u8 (.ofNat 0)), (.int .u8 (.ofNat 0)), (.int .u8 (.ofNat 0)), (.int .u8 (.ofNat 0)), (.int .u8 (.ofNat 0)), (.int .u8 (.ofNat 0)), (.int .i64 (.ofNat 0)), (.int .i64 (.ofNat 0)), (.int .u32 (.ofNat 0)), (.int .i64 (.ofNat 0))] (lapp (zz (.int .u8 (.ofNat 0)) 32) [.nils, (.int .i64 (.ofNat 0)), .nils])))),
 o 3 none (.e (.st s3 s16 71))])
 (.seq (.reg [o 0 d17 (.q (.fadr s3 32)),
 o 1 d18 (.q (.ld1 s17)),
 o 2 d19 (.q (.bin .eql s18 (.v (.int .i64 (.ofNat 0))))),
 o 3 d20 (.q (.mv s19)),
 ⟨4, d21, (.q (.fadr s3 68)), (some (p20, true)), []⟩,
 ⟨5, d22, (.q (.ld1 s21)), (some (p20, true)), []⟩,
 ⟨6, d23, (.q (.lenv s22)), (some (p20, true)), []⟩,
 ⟨7, d24, (.q (.bin .eql s23 (.v (.int .i64 (.ofNat 0))))), (some (p20, true)), []⟩,
 o 8 d25 (.q (.pick s20 s24 (.v (.bool false)))),
 o 9 d26 (.q (.mv s25)),
 ⟨10, d27, (.q (.mv s1)), (some (p26, true)), []⟩,
 ⟨11, d28, (.call p10 [s27]), (some (p26, true)), []⟩,
 ⟨12, d29, (.q (.eqp .ptr true s28 (.v .nilp))), (some (p26, true)), []⟩,
 o 13 d30 (.q (.pick s26 s29 (.v (.bool false)))),
 o 14 d31 (.q (.mv s30)),
 ⟨15, d32, (.q (.mv s1)), (some (p31, true)), []⟩,
 ⟨16, d33, (.call p11 [s32, (.v .nils)]), (some (p31, true)), []⟩,
 ⟨17, d34, (.call p8 [s33, (.v (.int .i64 (.ofNat 101)))]), (some (p31, true)), []⟩,
 o 18 d35 (.q (.pick s31 s34 (.v (.bool false)))),
 o 19 d0 (.q (.mv s35))])
 .ret)))))
 [.t p0]

noncomputable def f5 : FnE := .code 34
 (.seq (.reg [o 0 d2 (.e (.alo (zz (.int .i64 (.ofNat 0)) 9)))])
 (.seq (.reg [o 0 d4 (.q (.bld (zz (.int .i64 (.ofNat 0)) 9) [(0, 1, (.v (.int .i64 (.ofNat 5)))), (1, 1, (.v (.int .i64 (.ofNat 1)))), (2, 1, (.v (.int .i64 (.ofNat 3000)))), (3, 1, (.v (.int .i64 (.ofNat 2000)))), (4, 1, (.v (.int .i64 (.ofNat 200)))), (5, 1, (.v (.int .i64 (.ofNat 5)))), (6, 1, (.v (.int .i64 (.ofNat 2000)))), (7, 1, (.v (.int .i64 (.ofNat 5)))), (8, 1, (.v (.int .i64 (.ofNat 2000))))])),
 o 1 d3 (.e (.alo (zz (.int .i64 (.ofNat 0)) 9))),
 o 2 none (.e (.st s3 s4 9))])
 (.seq (.seq (.reg [o 0 d5 (.q (.mv s0)),
 o 1 d6 (.call p7 [s5, (.v (.int .i64 (.ofNat 6)))])])
 (.blk 0 (.seq (.reg [o 0 d8 (.q (.bin .eql s6 (.v (.int .i64 (.ofNat 1))))),
 o 1 d7 (.q (.mv s8))])
 (.cnd s7 (.seq (.reg [o 0 d9 (.q (.fadr s3 1)),
 o 1 none (.e (.st s9 (.v (.int .i64 (.ofNat 0))) 1))])
 (.reg [o 0 d10 (.q (.fadr s3 2)),
 o 1 none (.e (.st s10 (.v (.int .i64 (.ofNat 700))) 1))])) (.seq (.reg [o 0 d12 (.q (.bin .eql s6 (.v (.int .i64 (.ofNat 2))))),
 o 1 d11 (.q (.mv s12))])
 (.cnd s11 (.seq (.reg [o 0 d13 (.q (.fadr s3 1)),
 o 1 none (.e (.st s13 (.v (.int .i64 (.ofNat 2))) 1))])
 (.seq (.reg [o 0 d14 (.q (.fadr s3 3)),
 o 1 none (.e (.st s14 (.v (.int .i64 (.ofNat 300))) 1))])
 (.reg [o 0 d15 (.q (.fadr s3 4)),
 o 1 none (.e (.st s15 (.v (.int .i64 (.ofNat 4))) 1))]))) (.seq (.reg [o 0 d17 (.q (.bin .eql s6 (.v (.int .i64 (.ofNat 3))))),
 o 1 d16 (.q (.mv s17))])
 (.cnd s16 (.seq (.reg [o 0 d18 (.q (.fadr s3 5)),
 o 1 none (.e (.st s18 (.v (.int .i64 (.ofNat 2))) 1))])
 (.reg [o 0 d19 (.q (.fadr s3 7)),
 o 1 none (.e (.st s19 (.v (.int .i64 (.ofNat 3))) 1))])) (.seq (.reg [o 0 d21 (.q (.bin .eql s6 (.v (.int .i64 (.ofNat 4))))),
 o 1 d20 (.q (.mv s21))])
 (.cnd s20 (.seq (.reg [o 0 d22 (.q (.fadr s3 6)),
 o 1 none (.e (.st s22 (.v (.int .i64 (.ofNat 400))) 1))])
 (.reg [o 0 d23 (.q (.fadr s3 8)),
 o 1 none (.e (.st s23 (.v (.int .i64 (.ofNat 500))) 1))])) (.seq (.reg [o 0 d25 (.q (.bin .eql s6 (.v (.int .i64 (.ofNat 5))))),
 o 1 d24 (.q (.mv s25))])
 (.cnd s24 (.seq (.reg [o 0 d26 (.q (.fadr s3 1)),
 o 1 none (.e (.st s26 (.v (.int .i64 (.ofNat 0))) 1))])
 (.seq (.reg [o 0 d27 (.q (.fadr s3 2)),
 o 1 none (.e (.st s27 (.v (.int .i64 (.ofNat 1048576))) 1))])
 (.seq (.reg [o 0 d28 (.q (.fadr s3 5)),
 o 1 none (.e (.st s28 (.v (.int .i64 (.ofNat 50))) 1))])
 (.seq (.reg [o 0 d29 (.q (.fadr s3 7)),
 o 1 none (.e (.st s29 (.v (.int .i64 (.ofNat 50))) 1))])
 (.seq (.reg [o 0 d30 (.q (.fadr s3 6)),
 o 1 none (.e (.st s30 (.v (.int .i64 (.ofNat 1048576))) 1))])
 (.seq (.reg [o 0 d31 (.q (.fadr s3 8)),
 o 1 none (.e (.st s31 (.v (.int .i64 (.ofNat 1048576))) 1))])
 (.reg [o 0 d32 (.q (.fadr s3 3)),
 o 1 none (.e (.st s32 (.v (.int .i64 (.ofNat 1048576))) 1))]))))))) .skip))))))))))))
 (.seq (.reg [o 0 d33 (.q (.ldn s3 9)),
 o 1 none (.e (.st s2 s33 9))])
 .ret))))
 [.cn p2 9]

noncomputable def f6 : FnE := .code 39
 (.seq (.reg [o 0 d1 (.e (.box s0 9)),
 o 1 d2 (.q (.mv (.v .nilp))),
 o 2 d3 (.q (.mv (.v .nili)))])
 (.seq (.reg [o 0 d9 (.q (.ldn s1 9)),
 o 1 d10 (.call p12 [s9]),
 o 2 d8 (.q (.mv s10)),
 o 3 d11 (.q (.ext s8 0)),
 o 4 d12 (.q (.ext s8 1)),
 o 5 d4 (.q (.mv s11)),
 o 6 d5 (.q (.mv s12))])
 (.seq (.seq (.reg [o 0 d13 (.q (.mv s5)),
 o 1 d14 (.q (.eqp (.iface true) true s13 (.v .nili)))])
 (.cnd s14 (.seq (.reg [o 0 d15 (.q (.mv s5)),
 o 1 d2 (.q (.mv (.v .nilp))),
 o 2 d3 (.q (.mv s15))])
 .ret) .skip))
 (.seq (.reg [o 0 d17 (.q (.ldn s1 9)),
 o 1 d18 (.call p13 [s17]),
 o 2 d16 (.q (.mv s18)),
 o 3 d19 (.q (.ext s16 0)),
 o 4 d20 (.q (.ext s16 1)),
 o 5 d6 (.q (.mv s19)),
 o 6 d5 (.q (.mv s20))])
 (.seq (.seq (.reg [o 0 d21 (.q (.mv s5)),
 o 1 d22 (.q (.eqp (.iface true) true s21 (.v .nili)))])
 (.cnd s22 (.seq (.reg [o 0 d23 (.q (.mv s5)),
 o 1 d2 (.q (.mv (.v .nilp))),
 o 2 d3 (.q (.mv s23))])
 .ret) .skip))
 (.seq (.reg [o 0 d25 (.q (.fadr s1 4)),
 o 1 d26 (.q (.ld1 s25)),
 o 2 d27 (.call p14 [s26]),
 o 3 d24 (.q (.mv s27)),
 o 4 d28 (.q (.ext s24 0)),
 o 5 d29 (.q (.ext s24 1)),
 o 6 d7 (.q (.mv s28)),
 o 7 d5 (.q (.mv s29))])
 (.seq (.seq (.reg [o 0 d30 (.q (.mv s5)),
 o 1 d31 (.q (.eqp (.iface true) true s30 (.v .nili)))])
 (.cnd s31 (.seq (.reg [o 0 d32 (.q (.mv s5)),
 o 1 d2 (.q (.mv (.v .nilp))),
 o 2 d3 (.q (.mv s32))])
 .ret) .skip))
 (.seq (.reg [o 0 d33 (.q (.ldn s1 9)),
 o 1 d34 (.q (.mv s4)),
 o 2 d35 (.q (.mv s6)),
 o 3 d36 (.q (.mv s7)),
 o 4 d37 (.q (.bld [(.int .i64 (.ofNat 0)), (.int .i64 (.ofNat 0)), (.int .i64 (.ofNat 0)), (.int .i64 (.ofNat 0)), (.int .i64 (.ofNat 0)), (.int .i64 (.ofNat 0)), (.int .i64 (.ofNat 0)), (.int .i64 (.ofNat 0)), (.int .i64 (.ofNat 0)), .nilp, .nilp, .nilp] [(0, 9, s33), (9, 1, s34), (10, 1, s35), (11, 1, s36)])),
 o 5 d38 (.e (.box s37 12)),
 o 6 d2 (.q (.mv s38)),
 o 7 d3 (.q (.mv (.v .nili)))])
 .ret))))))))
 [.t p2, .t p3]

noncomputable def f7 : FnE := .code 15
 (.seq (.reg [o 0 d4 (.q (.mv (.v (.int .i64 (.ofNat 0)))))])
 (.seq (.reg [o 0 d6 (.q (.mv s0)),
 o 1 d7 (.q (.mv s1)),
 o 2 d8 (.q (.bin .rem s6 s7)),
 o 3 d5 (.q (.mv s8))])
 (.seq (.seq (.reg [o 0 d9 (.q (.mv s5)),
 o 1 d10 (.q (.bin .lss s9 (.v (.int .i64 (.ofNat 0)))))])
 (.cnd s10 (.reg [o 0 d11 (.q (.mv s5)),
 o 1 d12 (.q (.mv s1)),
 o 2 d13 (.q (.bin .add s11 s12)),
 o 3 d5 (.q (.mv s13))]) .skip))
 (.seq (.reg [o 0 d14 (.q (.mv s5)),
 o 1 d4 (.q (.mv s14))])
 .ret))))
 [.t p4]

noncomputable def f8 : FnE := .code 9
 (.seq (.reg [o 0 d4 (.q (.mv (.v (.bool false))))])
 (.seq (.reg [o 0 d5 (.q (.mv s0)),
 o 1 d6 (.q (.mv s1)),
 o 2 d7 (.call p16 [s6]),
 o 3 d8 (.call p15 [s5, s7]),
 o 4 d4 (.q (.mv s8))])
 .ret))
 [.t p4]

noncomputable def f9 : FnE := .code 50
 (.seq (.reg [o 0 d2 (.e (.alo (lapp [(.int .u8 (.ofNat 0)), (.int .u8 (.ofNat 0)), (.int .u8 (.ofNat 0)), (.int .u8 (.ofNat 0)), (.int .u8 (.ofNat 0)), (.int .u8 (.ofNat 0)), (.int .u8 (.ofNat 0)), (.int .u8 (.ofNat 0)), (.int .u8 (.ofNat 0)), (.int .u8 (.ofNat 0)), (.int .u8 (.ofNat 0)), (.int .u8 (.ofNat 0)), (.int .u8 (.ofNat 0)), (.int .u8 (.ofNat 0)), (.int .u8 (.ofNat 0)), (.int .u8 (.ofNat 0)), (.int .u8 (.ofNat 0)), (.int .u8 (.ofNat 0)), (.int .u8 (.ofNat 0)), (.int .u8 (.ofNat 0)), (.int .u8 (.ofNat 0)), (.int .u8 (.ofNat 0)), (.int .u8 (.ofNat 0)), (.int .u8 (.ofNat 0)), (.int .u8 (.ofNat 0)), (.int .u8 (.ofNat 0)), (.int .u8 (.ofNat 0)), (.int .u8 (.ofNat 0)), (.int .u8 (.ofNat 0)), (.int .u8 (.ofNat 0)), (.int .u8 (.ofNat 0)), (.int .u8 (.ofNat 0)), (.int .i64 (.ofNat 0)), (.int .i64 (.ofNat 0)), (.int .u32 (.ofNat 0)), (.int .i64 (.ofNat 0))] (lapp (zz (.int .u8 (.ofNat 0)) 32) [.nils, (.int .i64 (.ofNat 0)), .nils]))))])
 (.seq (.reg [o 0 d4 (.q (.mv s0)),
 o 1 d5 (.q (.nck s4)),
 o 2 d6 (.q (.fadr s5 9)),
 o 3 d7 (.q (.ld1 s6)),
 o 4 d8 (.call p17 [s7]),
 o 5 d3 (.q (.mv s8))])
 (.seq (.rgd 0 [o 0 d9 (.q (.mv s0)),
 o 1 d10 (.q (.nck s9)),
 o 2 d11 (.q (.fadr s10 9)),
 o 3 d12 (.q (.ld1 s11)),
 o 5 d14 (.q (.mv s0)),
 o 6 d15 (.q (.nck s14)),
 o 7 d16 (.q (.fadr s15 9)),
 o 8 d17 (.q (.ld1 s16)),
 o 10 d19 (.q (.mv s0)),
 o 11 d20 (.q (.nck s19)),
 o 12 d21 (.q (.fadr s20 11)),
 o 13 d22 (.q (.ld1 s21)),
 o 15 d24 (.q (.mv s0)),
 o 16 d25 (.q (.nck s24)),
 o 17 d26 (.q (.fadr s25 9)),
 o 18 d27 (.q (.ld1 s26)),
 o 20 d29 (.q (.mv s3)),
 o 22 d31 (.q (.mv s3)),
 o 24 d33 (.q (.mv s0)),
 o 25 d34 (.q (.nck s33)),
 o 26 d35 (.q (.fadr s34 10)),
 o 27 d36 (.q (.ld1 s35)),
 o 30 d39 (.q (.mv s0)),
 o 31 d40 (.q (.nck s39)),
 o 32 d41 (.q (.fadr s40 10)),
 o 33 d42 (.q (.ld1 s41)),
 o 35 d44 (.q (.mv s0)),
 o 36 d45 (.q (.nck s44)),
 o 37 d46 (.q (.fadr s45 9)),
 o 38 d47 (.q (.ld1 s46)),
 ⟨4, d13, (.call p18 [s12]), none, [(p17, .ld1 s16, none), (p22, .ld1 s21, none), (p27, .ld1 s26, none), (p36, .ld1 s35, none), (p42, .ld1 s41, none), (p47, .ld1 s46, none)]⟩,
 ⟨9, d18, (.call p19 [s17]), none, [(p22, .ld1 s21, none), (p27, .ld1 s26, none), (p36, .ld1 s35, none), (p42, .ld1 s41, none), (p47, .ld1 s46, none)]⟩,
 ⟨14, d23, (.call p20 [s22]), none, [(p27, .ld1 s26, none), (p36, .ld1 s35, none), (p42, .ld1 s41, none), (p47, .ld1 s46, none)]⟩,
 ⟨19, d28, (.call p21 [s27]), none, [(p36, .ld1 s35, none), (p42, .ld1 s41, none), (p47, .ld1 s46, none)]⟩,
 ⟨21, d30, (.call p22 [s29]), none, [(p36, .ld1 s35, none), (p42, .ld1 s41, none), (p47, .ld1 s46, none)]⟩,
 ⟨23, d32, (.call p23 [s31]), none, [(p36, .ld1 s35, none), (p42, .ld1 s41, none), (p47, .ld1 s46, none)]⟩,
 ⟨28, d37, (.call p24 [s36]), none, [(p42, .ld1 s41, none), (p47, .ld1 s46, none)]⟩,
 ⟨29, d38, (.call p25 [s37]), none, [(p42, .ld1 s41, none), (p47, .ld1 s46, none)]⟩,
 ⟨34, d43, (.call p26 [s42]), none, [(p47, .ld1 s46, none)]⟩,
 o 39 d48 (.call p27 [s47]),
 o 40 d49 (.q (.bld (lapp [(.int .u8 (.ofNat 0)), (.int .u8 (.ofNat 0)), (.int .u8 (.ofNat 0)), (.int .u8 (.ofNat 0)), (.int .u8 (.ofNat 0)), (.int .u8 (.ofNat 0)), (.int .u8 (.ofNat 0)), (.int .u8 (.ofNat 0)), (.int .u8 (.ofNat 0)), (.int .u8 (.ofNat 0)), (.int .u8 (.ofNat 0)), (.int .u8 (.ofNat 0)), (.int .u8 (.ofNat 0)), (.int .u8 (.ofNat 0)), (.int .u8 (.ofNat 0)), (.int .u8 (.ofNat 0)), (.int .u8 (.ofNat 0)), (.int .u8 (.ofNat 0)), (.int .u8 (.ofNat 0)), (.int .u8 (.ofNat 0)), (.int .u8 (.ofNat 0)), (.int .u8 (.ofNat 0)), (.int .u8 (.ofNat 0)), (.int .u8 (.ofNat 0)), (.int .u8 (.ofNat 0)), (.int .u8 (.ofNat 0)), (.int .u8 (.ofNat 0)), (.int .u8 (.ofNat 0)), (.int .u8 (.ofNat 0)), (.int .u8 (.ofNat 0)), (.int .u8 (.ofNat 0)), (.int .u8 (.ofNat 0)), (.int .i64 (.ofNat 0)), (.int .i64 (.ofNat 0)), (.int .u32 (.ofNat 0)), (.int .i64 (.ofNat 0))] (lapp (zz (.int .u8 (.ofNat 0)) 32) [.nils, (.int .i64 (.ofNat 0)), .nils])) [(0, 32, s13), (32, 1, s18), (33, 1, s23), (34, 1, s28), (35, 1, s30), (36, 32, s32), (68, 1, s38), (69, 1, s43), (70, 1, s48)])),
 o 41 none (.e (.st s2 s49 71))])
 .ret)))
 [.cn p2 71]

noncomputable def f10 : FnE := .code 8
 (.seq (.reg [o 0 d2 (.q (.mv (.v .nilp)))])
 (.seq (.reg [o 0 d3 (.q (.mv s0)),
 o 1 d4 (.q (.nck s3)),
 o 2 d5 (.q (.fadr s4 11)),
 o 3 d6 (.q (.ld1 s5)),
 o 4 d7 (.call p28 [s6]),
 o 5 d2 (.q (.mv s7))])
 .ret))
 [.t p2]

noncomputable def f11 : FnE := .code 8
 (.seq (.reg [o 0 d4 (.q (.mv (.v .nili)))])
 (.seq (.reg [o 0 d5 (.q (.mv s0)),
 o 1 d6 (.q (.mv s1)),
 o 2 d7 (.call p29 [s5, (.f 30), s6]),
 o 3 d4 (.q (.mv s7))])
 .ret))
 [.t p4]

noncomputable def f12 : FnE := .code 32
 (.seq (.reg [o 0 d1 (.e (.box s0 9)),
 o 1 d2 (.q (.mv (.v .nilp))),
 o 2 d3 (.q (.mv (.v .nili)))])
 (.seq (.seq (.reg [o 0 d7 (.q (.ldn s1 9)),
 o 1 d8 (.call p31 [s7]),
 o 2 d4 (.q (.mv s8))])
 (.seq (.reg [o 0 d9 (.q (.mv s4)),
 o 1 d10 (.q (.eqp (.iface true) true s9 (.v .nili)))])
 (.cnd s10 (.seq (.reg [o 0 d11 (.q (.mv s4)),
 o 1 d2 (.q (.mv (.v .nilp))),
 o 2 d3 (.q (.mv s11))])
 .ret) .skip)))
 (.seq (.reg [o 0 d12 (.call p32 []),
 o 1 d5 (.e (.alo (lapp [(.int .u32 (.ofNat 0))] (lapp (zz (.int .u8 (.ofNat 0)) 32) [(.int .u8 (.ofNat 0)), (.int .u8 (.ofNat 0)), (.int .u8 (.ofNat 0)), (.int .u8 (.ofNat 0)), (.int .u8 (.ofNat 0)), (.int .u8 (.ofNat 0)), (.int .u8 (.ofNat 0)), (.int .u8 (.ofNat 0)), (.int .u8 (.ofNat 0)), (.int .u8 (.ofNat 0)), (.int .u8 (.ofNat 0)), (.int .u8 (.ofNat 0)), (.int .u8 (.ofNat 0)), (.int .u8 (.ofNat 0)), (.int .u8 (.ofNat 0)), (.int .u8 (.ofNat 0)), (.int .u8 (.ofNat 0)), (.int .u8 (.ofNat 0)), (.int .u8 (.ofNat 0)), (.int .u8 (.ofNat 0)), (.int .u8 (.ofNat 0)), (.int .u8 (.ofNat 0)), (.int .u8 (.ofNat 0)), (.int .u8 (.ofNat 0)), (.int .u8 (.ofNat 0)), (.int .u8 (.ofNat 0)), (.int .u8 (.ofNat 0)), (.int .u8 (.ofNat 0)), (.int .u8 (.ofNat 0)), (.int .u8 (.ofNat 0)), (.int .u8 (.ofNat 0)), (.int .u8 (.ofNat 0)), (.int .u32 (.ofNat 0)), (.int .u32 (.ofNat 0)), (.int .u32 (.ofNat 0)), .nils])))),
 o 2 none (.e (.st s5 s12 69))])
 (.seq (.reg [o 0 d13 (.q (.fadr s5 0)),
 o 1 d14 (.q (.ldn s13 68)),
 o 2 d15 (.call p33 [s14]),
 o 3 d6 (.q (.mv s15))])
 (.seq (.rgd 3 [o 0 d16 (.q (.ldn s1 9)),
 o 1 d17 (.q (.mv s6)),
 o 2 d18 (.q (.mv s6)),
 o 5 d21 (.q (.mv s6)),
 o 7 d23 (.q (.ldn s5 69)),
 o 11 d26 (.q (.bld [.nilm] [])),
 o 13 d28 (.q (.mv s6)),
 ⟨3, d19, (.call p34 [s18]), none, [(p16, .ldn s1 9, none), (p23, .ldn s5 69, none)]⟩,
 ⟨6, d22, (.call p35 [s21]), none, [(p16, .ldn s1 9, none), (p23, .ldn s5 69, none)]⟩,
 ⟨14, d29, (.call p35 [s28]), none, [(p16, .ldn s1 9, none), (p23, .ldn s5 69, none)]⟩,
 ⟨4, d20, (.l (.mkm (.cells (kk .u8 32))) 0), none, [(p16, .ldn s1 9, none), (p23, .ldn s5 69, none)]⟩,
 ⟨8, none, (.l (.pin s20 s22 s23 (.cells (kk .u8 32))) 0), none, [(p16, .ldn s1 9, none)]⟩,
 o 9 d24 (.q (.mv s20)),
 ⟨10, d25, (.l (.mkm (.cells (kk .u8 32))) 1), none, [(p16, .ldn s1 9, none), (p23, .ldn s5 69, none)]⟩,
 ⟨12, d27, (.l (.box s26 1) 2), none, [(p16, .ldn s1 9, none), (p23, .ldn s5 69, none)]⟩,
 o 15 d30 (.q (.bld (lapp [(.int .i64 (.ofNat 0)), (.int .i64 (.ofNat 0)), (.int .i64 (.ofNat 0)), (.int .i64 (.ofNat 0)), (.int .i64 (.ofNat 0)), (.int .i64 (.ofNat 0)), (.int .i64 (.ofNat 0)), (.int .i64 (.ofNat 0)), (.int .i64 (.ofNat 0)), .nilp, .nilp, .nilm, .nilm, .nilp] (zz (.int .u8 (.ofNat 0)) 32)) [(0, 9, s16), (9, 1, s17), (10, 1, s19), (11, 1, s24), (12, 1, s25), (13, 1, s27), (14, 32, s29)])),
 o 16 d31 (.e (.box s30 46)),
 o 17 d2 (.q (.mv s31)),
 o 18 d3 (.q (.mv (.v .nili)))])
 .ret)))))
 [.t p2, .t p3]

noncomputable def f13 : FnE := .code 15
 (.seq (.reg [o 0 d1 (.e (.box s0 9)),
 o 1 d2 (.q (.mv (.v .nilp))),
 o 2 d3 (.q (.mv (.v .nili)))])
 (.seq (.seq (.reg [o 0 d5 (.q (.ldn s1 9)),
 o 1 d6 (.call p31 [s5]),
 o 2 d4 (.q (.mv s6))])
 (.seq (.reg [o 0 d7 (.q (.mv s4)),
 o 1 d8 (.q (.eqp (.iface true) true s7 (.v .nili)))])
 (.cnd s8 (.seq (.reg [o 0 d9 (.q (.mv s4)),
 o 1 d2 (.q (.mv (.v .nilp))),
 o 2 d3 (.q (.mv s9))])
 .ret) .skip)))
 (.seq (.reg [o 0 d10 (.q (.ldn s1 9)),
 o 1 d11 (.q (.bld [.nilm, .nilm, (.int .i64 (.ofNat 0)), (.int .i64 (.ofNat 0)), (.int .i64 (.ofNat 0)), (.int .u64 (.ofNat 0))] [])),
 o 2 d12 (.e (.box s11 6)),
 o 3 d13 (.q (.bld [(.int .i64 (.ofNat 0)), (.int .i64 (.ofNat 0)), (.int .i64 (.ofNat 0)), (.int .i64 (.ofNat 0)), (.int .i64 (.ofNat 0)), (.int .i64 (.ofNat 0)), (.int .i64 (.ofNat 0)), (.int .i64 (.ofNat 0)), (.int .i64 (.ofNat 0)), .nilp] [(0, 9, s10), (9, 1, s12)])),
 o 4 d14 (.e (.box s13 10)),
 o 5 d2 (.q (.mv s14)),
 o 6 d3 (.q (.mv (.v .nili)))])
 .ret)))
 [.t p2, .t p3]

noncomputable def f14 : FnE := .code 15
 (.seq (.reg [o 0 d2 (.q (.mv (.v .nilp))),
 o 1 d3 (.q (.mv (.v .nili)))])
 (.seq (.seq (.reg [o 0 d4 (.q (.mv s0)),
 o 1 d5 (.q (.bin .lss s4 (.v (.int .i64 (.ofNat 1))))),
 o 2 d6 (.q (.mv s5)),
 ⟨3, d7, (.q (.mv s0)), (some (p6, false)), []⟩,
 ⟨4, d8, (.q (.bin .gtr s7 (.v (.int .i64 (.ofNat 65536))))), (some (p6, false)), []⟩,
 o 5 d9 (.q (.pick s6 (.v (.bool true)) s8))])
 (.cnd s9 (.seq (.rgd 0 [o 0 d10 (.q (.ld1 (.g p0))),
 o 1 d2 (.q (.mv (.v .nilp))),
 o 2 d3 (.q (.mv s10))])
 .ret) .skip))
 (.seq (.reg [o 0 d11 (.q (.mv s0)),
 o 1 d12 (.e (.mkm (.int .i64))),
 o 2 d13 (.q (.bld [(.int .i64 (.ofNat 0)), (.int .i64 (.ofNat 0)), .nils, .nilm] [(0, 1, s11), (3, 1, s12)])),
 o 3 d14 (.e (.box s13 4)),
 o 4 d2 (.q (.mv s14)),
 o 5 d3 (.q (.mv (.v .nili)))])
 .ret)))
 [.t p2, .t p3]

noncomputable def f15 : FnE := .code 9
 (.seq (.reg [o 0 d3 (.e (.box s1 5)),
 o 1 d4 (.q (.mv (.v (.bool false))))])
 (.seq (.rgd 0 [o 0 d5 (.q (.mv s0)),
 o 2 d7 (.q (.ldn s3 5)),
 ⟨1, d6, (.call p37 [s5]), none, [(p7, .ldn s3 5, none)]⟩,
 o 3 d8 (.call p36 [s6, s7]),
 o 4 d4 (.q (.mv s8))])
 .ret))
 [.t p4]

noncomputable def f16 : FnE := .code 5
 (.seq (.reg [o 0 d2 (.e (.alo [(.int .i64 (.ofNat 0)), (.bool false), (.int .i64 (.ofNat 0)), (.bool false), (.int .i64 (.ofNat 0))]))])
 (.seq (.reg [o 0 d3 (.q (.mv s0)),
 o 1 d4 (.q (.bld [(.int .i64 (.ofNat 0)), (.bool false), (.int .i64 (.ofNat 0)), (.bool false), (.int .i64 (.ofNat 0))] [(0, 1, s3)])),
 o 2 none (.e (.st s2 s4 5))])
 .ret))
 [.cn p2 5]

noncomputable def f17 : FnE := .code 8
 (.seq (.reg [o 0 d2 (.q (.mv (.v .nilp)))])
 (.seq (.reg [o 0 d3 (.q (.mv s0)),
 o 1 d4 (.q (.nck s3)),
 o 2 d5 (.q (.fadr s4 13)),
 o 3 d6 (.q (.ld1 s5)),
 o 4 d7 (.call p38 [s6]),
 o 5 d2 (.q (.mv s7))])
 .ret))
 [.t p2]

noncomputable def f18 : FnE := .code 7
 (.seq (.reg [o 0 d2 (.e (.alo (zz (.int .u8 (.ofNat 0)) 32)))])
 (.seq (.reg [o 0 d3 (.q (.mv s0)),
 o 1 d4 (.q (.nck s3)),
 o 2 d5 (.q (.fadr s4 14)),
 o 3 d6 (.q (.ldn s5 32)),
 o 4 none (.e (.st s2 s6 32))])
 .ret))
 [.cn p2 32]

noncomputable def f19 : FnE := .code 18
 (.seq (.reg [o 0 d2 (.q (.mv (.v (.int .i64 (.ofNat 0)))))])
 (.seq (.rgd 0 [o 0 d6 (.q (.mv s0)),
 o 1 d7 (.q (.nck s6)),
 o 2 d8 (.q (.fadr s7 9)),
 o 3 d9 (.q (.ld1 s8)),
 o 4 d10 (.q (.mv s0)),
 o 5 d11 (.q (.nck s10)),
 o 6 d12 (.q (.fadr s11 14)),
 o 7 d13 (.q (.ldn s12 32)),
 o 8 d14 (.call p39 [s9, s13]),
 o 9 d5 (.q (.mv s14)),
 o 10 d15 (.q (.ext s5 0)),
 o 11 d16 (.q (.ext s5 1)),
 o 12 d3 (.q (.mv s15)),
 o 13 d4 (.q (.mv s16))])
 (.seq (.reg [o 0 d17 (.q (.mv s3)),
 o 1 d2 (.q (.mv s17))])
 .ret)))
 [.t p2]

noncomputable def f20 : FnE := .code 7
 (.seq (.reg [o 0 d2 (.q (.mv (.v (.int .i64 (.ofNat 0)))))])
 (.seq (.reg [o 0 d3 (.q (.mv s0)),
 o 1 d4 (.q (.nck s3)),
 o 2 d5 (.q (.fadr s4 1)),
 o 3 d6 (.q (.ld1 s5)),
 o 4 d2 (.q (.mv s6))])
 .ret))
 [.t p2]

noncomputable def f21 : FnE := .code 18
 (.seq (.reg [o 0 d2 (.q (.mv (.v (.int .u32 (.ofNat 0)))))])
 (.seq (.rgd 0 [o 0 d6 (.q (.mv s0)),
 o 1 d7 (.q (.nck s6)),
 o 2 d8 (.q (.fadr s7 9)),
 o 3 d9 (.q (.ld1 s8)),
 o 4 d10 (.q (.mv s0)),
 o 5 d11 (.q (.nck s10)),
 o 6 d12 (.q (.fadr s11 14)),
 o 7 d13 (.q (.ldn s12 32)),
 o 8 d14 (.call p40 [s9, s13]),
 o 9 d5 (.q (.mv s14)),
 o 10 d15 (.q (.ext s5 0)),
 o 11 d16 (.q (.ext s5 1)),
 o 12 d3 (.q (.mv s15)),
 o 13 d4 (.q (.mv s16))])
 (.seq (.reg [o 0 d17 (.q (.mv s3)),
 o 1 d2 (.q (.mv s17))])
 .ret)))
 [.t p2]

noncomputable def f22 : FnE := .code 8
 (.seq (.reg [o 0 d2 (.q (.mv (.v (.int .i64 (.ofNat 0)))))])
 (.seq (.reg [o 0 d3 (.q (.mv s0)),
 o 1 d4 (.q (.nck s3)),
 o 2 d5 (.q (.fadr s4 0)),
 o 3 d6 (.q (.ld1 s5)),
 o 4 d7 (.q (.lenm s6)),
 o 5 d2 (.q (.mv s7))])
 .ret))
 [.t p2]

noncomputable def f23 : FnE := .code 18
 (.seq (.reg [o 0 d2 (.e (.alo (zz (.int .u8 (.ofNat 0)) 32)))])
 (.seq (.reg [o 0 d3 (.e (.alo [(.int .u32 (.ofNat 0)), (.int .u32 (.ofNat 0)), (.int .u32 (.ofNat 0)), (.int .u32 (.ofNat 0)), (.int .u32 (.ofNat 0)), (.int .u32 (.ofNat 0)), (.int .u32 (.ofNat 0)), (.int .u32 (.ofNat 0)), .nils, (.int .i64 (.ofNat 0))]))])
 (.seq (.seq (.reg [o 0 d6 (.q (.mv s0)),
 o 1 d7 (.call p41 [s6]),
 o 2 d8 (.q (.lenv s7)),
 o 3 d9 (.q (.mv (.v (.int .i64 (.ofNat 0)))))])
 (.blk 0 (.loop (.seq (.reg [o 0 d10 (.q (.bin .lss s9 s8))])
 (.seq (.cnd s10 .skip (.exit 0))
 (.seq (.blk 1 (.seq (.reg [o 0 d11 (.q (.iadr s7 s9 68)),
 o 1 d12 (.q (.ldn s11 68)),
 o 2 d5 (.e (.alo (lapp [(.int .u8 (.ofNat 0)), (.int .u8 (.ofNat 0)), (.int .u8 (.ofNat 0)), (.int .u8 (.ofNat 0)), (.int .u8 (.ofNat 0)), (.int .u8 (.ofNat 0)), (.int .u8 (.ofNat 0)), (.int .u8 (.ofNat 0)), (.int .u8 (.ofNat 0)), (.int .u8 (.ofNat 0)), (.int .u8 (.ofNat 0)), (.int .u8 (.ofNat 0)), (.int .u8 (.ofNat 0)), (.int .u8 (.ofNat 0)), (.int .u8 (.ofNat 0)), (.int .u8 (.ofNat 0)), (.int .u8 (.ofNat 0)), (.int .u8 (.ofNat 0)), (.int .u8 (.ofNat 0)), (.int .u8 (.ofNat 0)), (.int .u8 (.ofNat 0)), (.int .u8 (.ofNat 0)), (.int .u8 (.ofNat 0)), (.int .u8 (.ofNat 0)), (.int .u8 (.ofNat 0)), (.int .u8 (.ofNat 0)), (.int .u8 (.ofNat 0)), (.int .u8 (.ofNat 0)), (.int .u8 (.ofNat 0)), (.int .u8 (.ofNat 0)), (.int .u8 (.ofNat 0)), (.int .u8 (.ofNat 0)), (.int .u32 (.ofNat 0)), (.int .u64 (.ofNat 0))] (lapp (zz (.int .u8 (.ofNat 0)) 32) [(.int .i64 (.ofNat 0)), (.bool false)])))),
 o 3 none (.e (.st s5 s12 68))])
 (.reg [o 0 d13 (.q (.ldn s5 68)),
 o 1 d14 (.call p43 [s13]),
 o 2 d15 (.call p42 [s3, s14])])))
 (.reg [o 0 d16 (.q (.bin .add s9 (.v (.int .i64 (.ofNat 1))))),
 o 1 d9 (.q (.mv s16))])))))))
 (.seq (.reg [o 0 d17 (.call p44 [s3]),
 o 1 none (.e (.st s2 s17 32))])
 .ret))))
 [.cn p2 32]

noncomputable def f24 : FnE := .code 8
 (.seq (.reg [o 0 d2 (.q (.mv (.v .nilp)))])
 (.seq (.reg [o 0 d3 (.q (.mv s0)),
 o 1 d4 (.q (.nck s3)),
 o 2 d5 (.q (.fadr s4 9)),
 o 3 d6 (.q (.ld1 s5)),
 o 4 d7 (.call p45 [s6]),
 o 5 d2 (.q (.mv s7))])
 .ret))
 [.t p2]

noncomputable def f25 : FnE := .code 9
 (.seq (.reg [o 0 d2 (.q (.mv (.v .nils)))])
 (.seq (.reg [o 0 d3 (.q (.mv s0)),
 o 1 d4 (.q (.nck s3)),
 o 2 d5 (.q (.fadr s4 0)),
 o 3 d6 (.q (.ld1 s5)),
 o 4 d7 (.call p47 [s6]),
 o 5 d8 (.call p46 [s7, (.f 48)]),
 o 6 d2 (.q (.mv s8))])
 .ret))
 [.t p2]

noncomputable def f26 : FnE := .code 9
 (.seq (.reg [o 0 d2 (.q (.mv (.v (.int .i64 (.ofNat 0)))))])
 (.seq (.reg [o 0 d3 (.q (.mv s0)),
 o 1 d4 (.q (.nck s3)),
 o 2 d5 (.q (.fadr s4 9)),
 o 3 d6 (.q (.ld1 s5)),
 o 4 d7 (.call p49 [s6]),
 o 5 d8 (.q (.fld s7 1 1 false)),
 o 6 d2 (.q (.mv s8))])
 .ret))
 [.t p2]

noncomputable def f27 : FnE := .code 8
 (.seq (.reg [o 0 d2 (.q (.mv (.v .nils)))])
 (.seq (.reg [o 0 d3 (.q (.mv s0)),
 o 1 d4 (.q (.nck s3)),
 o 2 d5 (.q (.fadr s4 10)),
 o 3 d6 (.q (.ld1 s5)),
 o 4 d7 (.call p50 [s6]),
 o 5 d2 (.q (.mv s7))])
 .ret))
 [.t p2]

noncomputable def f28 : FnE := .code 23
 (.seq (.reg [o 0 d2 (.q (.mv (.v .nilp)))])
 (.seq (.rgd 0 [o 0 d3 (.q (.mv s0)),
 o 1 d4 (.q (.nck s3)),
 o 2 d5 (.q (.fadr s4 0)),
 o 3 d6 (.q (.ld1 s5)),
 o 4 d7 (.q (.mv s0)),
 o 5 d8 (.q (.nck s7)),
 o 6 d9 (.q (.fadr s8 1)),
 o 7 d10 (.q (.ld1 s9)),
 o 8 d11 (.q (.mv s0)),
 o 9 d12 (.q (.nck s11)),
 o 10 d13 (.q (.fadr s12 2)),
 o 11 d14 (.q (.ld1 s13)),
 o 13 d16 (.q (.mv s0)),
 o 14 d17 (.q (.nck s16)),
 o 15 d18 (.q (.fadr s17 3)),
 o 16 d19 (.q (.ld1 s18)),
 ⟨12, d15, (.call p51 [s14]), none, [(p6, .ld1 s5, none), (p10, .ld1 s9, none), (p19, .ld1 s18, none)]⟩,
 ⟨17, d20, (.call p52 [s19]), none, [(p6, .ld1 s5, none), (p10, .ld1 s9, none)]⟩,
 o 18 d21 (.q (.bld [(.int .i64 (.ofNat 0)), (.int .i64 (.ofNat 0)), .nils, .nilm] [(0, 1, s6), (1, 1, s10), (2, 1, s15), (3, 1, s20)])),
 o 19 d22 (.e (.box s21 4)),
 o 20 d2 (.q (.mv s22))])
 .ret))
 [.t p2]

noncomputable def f29 : FnE := .code 16
 (.seq (.reg [o 0 d6 (.q (.mv (.v .nili)))])
 (.seq (.reg [o 0 d7 (.q (.mv s0)),
 o 1 d8 (.q (.nck s7)),
 o 2 d9 (.q (.fadr s8 11)),
 o 3 d10 (.q (.ld1 s9)),
 o 4 d11 (.call p53 [s10])])
 (.seq (.reg [o 0 d12 (.q (.mv s1)),
 o 1 d13 (.q (.mv s0)),
 o 2 d14 (.q (.mv s2)),
 o 3 d15 (.callv s12 [s13, s14]),
 o 4 d6 (.q (.mv s15))])
 .ret)))
 [.t p6]

noncomputable def f30 : FnE := .code 32
 (.seq (.reg [o 0 d4 (.q (.mv (.v .nili)))])
 (.seq (.reg [o 0 d8 (.q (.mv s1)),
 o 1 d9 (.call p54 [s8]),
 o 2 d7 (.q (.mv s9)),
 o 3 d10 (.q (.ext s7 0)),
 o 4 d11 (.q (.ext s7 1)),
 o 5 d5 (.e (.alo [(.int .u32 (.ofNat 0)), .nils, .nils, (.int .u32 (.ofNat 0))])),
 o 6 none (.e (.st s5 s10 4)),
 o 7 d6 (.q (.mv s11))])
 (.seq (.seq (.reg [o 0 d12 (.q (.mv s6)),
 o 1 d13 (.q (.eqp (.iface true) true s12 (.v .nili)))])
 (.cnd s13 (.seq (.reg [o 0 d14 (.q (.mv s6)),
 o 1 d4 (.q (.mv s14))])
 .ret) .skip))
 (.seq (.rgd 0 [o 0 d15 (.q (.mv s0)),
 o 1 d16 (.q (.nck s15)),
 o 2 d17 (.q (.fadr s16 10)),
 o 3 d18 (.q (.ld1 s17)),
 o 4 d19 (.q (.mv s0)),
 o 5 d20 (.q (.nck s19)),
 o 6 d21 (.q (.fadr s20 9)),
 o 7 d22 (.q (.ld1 s21)),
 o 9 d24 (.q (.ldn s5 4)),
 o 10 d25 (.q (.mv s0)),
 o 12 d27 (.q (.mv s0)),
 o 13 d28 (.q (.nck s27)),
 o 14 d29 (.q (.fadr s28 11)),
 o 15 d30 (.q (.ld1 s29)),
 ⟨8, d23, (.call p17 [s22]), none, [(p18, .ld1 s17, none), (p24, .ldn s5 4, none), (p30, .ld1 s29, none)]⟩,
 ⟨11, d26, (.call p56 [s25]), none, [(p18, .ld1 s17, none), (p24, .ldn s5 4, none), (p30, .ld1 s29, none)]⟩,
 o 16 d31 (.call p55 [s18, s23, s24, s26, s30]),
 o 17 d4 (.q (.mv s31))])
 .ret))))
 [.t p4]

noncomputable def f31 : FnE := .code 52
 (.seq (.reg [o 0 d1 (.e (.box s0 9)),
 o 1 d2 (.q (.mv (.v .nili)))])
 (.seq (.seq (.reg [o 0 d5 (.q (.fadr s1 0)),
 o 1 d6 (.q (.ld1 s5)),
 o 2 d7 (.q (.bld [(.int .i64 (.ofNat 0)), (.int .i64 (.ofNat 0)), (.int .i64 (.ofNat 0))] [(0, 1, s6), (1, 1, (.v (.int .i64 (.ofNat 1)))), (2, 1, (.v (.int .i64 (.ofNat 1048576))))])),
 o 3 d8 (.q (.fadr s1 1)),
 o 4 d9 (.q (.ld1 s8)),
 o 5 d10 (.q (.bld [(.int .i64 (.ofNat 0)), (.int .i64 (.ofNat 0)), (.int .i64 (.ofNat 0))] [(0, 1, s9), (1, 1, (.v (.int .i64 (.ofNat 0)))), (2, 1, (.v (.int .i64 (.ofNat 1000))))])),
 o 6 d11 (.q (.fadr s1 2)),
 o 7 d12 (.q (.ld1 s11)),
 o 8 d13 (.q (.bld [(.int .i64 (.ofNat 0)), (.int .i64 (.ofNat 0)), (.int .i64 (.ofNat 0))] [(0, 1, s12), (1, 1, (.v (.int .i64 (.ofNat 1)))), (2, 1, (.v (.int .i64 (.ofNat 16777216))))])),
 o 9 d14 (.q (.fadr s1 3)),
 o 10 d15 (.q (.ld1 s14)),
 o 11 d16 (.q (.bld [(.int .i64 (.ofNat 0)), (.int .i64 (.ofNat 0)), (.int .i64 (.ofNat 0))] [(0, 1, s15), (1, 1, (.v (.int .i64 (.ofNat 1)))), (2, 1, (.v (.int .i64 (.ofNat 16777216))))])),
 o 12 d17 (.q (.fadr s1 4)),
 o 13 d18 (.q (.ld1 s17)),
 o 14 d19 (.q (.bld [(.int .i64 (.ofNat 0)), (.int .i64 (.ofNat 0)), (.int .i64 (.ofNat 0))] [(0, 1, s18), (1, 1, (.v (.int .i64 (.ofNat 1)))), (2, 1, (.v (.int .i64 (.ofNat 65536))))])),
 o 15 d20 (.q (.fadr s1 5)),
 o 16 d21 (.q (.ld1 s20)),
 o 17 d22 (.q (.bld [(.int .i64 (.ofNat 0)), (.int .i64 (.ofNat 0)), (.int .i64 (.ofNat 0))] [(0, 1, s21), (1, 1, (.v (.int .i64 (.ofNat 1)))), (2, 1, (.v (.int .i64 (.ofNat 1000))))])),
 o 18 d23 (.q (.fadr s1 7)),
 o 19 d24 (.q (.ld1 s23)),
 o 20 d25 (.q (.bld [(.int .i64 (.ofNat 0)), (.int .i64 (.ofNat 0)), (.int .i64 (.ofNat 0))] [(0, 1, s24), (1, 1, (.v (.int .i64 (.ofNat 1)))), (2, 1, (.v (.int .i64 (.ofNat 1000))))])),
 o 21 d26 (.q (.fadr s1 6)),
 o 22 d27 (.q (.ld1 s26)),
 o 23 d28 (.q (.bld [(.int .i64 (.ofNat 0)), (.int .i64 (.ofNat 0)), (.int .i64 (.ofNat 0))] [(0, 1, s27), (1, 1, (.v (.int .i64 (.ofNat 1)))), (2, 1, (.v (.int .i64 (.ofNat 16777216))))])),
 o 24 d29 (.q (.fadr s1 8)),
 o 25 d30 (.q (.ld1 s29)),
 o 26 d31 (.q (.bld [(.int .i64 (.ofNat 0)), (.int .i64 (.ofNat 0)), (.int .i64 (.ofNat 0))] [(0, 1, s30), (1, 1, (.v (.int .i64 (.ofNat 1)))), (2, 1, (.v (.int .i64 (.ofNat 16777216))))])),
 o 27 d32 (.e (.bsl (zz (.int .i64 (.ofNat 0)) 27) [(0, 3, s7), (3, 3, s10), (6, 3, s13), (9, 3, s16), (12, 3, s19), (15, 3, s22), (18, 3, s25), (21, 3, s28), (24, 3, s31)] 9 3)),
 o 28 d33 (.q (.lenv s32)),
 o 29 d34 (.q (.mv (.v (.int .i64 (.ofNat 0)))))])
 (.blk 0 (.loop (.seq (.reg [o 0 d35 (.q (.bin .lss s34 s33))])
 (.seq (.cnd s35 .skip (.exit 0))
 (.seq (.blk 1 (.seq (.reg [o 0 d36 (.q (.iadr s32 s34 3)),
 o 1 d37 (.q (.ldn s36 3)),
 o 2 d4 (.e (.alo [(.int .i64 (.ofNat 0)), (.int .i64 (.ofNat 0)), (.int .i64 (.ofNat 0))])),
 o 3 none (.e (.st s4 s37 3))])
 (.seq (.reg [o 0 d38 (.q (.iada s4 (.v (.int .i64 (.ofNat 0))) 1 3)),
 o 1 d39 (.q (.ld1 s38)),
 o 2 d40 (.q (.iada s4 (.v (.int .i64 (.ofNat 1))) 1 3)),
 o 3 d41 (.q (.ld1 s40)),
 o 4 d42 (.q (.bin .lss s39 s41)),
 o 5 d43 (.q (.mv s42)),
 ⟨6, d44, (.q (.iada s4 (.v (.int .i64 (.ofNat 0))) 1 3)), (some (p43, false)), []⟩,
 ⟨7, d45, (.q (.ld1 s44)), (some (p43, false)), []⟩,
 ⟨8, d46, (.q (.iada s4 (.v (.int .i64 (.ofNat 2))) 1 3)), (some (p43, false)), []⟩,
 ⟨9, d47, (.q (.ld1 s46)), (some (p43, false)), []⟩,
 ⟨10, d48, (.q (.bin .gtr s45 s47)), (some (p43, false)), []⟩,
 o 11 d49 (.q (.pick s43 (.v (.bool true)) s48))])
 (.cnd s49 (.seq (.reg [o 0 d50 (.q (.ld1 (.g p0))),
 o 1 d2 (.q (.mv s50))])
 .ret) .skip))))
 (.reg [o 0 d51 (.q (.bin .add s34 (.v (.int .i64 (.ofNat 1))))),
 o 1 d34 (.q (.mv s51))])))))))
 (.seq (.reg [o 0 d2 (.q (.mv (.v .nili)))])
 .ret)))
 [.t p2]

noncomputable def f32 : FnE := .code 12
 (.seq (.reg [o 0 d0 (.e (.alo (lapp [(.int .u32 (.ofNat 0))] (lapp (zz (.int .u8 (.ofNat 0)) 32) [(.int .u8 (.ofNat 0)), (.int .u8 (.ofNat 0)), (.int .u8 (.ofNat 0)), (.int .u8 (.ofNat 0)), (.int .u8 (.ofNat 0)), (.int .u8 (.ofNat 0)), (.int .u8 (.ofNat 0)), (.int .u8 (.ofNat 0)), (.int .u8 (.ofNat 0)), (.int .u8 (.ofNat 0)), (.int .u8 (.ofNat 0)), (.int .u8 (.ofNat 0)), (.int .u8 (.ofNat 0)), (.int .u8 (.ofNat 0)), (.int .u8 (.ofNat 0)), (.int .u8 (.ofNat 0)), (.int .u8 (.ofNat 0)), (.int .u8 (.ofNat 0)), (.int .u8 (.ofNat 0)), (.int .u8 (.ofNat 0)), (.int .u8 (.ofNat 0)), (.int .u8 (.ofNat 0)), (.int .u8 (.ofNat 0)), (.int .u8 (.ofNat 0)), (.int .u8 (.ofNat 0)), (.int .u8 (.ofNat 0)), (.int .u8 (.ofNat 0)), (.int .u8 (.ofNat 0)), (.int .u8 (.ofNat 0)), (.int .u8 (.ofNat 0)), (.int .u8 (.ofNat 0)), (.int .u8 (.ofNat 0)), (.int .u32 (.ofNat 0)), (.int .u32 (.ofNat 0)), (.int .u32 (.ofNat 0)), .nils]))))])
 (.seq (.reg [o 0 d2 (.q (.bld (lapp [(.int .u32 (.ofNat 0))] (lapp (zz (.int .u8 (.ofNat 0)) 32) [(.int .u8 (.ofNat 0)), (.int .u8 (.ofNat 0)), (.int .u8 (.ofNat 0)), (.int .u8 (.ofNat 0)), (.int .u8 (.ofNat 0)), (.int .u8 (.ofNat 0)), (.int .u8 (.ofNat 0)), (.int .u8 (.ofNat 0)), (.int .u8 (.ofNat 0)), (.int .u8 (.ofNat 0)), (.int .u8 (.ofNat 0)), (.int .u8 (.ofNat 0)), (.int .u8 (.ofNat 0)), (.int .u8 (.ofNat 0)), (.int .u8 (.ofNat 0)), (.int .u8 (.ofNat 0)), (.int .u8 (.ofNat 0)), (.int .u8 (.ofNat 0)), (.int .u8 (.ofNat 0)), (.int .u8 (.ofNat 0)), (.int .u8 (.ofNat 0)), (.int .u8 (.ofNat 0)), (.int .u8 (.ofNat 0)), (.int .u8 (.ofNat 0)), (.int .u8 (.ofNat 0)), (.int .u8 (.ofNat 0)), (.int .u8 (.ofNat 0)), (.int .u8 (.ofNat 0)), (.int .u8 (.ofNat 0)), (.int .u8 (.ofNat 0)), (.int .u8 (.ofNat 0)), (.int .u8 (.ofNat 0)), (.int .u32 (.ofNat 0)), (.int .u32 (.ofNat 0)), (.int .u32 (.ofNat 0))])) [(0, 1, (.v (.int .u32 (.ofNat 1)))), (65, 1, (.v (.int .u32 (.ofNat 1000)))), (66, 1, (.v (.int .u32 (.ofNat 1))))])),
 o 1 d3 (.call p58 [(.v .nils)]),
 o 2 d4 (.call p57 [(.v (.int .i64 (.ofNat 0))), (.v (.int .u64 (.ofNat 0))), s3, (.v .nils)]),
 o 3 d5 (.e (.bsl [(.int .u32 (.ofNat 0)), .nils, .nils, (.int .u32 (.ofNat 0))] [(0, 4, s4)] 1 4)),
 o 4 d6 (.q (.bld (lapp [(.int .u32 (.ofNat 0))] (lapp (zz (.int .u8 (.ofNat 0)) 32) [(.int .u8 (.ofNat 0)), (.int .u8 (.ofNat 0)), (.int .u8 (.ofNat 0)), (.int .u8 (.ofNat 0)), (.int .u8 (.ofNat 0)), (.int .u8 (.ofNat 0)), (.int .u8 (.ofNat 0)), (.int .u8 (.ofNat 0)), (.int .u8 (.ofNat 0)), (.int .u8 (.ofNat 0)), (.int .u8 (.ofNat 0)), (.int .u8 (.ofNat 0)), (.int .u8 (.ofNat 0)), (.int .u8 (.ofNat 0)), (.int .u8 (.ofNat 0)), (.int .u8 (.ofNat 0)), (.int .u8 (.ofNat 0)), (.int .u8 (.ofNat 0)), (.int .u8 (.ofNat 0)), (.int .u8 (.ofNat 0)), (.int .u8 (.ofNat 0)), (.int .u8 (.ofNat 0)), (.int .u8 (.ofNat 0)), (.int .u8 (.ofNat 0)), (.int .u8 (.ofNat 0)), (.int .u8 (.ofNat 0)), (.int .u8 (.ofNat 0)), (.int .u8 (.ofNat 0)), (.int .u8 (.ofNat 0)), (.int .u8 (.ofNat 0)), (.int .u8 (.ofNat 0)), (.int .u8 (.ofNat 0)), (.int .u32 (.ofNat 0)), (.int .u32 (.ofNat 0)), (.int .u32 (.ofNat 0)), .nils])) [(0, 68, s2), (68, 1, s5)])),
 o 5 d1 (.e (.alo (lapp [(.int .u32 (.ofNat 0))] (lapp (zz (.int .u8 (.ofNat 0)) 32) [(.int .u8 (.ofNat 0)), (.int .u8 (.ofNat 0)), (.int .u8 (.ofNat 0)), (.int .u8 (.ofNat 0)), (.int .u8 (.ofNat 0)), (.int .u8 (.ofNat 0)), (.int .u8 (.ofNat 0)), (.int .u8 (.ofNat 0)), (.int .u8 (.ofNat 0)), (.int .u8 (.ofNat 0)), (.int .u8 (.ofNat 0)), (.int .u8 (.ofNat 0)), (.int .u8 (.ofNat 0)), (.int .u8 (.ofNat 0)), (.int .u8 (.ofNat 0)), (.int .u8 (.ofNat 0)), (.int .u8 (.ofNat 0)), (.int .u8 (.ofNat 0)), (.int .u8 (.ofNat 0)), (.int .u8 (.ofNat 0)), (.int .u8 (.ofNat 0)), (.int .u8 (.ofNat 0)), (.int .u8 (.ofNat 0)), (.int .u8 (.ofNat 0)), (.int .u8 (.ofNat 0)), (.int .u8 (.ofNat 0)), (.int .u8 (.ofNat 0)), (.int .u8 (.ofNat 0)), (.int .u8 (.ofNat 0)), (.int .u8 (.ofNat 0)), (.int .u8 (.ofNat 0)), (.int .u8 (.ofNat 0)), (.int .u32 (.ofNat 0)), (.int .u32 (.ofNat 0)), (.int .u32 (.ofNat 0)), .nils])))),
 o 6 none (.e (.st s1 s6 69))])
 (.seq (.reg [o 0 d7 (.q (.ldn s1 69)),
 o 1 d8 (.call p59 [s7]),
 o 2 d9 (.q (.fadr s1 0)),
 o 3 d10 (.q (.fadr s9 33)),
 o 4 none (.e (.st s10 s8 32))])
 (.seq (.reg [o 0 d11 (.q (.ldn s1 69)),
 o 1 none (.e (.st s0 s11 69))])
 .ret))))
 [.cn p0 69]

noncomputable def f33 : FnE := .code 18
 (.seq (.reg [o 0 d1 (.e (.box s0 68)),
 o 1 d2 (.q (.mv (.v .nilp)))])
 (.seq (.reg [o 0 d4 (.q (.ldn s1 68)),
 o 1 d5 (.call p60 [s4]),
 o 2 d3 (.e (.alo (zz (.int .u8 (.ofNat 0)) 32))),
 o 3 none (.e (.st s3 s5 32))])
 (.seq (.rgd 2 [o 1 d7 (.q (.ldn s3 32)),
 o 2 d8 (.q (.ldn s1 68)),
 o 3 d9 (.q (.fadr s1 66)),
 o 4 d10 (.q (.ld1 s9)),
 o 5 d11 (.q (.cvi .u64 s10)),
 o 6 d12 (.q (.bld (lapp [(.int .u32 (.ofNat 0))] (lapp (zz (.int .u8 (.ofNat 0)) 32) [(.int .u8 (.ofNat 0)), (.int .u8 (.ofNat 0)), (.int .u8 (.ofNat 0)), (.int .u8 (.ofNat 0)), (.int .u8 (.ofNat 0)), (.int .u8 (.ofNat 0)), (.int .u8 (.ofNat 0)), (.int .u8 (.ofNat 0)), (.int .u8 (.ofNat 0)), (.int .u8 (.ofNat 0)), (.int .u8 (.ofNat 0)), (.int .u8 (.ofNat 0)), (.int .u8 (.ofNat 0)), (.int .u8 (.ofNat 0)), (.int .u8 (.ofNat 0)), (.int .u8 (.ofNat 0)), (.int .u8 (.ofNat 0)), (.int .u8 (.ofNat 0)), (.int .u8 (.ofNat 0)), (.int .u8 (.ofNat 0)), (.int .u8 (.ofNat 0)), (.int .u8 (.ofNat 0)), (.int .u8 (.ofNat 0)), (.int .u8 (.ofNat 0)), (.int .u8 (.ofNat 0)), (.int .u8 (.ofNat 0)), (.int .u8 (.ofNat 0)), (.int .u8 (.ofNat 0)), (.int .u8 (.ofNat 0)), (.int .u8 (.ofNat 0)), (.int .u8 (.ofNat 0)), (.int .u8 (.ofNat 0)), (.int .u32 (.ofNat 0)), (.int .u32 (.ofNat 0)), (.int .u32 (.ofNat 0)), (.int .i64 (.ofNat 0)), (.int .u64 (.ofNat 0)), .nils])) [(0, 68, s8), (69, 1, s11)])),
 o 10 d15 (.q (.ldn s3 32)),
 ⟨0, d6, (.l (.mkm (.cells (kk .u8 32))) 0), none, [(p7, .ldn s3 32, none), (p8, .ldn s1 68, none), (p10, .ld1 s9, none), (p15, .ldn s3 32, none)]⟩,
 ⟨7, d13, (.l (.box s12 71) 1), none, [(p7, .ldn s3 32, none), (p15, .ldn s3 32, none)]⟩,
 ⟨8, none, (.e (.mup s6 s7 s13 (.cells (kk .u8 32)))), none, [(p15, .ldn s3 32, none)]⟩,
 o 9 d14 (.q (.mv s6)),
 o 11 d16 (.q (.bld (lapp [.nilm] (zz (.int .u8 (.ofNat 0)) 32)) [(0, 1, s14), (1, 32, s15)])),
 o 12 d17 (.e (.box s16 33)),
 o 13 d2 (.q (.mv s17))])
 .ret)))
 [.t p2]

noncomputable def f34 : FnE := .code 7
 (.seq (.reg [o 0 d2 (.q (.mv (.v .nilp)))])
 (.seq (.reg [o 0 d3 (.q (.mv s0)),
 o 1 d4 (.e (.mkm (.cells (kk .u8 32)))),
 o 2 d5 (.q (.bld [.nilp, .nilm] [(0, 1, s3), (1, 1, s4)])),
 o 3 d6 (.e (.box s5 2)),
 o 4 d2 (.q (.mv s6))])
 .ret))
 [.t p2]

noncomputable def f35 : FnE := .code 7
 (.seq (.reg [o 0 d2 (.e (.alo (zz (.int .u8 (.ofNat 0)) 32)))])
 (.seq (.reg [o 0 d3 (.q (.mv s0)),
 o 1 d4 (.q (.nck s3)),
 o 2 d5 (.q (.fadr s4 1)),
 o 3 d6 (.q (.ldn s5 32)),
 o 4 none (.e (.st s2 s6 32))])
 .ret))
 [.cn p2 32]

noncomputable def f36 : FnE := .code 38
 (.seq (.reg [o 0 d2 (.e (.box s0 5)),
 o 1 d3 (.e (.box s1 5)),
 o 2 d4 (.q (.mv (.v (.bool false))))])
 (.seq (.reg [o 0 d5 (.q (.fadr s2 0)),
 o 1 d6 (.q (.ld1 s5)),
 o 2 d7 (.q (.fadr s3 0)),
 o 3 d8 (.q (.ld1 s7)),
 o 4 d9 (.q (.bin .eql s6 s8)),
 o 5 d10 (.q (.mv s9)),
 ⟨6, d11, (.q (.fadr s2 1)), (some (p10, true)), []⟩,
 ⟨7, d12, (.q (.ld1 s11)), (some (p10, true)), []⟩,
 ⟨8, d13, (.q (.fadr s3 1)), (some (p10, true)), []⟩,
 ⟨9, d14, (.q (.ld1 s13)), (some (p10, true)), []⟩,
 ⟨10, d15, (.q (.cmpb false s12 s14)), (some (p10, true)), []⟩,
 o 11 d16 (.q (.pick s10 s15 (.v (.bool false)))),
 o 12 d17 (.q (.mv s16)),
 ⟨13, d18, (.q (.fadr s2 2)), (some (p17, true)), []⟩,
 ⟨14, d19, (.q (.ld1 s18)), (some (p17, true)), []⟩,
 ⟨15, d20, (.q (.fadr s3 2)), (some (p17, true)), []⟩,
 ⟨16, d21, (.q (.ld1 s20)), (some (p17, true)), []⟩,
 ⟨17, d22, (.q (.bin .eql s19 s21)), (some (p17, true)), []⟩,
 o 18 d23 (.q (.pick s17 s22 (.v (.bool false)))),
 o 19 d24 (.q (.mv s23)),
 ⟨20, d25, (.q (.fadr s2 3)), (some (p24, true)), []⟩,
 ⟨21, d26, (.q (.ld1 s25)), (some (p24, true)), []⟩,
 ⟨22, d27, (.q (.fadr s3 3)), (some (p24, true)), []⟩,
 ⟨23, d28, (.q (.ld1 s27)), (some (p24, true)), []⟩,
 ⟨24, d29, (.q (.cmpb false s26 s28)), (some (p24, true)), []⟩,
 o 25 d30 (.q (.pick s24 s29 (.v (.bool false)))),
 o 26 d31 (.q (.mv s30)),
 ⟨27, d32, (.q (.fadr s2 4)), (some (p31, true)), []⟩,
 ⟨28, d33, (.q (.ld1 s32)), (some (p31, true)), []⟩,
 ⟨29, d34, (.q (.fadr s3 4)), (some (p31, true)), []⟩,
 ⟨30, d35, (.q (.ld1 s34)), (some (p31, true)), []⟩,
 ⟨31, d36, (.q (.bin .eql s33 s35)), (some (p31, true)), []⟩,
 o 32 d37 (.q (.pick s31 s36 (.v (.bool false)))),
 o 33 d4 (.q (.mv s37))])
 .ret))
 [.t p4]

noncomputable def f37 : FnE := .code 75
 (.seq (.reg [o 0 d2 (.e (.alo [(.int .i64 (.ofNat 0)), (.bool false), (.int .i64 (.ofNat 0)), (.bool false), (.int .i64 (.ofNat 0))]))])
 (.seq (.seq (.reg [o 0 d7 (.q (.mv s0)),
 o 1 d8 (.q (.eqp (.iface true) false s7 (.v .nili)))])
 (.cnd s8 (.seq (.reg [o 0 d9 (.call p61 []),
 o 1 none (.e (.st s2 s9 5))])
 .ret) .skip))
 (.seq (.reg [o 0 d11 (.q (.mv s0)),
 o 1 d12 (.q (.tas s11 158 .nilp true)),
 o 2 d10 (.q (.mv s12)),
 o 3 d13 (.q (.ext s10 0)),
 o 4 d14 (.q (.ext s10 1)),
 o 5 d3 (.q (.mv s13)),
 o 6 d4 (.q (.mv s14))])
 (.seq (.seq (.reg [o 0 d15 (.q (.mv s4)),
 o 1 d16 (.q (.not s15))])
 (.cnd s16 (.seq (.reg [o 0 d17 (.q (.mv s0)),
 o 1 d18 (.call p62 [s17]),
 o 2 d19 (.call p16 [s18]),
 o 3 none (.e (.st s2 s19 5))])
 .ret) .skip))
 (.seq (.seq (.reg [o 0 d20 (.q (.mv s3)),
 o 1 d21 (.q (.eqp .ptr false s20 (.v .nilp))),
 o 2 d22 (.q (.mv s21)),
 ⟨3, d23, (.q (.mv s3)), (some (p22, false)), []⟩,
 ⟨4, d24, (.q (.nck s23)), (some (p22, false)), []⟩,
 ⟨5, d25, (.q (.fadr s24 1)), (some (p22, false)), []⟩,
 ⟨6, d26, (.q (.ld1 s25)), (some (p22, false)), []⟩,
 ⟨7, d27, (.q (.eqp (.iface true) false s26 (.v .nili))), (some (p22, false)), []⟩,
 o 8 d28 (.q (.pick s22 (.v (.bool true)) s27))])
 (.cnd s28 (.seq (.reg [o 0 d29 (.call p16 [(.v (.int .i64 (.negSucc 0)))]),
 o 1 none (.e (.st s2 s29 5))])
 .ret) .skip))
 (.seq (.reg [o 0 d31 (.q (.mv s3)),
 o 1 d32 (.q (.nck s31)),
 o 2 d33 (.q (.fadr s32 1)),
 o 3 d34 (.q (.ld1 s33)),
 o 4 d35 (.q (.tas s34 158 .nilp true)),
 o 5 d30 (.q (.mv s35)),
 o 6 d36 (.q (.ext s30 0)),
 o 7 d37 (.q (.ext s30 1)),
 o 8 d5 (.q (.mv s36)),
 o 9 d6 (.q (.mv s37))])
 (.seq (.seq (.reg [o 0 d38 (.q (.mv s6)),
 o 1 d39 (.q (.not s38))])
 (.cnd s39 (.seq (.rgd 0 [o 0 d40 (.q (.mv s3)),
 o 1 d41 (.q (.nck s40)),
 o 2 d42 (.q (.fadr s41 1)),
 o 3 d43 (.q (.ld1 s42)),
 o 5 d45 (.q (.mv s3)),
 o 6 d46 (.q (.nck s45)),
 o 7 d47 (.q (.fadr s46 0)),
 o 8 d48 (.q (.ld1 s47)),
 ⟨4, d44, (.call p62 [s43]), none, [(p48, .ld1 s47, none)]⟩,
 o 9 d49 (.call p63 [s44, s48]),
 o 10 none (.e (.st s2 s49 5))])
 .ret) .skip))
 (.seq (.seq (.reg [o 0 d50 (.q (.mv s5)),
 o 1 d51 (.q (.eqp .ptr false s50 (.v .nilp))),
 o 2 d52 (.q (.mv s51)),
 ⟨3, d53, (.q (.mv s5)), (some (p52, false)), []⟩,
 ⟨4, d54, (.q (.nck s53)), (some (p52, false)), []⟩,
 ⟨5, d55, (.q (.fadr s54 1)), (some (p52, false)), []⟩,
 ⟨6, d56, (.q (.ld1 s55)), (some (p52, false)), []⟩,
 ⟨7, d57, (.q (.eqp (.iface true) false s56 (.v .nili))), (some (p52, false)), []⟩,
 o 8 d58 (.q (.pick s52 (.v (.bool true)) s57))])
 (.cnd s58 (.seq (.reg [o 0 d59 (.call p16 [(.v (.int .i64 (.negSucc 0)))]),
 o 1 none (.e (.st s2 s59 5))])
 .ret) .skip))
 (.seq (.rgd 0 [o 0 d60 (.q (.mv s5)),
 o 1 d61 (.q (.nck s60)),
 o 2 d62 (.q (.fadr s61 1)),
 o 3 d63 (.q (.ld1 s62)),
 o 5 d65 (.q (.mv s5)),
 o 6 d66 (.q (.nck s65)),
 o 7 d67 (.q (.fadr s66 0)),
 o 8 d68 (.q (.ld1 s67)),
 o 10 d70 (.q (.mv s3)),
 o 11 d71 (.q (.nck s70)),
 o 12 d72 (.q (.fadr s71 0)),
 o 13 d73 (.q (.ld1 s72)),
 ⟨4, d64, (.call p62 [s63]), none, [(p68, .ld1 s67, none), (p73, .ld1 s72, none)]⟩,
 ⟨9, d69, (.call p63 [s64, s68]), none, [(p73, .ld1 s72, none)]⟩,
 o 14 d74 (.call p64 [s69, s73]),
 o 15 none (.e (.st s2 s74 5))])
 .ret)))))))))
 [.cn p2 5]

noncomputable def f38 : FnE := .code 10
 (.seq (.reg [o 0 d2 (.q (.mv (.v .nilp)))])
 (.seq (.reg [o 0 d3 (.q (.mv s0)),
 o 1 d4 (.q (.nck s3)),
 o 2 d5 (.q (.fadr s4 0)),
 o 3 d6 (.q (.ld1 s5)),
 o 4 d7 (.call p65 [s6]),
 o 5 d8 (.q (.bld [.nilm] [(0, 1, s7)])),
 o 6 d9 (.e (.box s8 1)),
 o 7 d2 (.q (.mv s9))])
 .ret))
 [.t p2]

noncomputable def f39 : FnE := .code 22
 (.seq (.reg [o 0 d3 (.e (.box s1 32)),
 o 1 d4 (.q (.mv (.v (.int .i64 (.ofNat 0))))),
 o 2 d5 (.q (.mv (.v (.bool false))))])
 (.seq (.seq (.rgd 0 [o 0 d9 (.q (.mv s0)),
 o 1 d10 (.q (.nck s9)),
 o 2 d11 (.q (.fadr s10 0)),
 o 3 d12 (.q (.ld1 s11)),
 o 4 d13 (.q (.ldn s3 32)),
 o 5 d14 (.q (.lkp s12 s13 (.cells (kk .u8 32)) .nilp true)),
 o 6 d8 (.q (.mv s14)),
 o 7 d15 (.q (.ext s8 0)),
 o 8 d16 (.q (.ext s8 1)),
 o 9 d6 (.q (.mv s15)),
 o 10 d7 (.q (.mv s16))])
 (.seq (.reg [o 0 d17 (.q (.mv s7))])
 (.cnd s17 (.seq (.reg [o 0 d18 (.q (.mv s6)),
 o 1 d19 (.q (.nck s18)),
 o 2 d20 (.q (.fadr s19 68)),
 o 3 d21 (.q (.ld1 s20)),
 o 4 d4 (.q (.mv s21)),
 o 5 d5 (.q (.mv (.v (.bool true))))])
 .ret) .skip)))
 (.seq (.reg [o 0 d4 (.q (.mv (.v (.int .i64 (.ofNat 0))))),
 o 1 d5 (.q (.mv (.v (.bool false))))])
 .ret)))
 [.t p4, .t p5]

noncomputable def f40 : FnE := .code 17
 (.seq (.reg [o 0 d3 (.e (.box s1 32)),
 o 1 d4 (.q (.mv (.v (.int .u32 (.ofNat 0))))),
 o 2 d5 (.q (.mv (.v (.bool false))))])
 (.seq (.reg [o 0 d9 (.q (.mv s0)),
 o 1 d10 (.q (.ldn s3 32)),
 o 2 d11 (.call p66 [s9, s10]),
 o 3 d8 (.q (.mv s11)),
 o 4 d12 (.q (.ext s8 0)),
 o 5 d13 (.q (.ext s8 1)),
 o 6 d6 (.q (.mv s12)),
 o 7 d7 (.q (.mv s13))])
 (.seq (.reg [o 0 d14 (.q (.mv s6)),
 o 1 d15 (.call p67 [s14]),
 o 2 d16 (.q (.mv s7)),
 o 3 d4 (.q (.mv s15)),
 o 4 d5 (.q (.mv s16))])
 .ret)))
 [.t p4, .t p5]

noncomputable def f41 : FnE := .code 30
 (.seq (.reg [o 0 d2 (.q (.mv (.v .nils)))])
 (.seq (.reg [o 0 d3 (.q (.mv (.v .nils)))])
 (.seq (.seq (.reg [o 0 d6 (.q (.mv s0)),
 o 1 d7 (.q (.nck s6)),
 o 2 d8 (.q (.fadr s7 0)),
 o 3 d9 (.q (.ld1 s8)),
 o 4 d10 (.call p69 [s9]),
 o 5 d11 (.call p68 [s10, (.f 70)]),
 o 6 d12 (.q (.lenv s11)),
 o 7 d13 (.q (.mv (.v (.int .i64 (.ofNat 0)))))])
 (.blk 0 (.loop (.seq (.reg [o 0 d14 (.q (.bin .lss s13 s12))])
 (.seq (.cnd s14 .skip (.exit 0))
 (.seq (.blk 1 (.seq (.reg [o 0 d15 (.q (.iadr s11 s13 33)),
 o 1 d16 (.q (.ldn s15 33)),
 o 2 d5 (.e (.alo (lapp (zz (.int .u8 (.ofNat 0)) 32) [(.int .u32 (.ofNat 0))]))),
 o 3 none (.e (.st s5 s16 33))])
 (.rgd 0 [o 0 d17 (.q (.mv s3)),
 o 1 d18 (.q (.ldn s5 33)),
 o 2 d19 (.q (.mv s0)),
 o 3 d20 (.q (.nck s19)),
 o 4 d21 (.q (.fadr s20 0)),
 o 5 d22 (.q (.ld1 s21)),
 o 6 d23 (.q (.ldn s5 33)),
 o 7 d24 (.q (.lkp s22 s23 (.cells [.u8, .u8, .u8, .u8, .u8, .u8, .u8, .u8, .u8, .u8, .u8, .u8, .u8, .u8, .u8, .u8, .u8, .u8, .u8, .u8, .u8, .u8, .u8, .u8, .u8, .u8, .u8, .u8, .u8, .u8, .u8, .u8, .u32]) (.agg (lapp [(.int .u64 (.ofNat 0))] (lapp (zz (.int .u8 (.ofNat 0)) 32) [(.int .i64 (.ofNat 0)), (.bool false)]))) false)),
 o 8 d25 (.q (.bld (lapp [(.int .u8 (.ofNat 0)), (.int .u8 (.ofNat 0)), (.int .u8 (.ofNat 0)), (.int .u8 (.ofNat 0)), (.int .u8 (.ofNat 0)), (.int .u8 (.ofNat 0)), (.int .u8 (.ofNat 0)), (.int .u8 (.ofNat 0)), (.int .u8 (.ofNat 0)), (.int .u8 (.ofNat 0)), (.int .u8 (.ofNat 0)), (.int .u8 (.ofNat 0)), (.int .u8 (.ofNat 0)), (.int .u8 (.ofNat 0)), (.int .u8 (.ofNat 0)), (.int .u8 (.ofNat 0)), (.int .u8 (.ofNat 0)), (.int .u8 (.ofNat 0)), (.int .u8 (.ofNat 0)), (.int .u8 (.ofNat 0)), (.int .u8 (.ofNat 0)), (.int .u8 (.ofNat 0)), (.int .u8 (.ofNat 0)), (.int .u8 (.ofNat 0)), (.int .u8 (.ofNat 0)), (.int .u8 (.ofNat 0)), (.int .u8 (.ofNat 0)), (.int .u8 (.ofNat 0)), (.int .u8 (.ofNat 0)), (.int .u8 (.ofNat 0)), (.int .u8 (.ofNat 0)), (.int .u8 (.ofNat 0)), (.int .u32 (.ofNat 0)), (.int .u64 (.ofNat 0))] (lapp (zz (.int .u8 (.ofNat 0)) 32) [(.int .i64 (.ofNat 0)), (.bool false)])) [(0, 33, s18), (33, 35, s24)])),
 o 9 d26 (.e (.bsl (lapp [(.int .u8 (.ofNat 0)), (.int .u8 (.ofNat 0)), (.int .u8 (.ofNat 0)), (.int .u8 (.ofNat 0)), (.int .u8 (.ofNat 0)), (.int .u8 (.ofNat 0)), (.int .u8 (.ofNat 0)), (.int .u8 (.ofNat 0)), (.int .u8 (.ofNat 0)), (.int .u8 (.ofNat 0)), (.int .u8 (.ofNat 0)), (.int .u8 (.ofNat 0)), (.int .u8 (.ofNat 0)), (.int .u8 (.ofNat 0)), (.int .u8 (.ofNat 0)), (.int .u8 (.ofNat 0)), (.int .u8 (.ofNat 0)), (.int .u8 (.ofNat 0)), (.int .u8 (.ofNat 0)), (.int .u8 (.ofNat 0)), (.int .u8 (.ofNat 0)), (.int .u8 (.ofNat 0)), (.int .u8 (.ofNat 0)), (.int .u8 (.ofNat 0)), (.int .u8 (.ofNat 0)), (.int .u8 (.ofNat 0)), (.int .u8 (.ofNat 0)), (.int .u8 (.ofNat 0)), (.int .u8 (.ofNat 0)), (.int .u8 (.ofNat 0)), (.int .u8 (.ofNat 0)), (.int .u8 (.ofNat 0)), (.int .u32 (.ofNat 0)), (.int .u64 (.ofNat 0))] (lapp (zz (.int .u8 (.ofNat 0)) 32) [(.int .i64 (.ofNat 0)), (.bool false)])) [(0, 68, s25)] 1 68)),
 o 10 d27 (.e (.app s17 s26 68 96 false)),
 o 11 d3 (.q (.mv s27))])))
 (.reg [o 0 d28 (.q (.bin .add s13 (.v (.int .i64 (.ofNat 1))))),
 o 1 d13 (.q (.mv s28))])))))))
 (.seq (.reg [o 0 d29 (.q (.mv s3)),
 o 1 d2 (.q (.mv s29))])
 .ret))))
 [.t p2]

noncomputable def f42 : FnE := .code 60
 (.seq (.reg [o 0 d6 (.q (.mv s0)),
 o 1 d7 (.call p71 [s6]),
 o 2 d4 (.e (.alo (zz (.int .u32 (.ofNat 0)) 8))),
 o 3 none (.e (.st s4 s7 8))])
 (.seq (.reg [o 0 d8 (.q (.mv s0)),
 o 1 d9 (.q (.nck s8)),
 o 2 d10 (.q (.fadr s9 9)),
 o 3 d11 (.q (.ld1 s10)),
 o 4 d12 (.q (.mv s1)),
 o 5 d13 (.q (.lenv s12)),
 o 6 d14 (.q (.bin .add s11 s13)),
 o 7 d15 (.q (.nck s8)),
 o 8 d16 (.q (.fadr s15 9)),
 o 9 none (.e (.st s16 s14 1))])
 (.seq (.reg [o 0 d17 (.q (.mv s0)),
 o 1 d18 (.q (.mv s0)),
 o 2 d19 (.q (.nck s18)),
 o 3 d20 (.q (.fadr s19 8)),
 o 4 d21 (.q (.ld1 s20)),
 o 5 d22 (.q (.mv s1)),
 o 6 d23 (.e (.app s21 s22 1 1 false)),
 o 7 d24 (.q (.nck s17)),
 o 8 d25 (.q (.fadr s24 8)),
 o 9 none (.e (.st s25 s23 1))])
 (.seq (.reg [o 0 d5 (.q (.mv (.v (.int .i64 (.ofNat 0)))))])
 (.seq (.blk 0 (.loop (.seq (.seq (.reg [o 0 d26 (.q (.mv s5)),
 o 1 d27 (.q (.bin .add s26 (.v (.int .i64 (.ofNat 64))))),
 o 2 d28 (.q (.mv s0)),
 o 3 d29 (.q (.nck s28)),
 o 4 d30 (.q (.fadr s29 8)),
 o 5 d31 (.q (.ld1 s30)),
 o 6 d32 (.q (.lenv s31)),
 o 7 d33 (.q (.bin .leq s27 s32))])
 (.cnd s33 .skip (.exit 0)))
 (.seq (.blk 1 (.rgd 0 [o 0 d36 (.q (.ldn s4 8)),
 o 1 d37 (.q (.mv s0)),
 o 2 d38 (.q (.nck s37)),
 o 3 d39 (.q (.fadr s38 8)),
 o 4 d40 (.q (.ld1 s39)),
 o 5 d41 (.q (.mv s5)),
 o 6 d42 (.q (.mv s5)),
 o 7 d43 (.q (.bin .add s42 (.v (.int .i64 (.ofNat 64))))),
 o 8 d44 (.q (.slc s40 (some s41) (some s43) 1)),
 o 9 d45 (.call p72 [s36, s44]),
 o 10 none (.e (.st s4 s45 8))]))
 (.reg [o 0 d34 (.q (.mv s5)),
 o 1 d35 (.q (.bin .add s34 (.v (.int .i64 (.ofNat 64))))),
 o 2 d5 (.q (.mv s35))])))))
 (.rgd 0 [o 0 d46 (.q (.mv s0)),
 o 1 d47 (.q (.mv s0)),
 o 2 d48 (.q (.ldn s4 8)),
 o 3 d49 (.q (.mv s0)),
 o 4 d50 (.q (.nck s49)),
 o 5 d51 (.q (.fadr s50 8)),
 o 6 d52 (.q (.ld1 s51)),
 o 7 d53 (.q (.mv s5)),
 o 8 d54 (.q (.slc s52 (some s53) none 1)),
 ⟨9, d55, (.call p73 [s54]), none, [(p48, .ldn s4 8, none)]⟩,
 o 10 d56 (.q (.nck s46)),
 o 11 d57 (.q (.fadr s56 0)),
 o 12 none (.e (.st s57 s48 8)),
 o 13 d58 (.q (.nck s47)),
 o 14 d59 (.q (.fadr s58 8)),
 o 15 none (.e (.st s59 s55 1))]))))))
 []

noncomputable def f44 : FnE := .code 79
 (.seq (.reg [o 0 d2 (.e (.alo (zz (.int .u8 (.ofNat 0)) 32)))])
 (.seq (.reg [o 0 d11 (.q (.mv s0)),
 o 1 d12 (.q (.nck s11)),
 o 2 d13 (.q (.fadr s12 8)),
 o 3 d14 (.q (.ld1 s13)),
 o 4 d15 (.call p73 [s14]),
 o 5 d16 (.e (.bsl [(.int .u8 (.ofNat 0))] [(0, 1, (.v (.int .u8 (.ofNat 128))))] 1 1)),
 o 6 d17 (.e (.app s15 s16 1 1 false)),
 o 7 d3 (.q (.mv s17))])
 (.seq (.blk 0 (.loop (.seq (.seq (.reg [o 0 d18 (.q (.mv s3)),
 o 1 d19 (.q (.lenv s18)),
 o 2 d20 (.q (.bin .rem s19 (.v (.int .i64 (.ofNat 64))))),
 o 3 d21 (.q (.bin .neq s20 (.v (.int .i64 (.ofNat 56)))))])
 (.cnd s21 .skip (.exit 0)))
 (.blk 1 (.reg [o 0 d22 (.q (.mv s3)),
 o 1 d23 (.e (.bsl [(.int .u8 (.ofNat 0))] [(0, 1, (.v (.int .u8 (.ofNat 0))))] 1 1)),
 o 2 d24 (.e (.app s22 s23 1 1 false)),
 o 3 d3 (.q (.mv s24))])))))
 (.seq (.seq (.reg [o 0 d4 (.q (.mv (.v (.int .i64 (.ofNat 7)))))])
 (.blk 2 (.loop (.seq (.seq (.reg [o 0 d25 (.q (.mv s4)),
 o 1 d26 (.q (.bin .geq s25 (.v (.int .i64 (.ofNat 0)))))])
 (.cnd s26 .skip (.exit 2)))
 (.seq (.blk 3 (.reg [o 0 d29 (.q (.mv s3)),
 o 1 d30 (.q (.mv s0)),
 o 2 d31 (.q (.nck s30)),
 o 3 d32 (.q (.fadr s31 9)),
 o 4 d33 (.q (.ld1 s32)),
 o 5 d34 (.q (.cvi .u64 s33)),
 o 6 d35 (.q (.shf true s34 (.v (.int .u64 (.ofNat 3))))),
 o 7 d36 (.q (.mv s4)),
 o 8 d37 (.q (.bin .mul (.v (.int .i64 (.ofNat 8))) s36)),
 o 9 d38 (.q (.shf false s35 s37)),
 o 10 d39 (.q (.cvi .u8 s38)),
 o 11 d40 (.e (.bsl [(.int .u8 (.ofNat 0))] [(0, 1, s39)] 1 1)),
 o 12 d41 (.e (.app s29 s40 1 1 false)),
 o 13 d3 (.q (.mv s41))]))
 (.reg [o 0 d27 (.q (.mv s4)),
 o 1 d28 (.q (.bin .sub s27 (.v (.int .i64 (.ofNat 1))))),
 o 2 d4 (.q (.mv s28))]))))))
 (.seq (.reg [o 0 d42 (.q (.mv s0)),
 o 1 d43 (.call p71 [s42]),
 o 2 d5 (.e (.alo (zz (.int .u32 (.ofNat 0)) 8))),
 o 3 none (.e (.st s5 s43 8))])
 (.seq (.seq (.reg [o 0 d6 (.q (.mv (.v (.int .i64 (.ofNat 0)))))])
 (.blk 4 (.loop (.seq (.seq (.reg [o 0 d44 (.q (.mv s6)),
 o 1 d45 (.q (.mv s3)),
 o 2 d46 (.q (.lenv s45)),
 o 3 d47 (.q (.bin .lss s44 s46))])
 (.cnd s47 .skip (.exit 4)))
 (.seq (.blk 5 (.rgd 0 [o 0 d50 (.q (.ldn s5 8)),
 o 1 d51 (.q (.mv s3)),
 o 2 d52 (.q (.mv s6)),
 o 3 d53 (.q (.mv s6)),
 o 4 d54 (.q (.bin .add s53 (.v (.int .i64 (.ofNat 64))))),
 o 5 d55 (.q (.slc s51 (some s52) (some s54) 1)),
 o 6 d56 (.call p72 [s50, s55]),
 o 7 none (.e (.st s5 s56 8))]))
 (.reg [o 0 d48 (.q (.mv s6)),
 o 1 d49 (.q (.bin .add s48 (.v (.int .i64 (.ofNat 64))))),
 o 2 d6 (.q (.mv s49))]))))))
 (.seq (.reg [o 0 d7 (.e (.alo (zz (.int .u8 (.ofNat 0)) 32)))])
 (.seq (.seq (.reg [o 0 d57 (.q (.ldn s5 8)),
 o 1 d58 (.q (.mv (.v (.int .i64 (.ofNat 0)))))])
 (.blk 6 (.loop (.seq (.reg [o 0 d59 (.q (.bin .lss s58 (.v (.int .i64 (.ofNat 8)))))])
 (.seq (.cnd s59 .skip (.exit 6))
 (.seq (.blk 7 (.seq (.reg [o 0 d60 (.q (.mv s58)),
 o 1 d61 (.q (.idxa s57 s58 1 8 false)),
 o 2 d8 (.q (.mv s60)),
 o 3 d9 (.q (.mv s61))])
 (.seq (.reg [o 0 d62 (.q (.mv (.v (.int .i64 (.ofNat 0)))))])
 (.blk 8 (.loop (.seq (.reg [o 0 d63 (.q (.bin .lss s62 (.v (.int .i64 (.ofNat 4)))))])
 (.seq (.cnd s63 .skip (.exit 8))
 (.seq (.blk 9 (.seq (.reg [o 0 d64 (.q (.mv s62)),
 o 1 d10 (.q (.mv s64))])
 (.reg [o 0 d65 (.q (.mv s8)),
 o 1 d66 (.q (.bin .mul (.v (.int .i64 (.ofNat 4))) s65)),
 o 2 d67 (.q (.mv s10)),
 o 3 d68 (.q (.bin .add s66 s67)),
 o 4 d69 (.q (.mv s9)),
 o 5 d70 (.q (.mv s10)),
 o 6 d71 (.q (.bin .mul (.v (.int .i64 (.ofNat 8))) s70)),
 o 7 d72 (.q (.bin .sub (.v (.int .i64 (.ofNat 24))) s71)),
 o 8 d73 (.q (.shf false s69 s72)),
 o 9 d74 (.q (.cvi .u8 s73)),
 o 10 d75 (.q (.iada s7 s68 1 32)),
 o 11 none (.e (.st s75 s74 1))])))
 (.reg [o 0 d76 (.q (.bin .add s62 (.v (.int .i64 (.ofNat 1))))),
 o 1 d62 (.q (.mv s76))])))))))))
 (.reg [o 0 d77 (.q (.bin .add s58 (.v (.int .i64 (.ofNat 1))))),
 o 1 d58 (.q (.mv s77))])))))))
 (.seq (.reg [o 0 d78 (.q (.ldn s7 32)),
 o 1 none (.e (.st s2 s78 32))])
 .ret)))))))))
 [.cn p2 32]

noncomputable def f45 : FnE := .code 23
 (.seq (.reg [o 0 d2 (.q (.mv (.v .nilp)))])
 (.seq (.rgd 0 [o 0 d3 (.q (.mv s0)),
 o 1 d4 (.q (.nck s3)),
 o 2 d5 (.q (.fadr s4 0)),
 o 3 d6 (.q (.ld1 s5)),
 o 5 d8 (.q (.mv s0)),
 o 6 d9 (.q (.nck s8)),
 o 7 d10 (.q (.fadr s9 1)),
 o 8 d11 (.q (.ld1 s10)),
 o 10 d13 (.q (.mv s0)),
 o 11 d14 (.q (.nck s13)),
 o 12 d15 (.q (.fadr s14 2)),
 o 13 d16 (.q (.ld1 s15)),
 o 14 d17 (.q (.mv s0)),
 o 15 d18 (.q (.nck s17)),
 o 16 d19 (.q (.fadr s18 3)),
 o 17 d20 (.q (.ldn s19 3)),
 ⟨4, d7, (.call p76 [s6]), none, [(p11, .ld1 s10, none), (p16, .ld1 s15, none), (p20, .ldn s19 3, none)]⟩,
 ⟨9, d12, (.call p77 [s11]), none, [(p16, .ld1 s15, none), (p20, .ldn s19 3, none)]⟩,
 o 18 d21 (.q (.bld [.nilm, .nilm, (.int .i64 (.ofNat 0)), (.int .i64 (.ofNat 0)), (.int .i64 (.ofNat 0)), (.int .u64 (.ofNat 0))] [(0, 1, s7), (1, 1, s12), (2, 1, s16), (3, 3, s20)])),
 o 19 d22 (.e (.box s21 6)),
 o 20 d2 (.q (.mv s22))])
 .ret))
 [.t p2]

noncomputable def f46 : FnE := .code 12
 (.seq (.reg [o 0 d4 (.q (.mv (.v .nils)))])
 (.seq (.reg [o 0 d6 (.q (.mv s0)),
 o 1 d7 (.call p78 [s6]),
 o 2 d5 (.q (.mv s7))])
 (.seq (.reg [o 0 d8 (.q (.mv s5)),
 o 1 d9 (.q (.mv s1)),
 o 2 d10 (.call p79 [s8, s9])])
 (.seq (.reg [o 0 d11 (.q (.mv s5)),
 o 1 d4 (.q (.mv s11))])
 .ret))))
 [.t p4]

noncomputable def f47 : FnE := .code 4
 (.seq (.reg [o 0 d1 (.e (.box s0 1)),
 o 1 d2 (.q (.mv (.v .nilf)))])
 (.seq (.reg [o 0 d3 (.q (.mkf 80 [] [s1])),
 o 1 d2 (.q (.mv s3))])
 .ret))
 [.t p2]

noncomputable def f49 : FnE := .code 7
 (.seq (.reg [o 0 d2 (.e (.alo [(.int .i64 (.ofNat 0)), (.int .i64 (.ofNat 0)), (.int .u64 (.ofNat 0))]))])
 (.seq (.reg [o 0 d3 (.q (.mv s0)),
 o 1 d4 (.q (.nck s3)),
 o 2 d5 (.q (.fadr s4 3)),
 o 3 d6 (.q (.ldn s5 3)),
 o 4 none (.e (.st s2 s6 3))])
 .ret))
 [.cn p2 3]

noncomputable def f50 : FnE := .code 11
 (.seq (.reg [o 0 d2 (.q (.mv (.v .nils)))])
 (.seq (.reg [o 0 d6 (.q (.mv s0)),
 o 1 d7 (.call p82 [s6]),
 o 2 d5 (.q (.mv s7)),
 o 3 d8 (.q (.ext s5 0)),
 o 4 d9 (.q (.ext s5 1)),
 o 5 d3 (.q (.mv s8)),
 o 6 d4 (.q (.mv s9))])
 (.seq (.reg [o 0 d10 (.q (.mv s3)),
 o 1 d2 (.q (.mv s10))])
 .ret)))
 [.t p2]

noncomputable def f51 : FnE := .code 8
 (.seq (.reg [o 0 d2 (.q (.mv (.v .nils)))])
 (.seq (.seq (.reg [o 0 d3 (.q (.mv s0)),
 o 1 d4 (.q (.eqp .slice false s3 (.v .nils)))])
 (.cnd s4 (.seq (.reg [o 0 d2 (.q (.mv (.v .nils)))])
 .ret) .skip))
 (.seq (.reg [o 0 d5 (.e (.bsl [] [] 0 34)),
 o 1 d6 (.q (.mv s0)),
 o 2 d7 (.e (.app s5 s6 34 48 false)),
 o 3 d2 (.q (.mv s7))])
 .ret)))
 [.t p2]

noncomputable def f52 : FnE := .code 9
 (.seq (.reg [o 0 d2 (.q (.mv (.v .nilm)))])
 (.seq (.seq (.reg [o 0 d3 (.q (.mv s0)),
 o 1 d4 (.q (.eqp .map false s3 (.v .nilm)))])
 (.cnd s4 (.seq (.reg [o 0 d2 (.q (.mv (.v .nilm)))])
 .ret) .skip))
 (.seq (.reg [o 0 d5 (.q (.mv s0)),
 o 1 d6 (.q (.mki 96 s5)),
 o 2 d7 (.call p83 [s6]),
 o 3 d8 (.q (.tas s7 96 .nilm false)),
 o 4 d2 (.q (.mv s8))])
 .ret)))
 [.t p2]

noncomputable def f53 : FnE := .code 14
 (.seq (.reg [o 0 d2 (.q (.mv (.v (.int .i64 (.ofNat 0)))))])
 (.seq (.reg [o 0 d3 (.q (.mv s0)),
 o 1 d4 (.q (.nck s3)),
 o 2 d5 (.q (.fadr s4 1)),
 o 3 d6 (.q (.ld1 s5)),
 o 4 d7 (.q (.bin .add s6 (.v (.int .i64 (.ofNat 1))))),
 o 5 d8 (.q (.nck s3)),
 o 6 d9 (.q (.fadr s8 1)),
 o 7 none (.e (.st s9 s7 1))])
 (.seq (.reg [o 0 d10 (.q (.mv s0)),
 o 1 d11 (.q (.nck s10)),
 o 2 d12 (.q (.fadr s11 1)),
 o 3 d13 (.q (.ld1 s12)),
 o 4 d2 (.q (.mv s13))])
 .ret)))
 [.t p2]

noncomputable def f54 : FnE := .code 24
 (.seq (.reg [o 0 d2 (.e (.alo [(.int .u32 (.ofNat 0)), .nils, .nils, (.int .u32 (.ofNat 0))])),
 o 1 d3 (.q (.mv (.v .nili)))])
 (.seq (.reg [o 0 d6 (.q (.mv s0)),
 o 1 d7 (.call p84 [s6]),
 o 2 d4 (.q (.mv s7))])
 (.seq (.reg [o 0 d8 (.q (.mv s4)),
 o 1 d9 (.call p85 [s8]),
 o 2 d5 (.e (.alo [(.int .u32 (.ofNat 0)), .nils, .nils, (.int .u32 (.ofNat 0))])),
 o 3 none (.e (.st s5 s9 4))])
 (.seq (.blk 0 (.seq (.reg [o 0 d11 (.q (.mv s4)),
 o 1 d12 (.call p86 [s11]),
 o 2 d13 (.q (.eqp (.iface true) true s12 (.v .nili))),
 o 3 d10 (.q (.mv s13))])
 (.cnd s10 (.seq (.reg [o 0 d14 (.q (.bld [(.int .u32 (.ofNat 0)), .nils, .nils, (.int .u32 (.ofNat 0))] [])),
 o 1 d15 (.q (.mv s4)),
 o 2 d16 (.call p86 [s15]),
 o 3 none (.e (.st s2 s14 4)),
 o 4 d3 (.q (.mv s16))])
 .ret) (.seq (.reg [o 0 d18 (.q (.mv s4)),
 o 1 d19 (.call p87 [s18]),
 o 2 d20 (.q (.bin .gtr s19 (.v (.int .i64 (.ofNat 0))))),
 o 3 d17 (.q (.mv s20))])
 (.cnd s17 (.seq (.rgd 0 [o 0 d21 (.q (.bld [(.int .u32 (.ofNat 0)), .nils, .nils, (.int .u32 (.ofNat 0))] [])),
 o 1 d22 (.q (.ld1 (.g p1))),
 ⟨2, none, (.e (.st s2 s21 4)), none, [(p22, .ld1 (.g p1), none)]⟩,
 o 3 d3 (.q (.mv s22))])
 .ret) .skip)))))
 (.seq (.reg [o 0 d23 (.q (.ldn s5 4)),
 o 1 none (.e (.st s2 s23 4)),
 o 2 d3 (.q (.mv (.v .nili)))])
 .ret)))))
 [.cn p2 4, .t p3]

noncomputable def f57 : FnE := .code 25
 (.seq (.reg [o 0 d6 (.e (.box s2 32)),
 o 1 d8 (.e (.alo [(.int .u32 (.ofNat 0)), .nils, .nils, (.int .u32 (.ofNat 0))]))])
 (.seq (.reg [o 0 d10 (.q (.mv s0)),
 o 1 d11 (.q (.cvi .u32 s10)),
 o 2 d12 (.call p74 [(.v .nils), s11]),
 o 3 d13 (.q (.mv s3)),
 o 4 d14 (.e (.bsl [.nils, .nils] [(0, 1, s12), (1, 1, s13)] 2 1)),
 o 5 d15 (.call p93 [s14]),
 o 6 d9 (.q (.mv s15))])
 (.seq (.rgd 2 [o 1 d17 (.q (.mv s9)),
 o 4 d20 (.q (.mv s1)),
 o 5 d21 (.q (.ldn s6 32)),
 o 6 d22 (.q (.bld (lapp [(.int .u64 (.ofNat 0))] (zz (.int .u8 (.ofNat 0)) 32)) [(0, 1, s20), (1, 32, s21)])),
 ⟨0, d16, (.call p94 []), none, [(p21, .ldn s6 32, none)]⟩,
 o 2 d18 (.q (.bld (lapp (zz (.int .u8 (.ofNat 0)) 32) [(.int .u32 (.ofNat 0)), .nils, (.int .u32 (.ofNat 0))]) [(0, 33, s16), (33, 1, s17), (34, 1, (.v (.int .u32 (.ofNat 4294967295))))])),
 ⟨3, d19, (.l (.bsl (lapp (zz (.int .u8 (.ofNat 0)) 32) [(.int .u32 (.ofNat 0)), .nils, (.int .u32 (.ofNat 0))]) [(0, 35, s18)] 1 35) 0), none, [(p21, .ldn s6 32, none)]⟩,
 o 7 d23 (.l (.bsl (lapp [(.int .u64 (.ofNat 0))] (zz (.int .u8 (.ofNat 0)) 32)) [(0, 33, s22)] 1 33) 1),
 o 8 d24 (.q (.bld [(.int .u32 (.ofNat 0)), .nils, .nils, (.int .u32 (.ofNat 0))] [(0, 1, (.v (.int .u32 (.ofNat 1)))), (1, 1, s19), (2, 1, s23)])),
 o 9 none (.e (.st s8 s24 4))])
 .ret)))
 [.cn p8 4]

noncomputable def f58 : FnE := .code 5
 (.seq (.reg [o 0 d2 (.e (.alo (zz (.int .u8 (.ofNat 0)) 32)))])
 (.seq (.reg [o 0 d3 (.q (.mv s0)),
 o 1 d4 (.call p95 [s3]),
 o 2 none (.e (.st s2 s4 32))])
 .ret))
 [.cn p2 32]

noncomputable def f59 : FnE := .code 6
 (.seq (.reg [o 0 d1 (.e (.box s0 69)),
 o 1 d2 (.e (.alo (zz (.int .u8 (.ofNat 0)) 32)))])
 (.seq (.reg [o 0 d3 (.q (.ldn s1 69)),
 o 1 d4 (.call p97 [s3]),
 o 2 d5 (.call p96 [s4]),
 o 3 none (.e (.st s2 s5 32))])
 .ret))
 [.cn p2 32]

noncomputable def f60 : FnE := .code 6
 (.seq (.reg [o 0 d1 (.e (.box s0 68)),
 o 1 d2 (.e (.alo (zz (.int .u8 (.ofNat 0)) 32)))])
 (.seq (.reg [o 0 d3 (.q (.ldn s1 68)),
 o 1 d4 (.call p99 [s3]),
 o 2 d5 (.call p98 [s4]),
 o 3 none (.e (.st s2 s5 32))])
 .ret))
 [.cn p2 32]

noncomputable def f62 : FnE := .code 20
 (.seq (.reg [o 0 d2 (.q (.mv (.v (.int .i64 (.ofNat 0)))))])
 (.seq (.reg [o 0 d5 (.call p100 []),
 o 1 d3 (.q (.mv s5))])
 (.seq (.seq (.reg [o 0 d4 (.q (.mv (.v (.int .i64 (.ofNat 0)))))])
 (.blk 0 (.loop (.seq (.seq (.reg [o 0 d6 (.q (.mv s4)),
 o 1 d7 (.q (.mv s3)),
 o 2 d8 (.q (.lenv s7)),
 o 3 d9 (.q (.bin .lss s6 s8))])
 (.cnd s9 .skip (.exit 0)))
 (.seq (.blk 1 (.seq (.reg [o 0 d12 (.q (.mv s0)),
 o 1 d13 (.q (.mv s3)),
 o 2 d14 (.q (.mv s4)),
 o 3 d15 (.q (.iadr s13 s14 1)),
 o 4 d16 (.q (.ld1 s15)),
 o 5 d17 (.call p101 [s12, s16])])
 (.cnd s17 (.seq (.reg [o 0 d18 (.q (.mv s4)),
 o 1 d19 (.q (.bin .add (.v (.int .i64 (.ofNat 101))) s18)),
 o 2 d2 (.q (.mv s19))])
 .ret) .skip)))
 (.reg [o 0 d10 (.q (.mv s4)),
 o 1 d11 (.q (.bin .add s10 (.v (.int .i64 (.ofNat 1))))),
 o 2 d4 (.q (.mv s11))]))))))
 (.seq (.reg [o 0 d2 (.q (.mv (.v (.int .i64 (.negSucc 0)))))])
 .ret))))
 [.t p2]

noncomputable def f65 : FnE := .code 9
 (.seq (.reg [o 0 d2 (.q (.mv (.v .nilm)))])
 (.seq (.seq (.reg [o 0 d3 (.q (.mv s0)),
 o 1 d4 (.q (.eqp .map false s3 (.v .nilm)))])
 (.cnd s4 (.seq (.reg [o 0 d2 (.q (.mv (.v .nilm)))])
 .ret) .skip))
 (.seq (.reg [o 0 d5 (.q (.mv s0)),
 o 1 d6 (.q (.mki 82 s5)),
 o 2 d7 (.call p83 [s6]),
 o 3 d8 (.q (.tas s7 82 .nilm false)),
 o 4 d2 (.q (.mv s8))])
 .ret)))
 [.t p2]

noncomputable def f66 : FnE := .code 39
 (.seq (.reg [o 0 d3 (.e (.box s1 32)),
 o 1 d4 (.q (.mv (.v .nils))),
 o 2 d5 (.q (.mv (.v (.bool false))))])
 (.seq (.reg [o 0 d6 (.q (.mv (.v .nils)))])
 (.seq (.reg [o 0 d10 (.q (.mv s0)),
 o 1 d11 (.q (.ldn s3 32)),
 o 2 d12 (.call p102 [s10, s11]),
 o 3 d9 (.q (.mv s12)),
 o 4 d13 (.q (.ext s9 0)),
 o 5 d14 (.q (.ext s9 1)),
 o 6 d7 (.e (.alo (lapp [(.int .u32 (.ofNat 0))] (lapp (zz (.int .u8 (.ofNat 0)) 32) [(.int .u8 (.ofNat 0)), (.int .u8 (.ofNat 0)), (.int .u8 (.ofNat 0)), (.int .u8 (.ofNat 0)), (.int .u8 (.ofNat 0)), (.int .u8 (.ofNat 0)), (.int .u8 (.ofNat 0)), (.int .u8 (.ofNat 0)), (.int .u8 (.ofNat 0)), (.int .u8 (.ofNat 0)), (.int .u8 (.ofNat 0)), (.int .u8 (.ofNat 0)), (.int .u8 (.ofNat 0)), (.int .u8 (.ofNat 0)), (.int .u8 (.ofNat 0)), (.int .u8 (.ofNat 0)), (.int .u8 (.ofNat 0)), (.int .u8 (.ofNat 0)), (.int .u8 (.ofNat 0)), (.int .u8 (.ofNat 0)), (.int .u8 (.ofNat 0)), (.int .u8 (.ofNat 0)), (.int .u8 (.ofNat 0)), (.int .u8 (.ofNat 0)), (.int .u8 (.ofNat 0)), (.int .u8 (.ofNat 0)), (.int .u8 (.ofNat 0)), (.int .u8 (.ofNat 0)), (.int .u8 (.ofNat 0)), (.int .u8 (.ofNat 0)), (.int .u8 (.ofNat 0)), (.int .u8 (.ofNat 0)), (.int .u32 (.ofNat 0)), (.int .u32 (.ofNat 0)), (.int .u32 (.ofNat 0))])))),
 o 7 none (.e (.st s7 s13 68)),
 o 8 d8 (.q (.mv s14))])
 (.seq (.seq (.reg [o 0 d15 (.q (.mv s8)),
 o 1 d16 (.q (.not s15))])
 (.cnd s16 (.seq (.reg [o 0 d4 (.q (.mv (.v .nils))),
 o 1 d5 (.q (.mv (.v (.bool false))))])
 .ret) .skip))
 (.seq (.blk 0 (.loop (.seq (.seq (.reg [o 0 d17 (.q (.mv s8))])
 (.cnd s17 .skip (.exit 0)))
 (.seq (.blk 1 (.seq (.reg [o 0 d25 (.q (.mv s6)),
 o 1 d26 (.q (.fadr s7 65)),
 o 2 d27 (.q (.ld1 s26)),
 o 3 d28 (.e (.bsl [(.int .u32 (.ofNat 0))] [(0, 1, s27)] 1 1)),
 o 4 d29 (.e (.app s25 s28 1 4 false)),
 o 5 d6 (.q (.mv s29))])
 (.seq (.seq (.rgd 0 [o 0 d30 (.q (.ldn s3 32)),
 o 1 d31 (.q (.mv s0)),
 ⟨2, d32, (.call p35 [s31]), none, [(p30, .ldn s3 32, none)]⟩,
 o 3 d33 (.q (.eqa false (kk .u8 32) s30 s32))])
 (.cnd s33 (.exit 0) .skip))
 (.reg [o 0 d34 (.q (.fadr s7 1)),
 o 1 d35 (.q (.ldn s34 32)),
 o 2 none (.e (.st s3 s35 32))]))))
 (.reg [o 0 d19 (.q (.mv s0)),
 o 1 d20 (.q (.fadr s7 1)),
 o 2 d21 (.q (.ldn s20 32)),
 o 3 d22 (.call p102 [s19, s21]),
 o 4 d18 (.q (.mv s22)),
 o 5 d23 (.q (.ext s18 0)),
 o 6 d24 (.q (.ext s18 1)),
 o 7 none (.e (.st s7 s23 68)),
 o 8 d8 (.q (.mv s24))])))))
 (.seq (.reg [o 0 d36 (.q (.mv s6)),
 o 1 d37 (.call p103 [s36])])
 (.seq (.reg [o 0 d38 (.q (.mv s6)),
 o 1 d4 (.q (.mv s38)),
 o 2 d5 (.q (.mv (.v (.bool true))))])
 .ret)))))))
 [.t p4, .t p5]

noncomputable def f67 : FnE := .code 22
 (.seq (.reg [o 0 d2 (.q (.mv (.v (.int .u32 (.ofNat 0)))))])
 (.seq (.seq (.reg [o 0 d4 (.q (.mv s0)),
 o 1 d5 (.q (.lenv s4)),
 o 2 d6 (.q (.bin .eql s5 (.v (.int .i64 (.ofNat 0)))))])
 (.cnd s6 (.seq (.reg [o 0 d2 (.q (.mv (.v (.int .u32 (.ofNat 0)))))])
 .ret) .skip))
 (.seq (.reg [o 0 d7 (.q (.mv s0)),
 o 1 d8 (.q (.mv s0)),
 o 2 d9 (.q (.lenv s8)),
 o 3 d10 (.q (.bin .sub s9 (.v (.int .i64 (.ofNat 11))))),
 o 4 d11 (.q (.mnx true s10 (.v (.int .i64 (.ofNat 0))))),
 o 5 d12 (.q (.slc s7 (some s11) none 1)),
 o 6 d13 (.call p104 [s12]),
 o 7 d3 (.q (.mv s13))])
 (.seq (.reg [o 0 d14 (.q (.mv s3)),
 o 1 d15 (.call p105 [s14])])
 (.seq (.reg [o 0 d16 (.q (.mv s3)),
 o 1 d17 (.q (.mv s3)),
 o 2 d18 (.q (.lenv s17)),
 o 3 d19 (.q (.bin .quo s18 (.v (.int .i64 (.ofNat 2))))),
 o 4 d20 (.q (.iadr s16 s19 1)),
 o 5 d21 (.q (.ld1 s20)),
 o 6 d2 (.q (.mv s21))])
 .ret)))))
 [.t p2]

noncomputable def f68 : FnE := .code 12
 (.seq (.reg [o 0 d4 (.q (.mv (.v .nils)))])
 (.seq (.reg [o 0 d6 (.q (.mv s0)),
 o 1 d7 (.call p106 [s6]),
 o 2 d5 (.q (.mv s7))])
 (.seq (.reg [o 0 d8 (.q (.mv s5)),
 o 1 d9 (.q (.mv s1)),
 o 2 d10 (.call p107 [s8, s9])])
 (.seq (.reg [o 0 d11 (.q (.mv s5)),
 o 1 d4 (.q (.mv s11))])
 .ret))))
 [.t p4]

noncomputable def f69 : FnE := .code 4
 (.seq (.reg [o 0 d1 (.e (.box s0 1)),
 o 1 d2 (.q (.mv (.v .nilf)))])
 (.seq (.reg [o 0 d3 (.q (.mkf 108 [] [s1])),
 o 1 d2 (.q (.mv s3))])
 .ret))
 [.t p2]

noncomputable def f71 : FnE := .code 13
 (.seq (.reg [o 0 d2 (.e (.alo (zz (.int .u32 (.ofNat 0)) 8)))])
 (.seq (.seq (.reg [o 0 d3 (.q (.mv s0)),
 o 1 d4 (.q (.nck s3)),
 o 2 d5 (.q (.fadr s4 9)),
 o 3 d6 (.q (.ld1 s5)),
 o 4 d7 (.q (.bin .lss s6 (.v (.int .i64 (.ofNat 64)))))])
 (.cnd s7 (.seq (.reg [o 0 d8 (.call p109 []),
 o 1 none (.e (.st s2 s8 8))])
 .ret) .skip))
 (.seq (.reg [o 0 d9 (.q (.mv s0)),
 o 1 d10 (.q (.nck s9)),
 o 2 d11 (.q (.fadr s10 0)),
 o 3 d12 (.q (.ldn s11 8)),
 o 4 none (.e (.st s2 s12 8))])
 .ret)))
 [.cn p2 8]

noncomputable def f72 : FnE := .code 111
 (.seq (.reg [o 0 d2 (.e (.box s0 8)),
 o 1 d4 (.e (.alo (zz (.int .u32 (.ofNat 0)) 8)))])
 (.seq (.reg [o 0 d14 (.q (.mv s1)),
 o 1 d15 (.call p110 [s14]),
 o 2 d16 (.call p111 []),
 o 3 d5 (.e (.alo (zz (.int .u32 (.ofNat 0)) 64))),
 o 4 d6 (.e (.alo (zz (.int .u32 (.ofNat 0)) 64))),
 o 5 none (.e (.st s5 s15 64)),
 o 6 none (.e (.st s6 s16 64))])
 (.seq (.reg [o 0 d17 (.q (.ldn s2 8)),
 o 1 d7 (.e (.alo (zz (.int .u32 (.ofNat 0)) 8))),
 o 2 none (.e (.st s7 s17 8))])
 (.seq (.seq (.reg [o 0 d18 (.q (.mv (.v (.int .i64 (.ofNat 0)))))])
 (.blk 0 (.loop (.seq (.reg [o 0 d19 (.q (.bin .lss s18 (.v (.int .i64 (.ofNat 64)))))])
 (.seq (.cnd s19 .skip (.exit 0))
 (.seq (.blk 1 (.seq (.reg [o 0 d20 (.q (.mv s18)),
 o 1 d8 (.q (.mv s20))])
 (.seq (.rgd 0 [o 0 d21 (.q (.iada s7 (.v (.int .i64 (.ofNat 0))) 1 8)),
 o 1 d22 (.q (.ld1 s21)),
 o 2 d23 (.q (.iada s7 (.v (.int .i64 (.ofNat 4))) 1 8)),
 o 3 d24 (.q (.ld1 s23)),
 o 4 d9 (.q (.mv s22)),
 o 5 d10 (.q (.mv s24))])
 (.seq (.rgd 0 [o 0 d25 (.q (.iada s7 (.v (.int .i64 (.ofNat 7))) 1 8)),
 o 1 d26 (.q (.ld1 s25)),
 o 2 d27 (.q (.mv s10)),
 o 4 d29 (.q (.mv s10)),
 o 7 d32 (.q (.mv s10)),
 o 11 d36 (.q (.mv s10)),
 o 12 d37 (.q (.iada s7 (.v (.int .i64 (.ofNat 5))) 1 8)),
 o 13 d38 (.q (.ld1 s37)),
 o 14 d39 (.q (.bin .and s36 s38)),
 o 15 d40 (.q (.mv s10)),
 o 16 d41 (.q (.inv s40)),
 o 17 d42 (.q (.iada s7 (.v (.int .i64 (.ofNat 6))) 1 8)),
 o 18 d43 (.q (.ld1 s42)),
 o 19 d44 (.q (.bin .and s41 s43)),
 o 20 d45 (.q (.bin .xor s39 s44)),
 o 22 d47 (.q (.mv s8)),
 o 23 d48 (.q (.iada s6 s47 1 64)),
 o 24 d49 (.q (.ld1 s48)),
 o 26 d51 (.q (.mv s8)),
 o 27 d52 (.q (.iada s5 s51 1 64)),
 o 28 d53 (.q (.ld1 s52)),
 ⟨3, d28, (.call p112 [s27, (.v (.int .i64 (.ofNat 6)))]), none, [(p26, .ld1 s25, none), (p38, .ld1 s37, none), (p43, .ld1 s42, none), (p49, .ld1 s48, none), (p53, .ld1 s52, none)]⟩,
 ⟨5, d30, (.call p112 [s29, (.v (.int .i64 (.ofNat 11)))]), none, [(p26, .ld1 s25, none), (p38, .ld1 s37, none), (p43, .ld1 s42, none), (p49, .ld1 s48, none), (p53, .ld1 s52, none)]⟩,
 o 6 d31 (.q (.bin .xor s28 s30)),
 ⟨8, d33, (.call p112 [s32, (.v (.int .i64 (.ofNat 25)))]), none, [(p26, .ld1 s25, none), (p38, .ld1 s37, none), (p43, .ld1 s42, none), (p49, .ld1 s48, none), (p53, .ld1 s52, none)]⟩,
 o 9 d34 (.q (.bin .xor s31 s33)),
 o 10 d35 (.q (.bin .add s26 s34)),
 o 21 d46 (.q (.bin .add s35 s45)),
 o 25 d50 (.q (.bin .add s46 s49)),
 o 29 d54 (.q (.bin .add s50 s53)),
 o 30 d11 (.q (.mv s54))])
 (.seq (.rgd 0 [o 0 d55 (.q (.mv s9)),
 o 2 d57 (.q (.mv s9)),
 o 5 d60 (.q (.mv s9)),
 o 8 d63 (.q (.mv s9)),
 o 9 d64 (.q (.iada s7 (.v (.int .i64 (.ofNat 1))) 1 8)),
 o 10 d65 (.q (.ld1 s64)),
 o 11 d66 (.q (.bin .and s63 s65)),
 o 12 d67 (.q (.mv s9)),
 o 13 d68 (.q (.iada s7 (.v (.int .i64 (.ofNat 2))) 1 8)),
 o 14 d69 (.q (.ld1 s68)),
 o 15 d70 (.q (.bin .and s67 s69)),
 o 16 d71 (.q (.bin .xor s66 s70)),
 o 17 d72 (.q (.iada s7 (.v (.int .i64 (.ofNat 1))) 1 8)),
 o 18 d73 (.q (.ld1 s72)),
 o 19 d74 (.q (.iada s7 (.v (.int .i64 (.ofNat 2))) 1 8)),
 o 20 d75 (.q (.ld1 s74)),
 o 21 d76 (.q (.bin .and s73 s75)),
 o 22 d77 (.q (.bin .xor s71 s76)),
 ⟨1, d56, (.call p112 [s55, (.v (.int .i64 (.ofNat 2)))]), none, [(p65, .ld1 s64, none), (p69, .ld1 s68, none), (p73, .ld1 s72, none), (p75, .ld1 s74, none)]⟩,
 ⟨3, d58, (.call p112 [s57, (.v (.int .i64 (.ofNat 13)))]), none, [(p65, .ld1 s64, none), (p69, .ld1 s68, none), (p73, .ld1 s72, none), (p75, .ld1 s74, none)]⟩,
 o 4 d59 (.q (.bin .xor s56 s58)),
 ⟨6, d61, (.call p112 [s60, (.v (.int .i64 (.ofNat 22)))]), none, [(p65, .ld1 s64, none), (p69, .ld1 s68, none), (p73, .ld1 s72, none), (p75, .ld1 s74, none)]⟩,
 o 7 d62 (.q (.bin .xor s59 s61)),
 o 23 d78 (.q (.bin .add s62 s77)),
 o 24 d12 (.q (.mv s78))])
 (.reg [o 0 d79 (.q (.mv s11)),
 o 1 d80 (.q (.mv s12)),
 o 2 d81 (.q (.bin .add s79 s80)),
 o 3 d82 (.q (.mv s9)),
 o 4 d83 (.q (.iada s7 (.v (.int .i64 (.ofNat 1))) 1 8)),
 o 5 d84 (.q (.ld1 s83)),
 o 6 d85 (.q (.iada s7 (.v (.int .i64 (.ofNat 2))) 1 8)),
 o 7 d86 (.q (.ld1 s85)),
 o 8 d87 (.q (.iada s7 (.v (.int .i64 (.ofNat 3))) 1 8)),
 o 9 d88 (.q (.ld1 s87)),
 o 10 d89 (.q (.mv s11)),
 o 11 d90 (.q (.bin .add s88 s89)),
 o 12 d91 (.q (.mv s10)),
 o 13 d92 (.q (.iada s7 (.v (.int .i64 (.ofNat 5))) 1 8)),
 o 14 d93 (.q (.ld1 s92)),
 o 15 d94 (.q (.iada s7 (.v (.int .i64 (.ofNat 6))) 1 8)),
 o 16 d95 (.q (.ld1 s94)),
 o 17 d96 (.q (.bld (zz (.int .u32 (.ofNat 0)) 8) [(0, 1, s81), (1, 1, s82), (2, 1, s84), (3, 1, s86), (4, 1, s90), (5, 1, s91), (6, 1, s93), (7, 1, s95)])),
 o 18 none (.e (.st s7 s96 8))]))))))
 (.reg [o 0 d97 (.q (.bin .add s18 (.v (.int .i64 (.ofNat 1))))),
 o 1 d18 (.q (.mv s97))])))))))
 (.seq (.seq (.reg [o 0 d98 (.q (.mv (.v (.int .i64 (.ofNat 0)))))])
 (.blk 2 (.loop (.seq (.reg [o 0 d99 (.q (.bin .lss s98 (.v (.int .i64 (.ofNat 8)))))])
 (.seq (.cnd s99 .skip (.exit 2))
 (.seq (.blk 3 (.seq (.reg [o 0 d100 (.q (.mv s98)),
 o 1 d13 (.q (.mv s100))])
 (.rgd 0 [o 0 d101 (.q (.mv s13)),
 o 1 d102 (.q (.iada s2 s101 1 8)),
 o 2 d103 (.q (.ld1 s102)),
 o 3 d104 (.q (.mv s13)),
 o 4 d105 (.q (.iada s7 s104 1 8)),
 o 5 d106 (.q (.ld1 s105)),
 o 6 d107 (.q (.bin .add s103 s106)),
 o 7 d108 (.q (.iada s2 s101 1 8)),
 o 8 none (.e (.st s108 s107 1))])))
 (.reg [o 0 d109 (.q (.bin .add s98 (.v (.int .i64 (.ofNat 1))))),
 o 1 d98 (.q (.mv s109))])))))))
 (.seq (.reg [o 0 d110 (.q (.ldn s2 8)),
 o 1 none (.e (.st s4 s110 8))])
 .ret))))))
 [.cn p4 8]

noncomputable def f73 : FnE := .code 8
 (.seq (.reg [o 0 d2 (.q (.mv (.v .nils)))])
 (.seq (.seq (.reg [o 0 d3 (.q (.mv s0)),
 o 1 d4 (.q (.eqp .slice false s3 (.v .nils)))])
 (.cnd s4 (.seq (.reg [o 0 d2 (.q (.mv (.v .nils)))])
 .ret) .skip))
 (.seq (.reg [o 0 d5 (.e (.bsl [] [] 0 1)),
 o 1 d6 (.q (.mv s0)),
 o 2 d7 (.e (.app s5 s6 1 1 false)),
 o 3 d2 (.q (.mv s7))])
 .ret)))
 [.t p2]

noncomputable def f74 : FnE := .code 10
 (.seq (.reg [o 0 d4 (.q (.mv (.v .nils)))])
 (.seq (.reg [o 0 d5 (.q (.mv s0)),
 o 1 d6 (.call p73 [s5]),
 o 2 d7 (.q (.mv s1)),
 o 3 d8 (.q (.cvi .u64 s7)),
 o 4 d9 (.call p113 [s6, s8, (.v (.int .i64 (.ofNat 4)))]),
 o 5 d4 (.q (.mv s9))])
 .ret))
 [.t p4]

noncomputable def f75 : FnE := .code 9
 (.seq (.reg [o 0 d4 (.q (.mv (.v .nils)))])
 (.seq (.reg [o 0 d5 (.q (.mv s0)),
 o 1 d6 (.call p73 [s5]),
 o 2 d7 (.q (.mv s1)),
 o 3 d8 (.call p113 [s6, s7, (.v (.int .i64 (.ofNat 8)))]),
 o 4 d4 (.q (.mv s8))])
 .ret))
 [.t p4]

noncomputable def f76 : FnE := .code 9
 (.seq (.reg [o 0 d2 (.q (.mv (.v .nilm)))])
 (.seq (.seq (.reg [o 0 d3 (.q (.mv s0)),
 o 1 d4 (.q (.eqp .map false s3 (.v .nilm)))])
 (.cnd s4 (.seq (.reg [o 0 d2 (.q (.mv (.v .nilm)))])
 .ret) .skip))
 (.seq (.reg [o 0 d5 (.q (.mv s0)),
 o 1 d6 (.q (.mki 87 s5)),
 o 2 d7 (.call p83 [s6]),
 o 3 d8 (.q (.tas s7 87 .nilm false)),
 o 4 d2 (.q (.mv s8))])
 .ret)))
 [.t p2]

noncomputable def f77 : FnE := .code 9
 (.seq (.reg [o 0 d2 (.q (.mv (.v .nilm)))])
 (.seq (.seq (.reg [o 0 d3 (.q (.mv s0)),
 o 1 d4 (.q (.eqp .map false s3 (.v .nilm)))])
 (.cnd s4 (.seq (.reg [o 0 d2 (.q (.mv (.v .nilm)))])
 .ret) .skip))
 (.seq (.reg [o 0 d5 (.q (.mv s0)),
 o 1 d6 (.q (.mki 88 s5)),
 o 2 d7 (.call p83 [s6]),
 o 3 d8 (.q (.tas s7 88 .nilm false)),
 o 4 d2 (.q (.mv s8))])
 .ret)))
 [.t p2]

noncomputable def f78 : FnE := .code 5
 (.seq (.reg [o 0 d2 (.q (.mv (.v .nils)))])
 (.seq (.reg [o 0 d3 (.q (.mv s0)),
 o 1 d4 (.call p114 [(.v .nils), s3]),
 o 2 d2 (.q (.mv s4))])
 .ret))
 [.t p2]

noncomputable def f79 : FnE := .code 14
 (.seq (.reg [o 0 d5 (.q (.mv s0)),
 o 1 d6 (.q (.lenv s5)),
 o 2 d4 (.q (.mv s6))])
 (.reg [o 0 d7 (.q (.mv s0)),
 o 1 d8 (.q (.mv s4)),
 o 2 d9 (.q (.mv s4)),
 o 3 d10 (.q (.cvi .u64 s9)),
 o 4 d11 (.call p116 [s10]),
 o 5 d12 (.q (.mv s1)),
 o 6 d13 (.call p115 [s7, (.v (.int .i64 (.ofNat 0))), s8, s11, s12])]))
 []

noncomputable def f80 : FnE := .code 14
 (.seq (.reg [o 0 d4 (.q (.ld1 s1)),
 o 1 d5 (.e (.rgm s4))])
 (.blk 0 (.loop (.seq (.reg [o 0 d6 (.e (.nxm s5)),
 o 1 d7 (.q (.ext s6 0))])
 (.seq (.cnd s7 .skip (.exit 0))
 (.blk 1 (.seq (.reg [o 0 d8 (.e (.ent s5)),
 o 1 d9 (.q (.ext s8 0)),
 o 2 d3 (.e (.alo (zz (.int .u8 (.ofNat 0)) 32))),
 o 3 none (.e (.st s3 s9 32))])
 (.seq (.reg [o 0 d10 (.q (.mv s0)),
 o 1 d11 (.q (.ldn s3 32)),
 o 2 d12 (.callv s10 [s11]),
 o 3 d13 (.q (.not s12))])
 (.cnd s13 .ret .skip)))))))))
 []

noncomputable def f84 : FnE := .code 7
 (.seq (.reg [o 0 d2 (.q (.mv (.v .nilp)))])
 (.seq (.reg [o 0 d3 (.q (.mv s0)),
 o 1 d4 (.call p73 [s3]),
 o 2 d5 (.q (.bld [.nils, (.int .i64 (.ofNat 0)), .nili] [(0, 1, s4)])),
 o 3 d6 (.e (.box s5 3)),
 o 4 d2 (.q (.mv s6))])
 .ret))
 [.t p2]

noncomputable def f85 : FnE := .code 62
 (.seq (.reg [o 0 d2 (.e (.alo [(.int .u32 (.ofNat 0)), .nils, .nils, (.int .u32 (.ofNat 0))]))])
 (.seq (.reg [o 0 d6 (.q (.mv s0)),
 o 1 d7 (.call p120 [s6]),
 o 2 d8 (.q (.bld [(.int .u32 (.ofNat 0)), .nils, .nils, (.int .u32 (.ofNat 0))] [(0, 1, s7)])),
 o 3 d3 (.e (.alo [(.int .u32 (.ofNat 0)), .nils, .nils, (.int .u32 (.ofNat 0))])),
 o 4 none (.e (.st s3 s8 4))])
 (.seq (.seq (.reg [o 0 d9 (.q (.mv s0)),
 o 1 d10 (.call p121 [s9, (.v (.int .u64 (.ofNat 50)))]),
 o 2 d11 (.q (.mv (.v (.int .u64 (.ofNat 0)))))])
 (.blk 0 (.loop (.seq (.reg [o 0 d12 (.q (.bin .lss s11 s10))])
 (.seq (.cnd s12 .skip (.exit 0))
 (.seq (.blk 1 (.seq (.reg [o 0 d4 (.e (.alo (lapp (zz (.int .u8 (.ofNat 0)) 32) [(.int .u32 (.ofNat 0)), .nils, (.int .u32 (.ofNat 0))])))])
 (.seq (.reg [o 0 d13 (.q (.mv s0)),
 o 1 d14 (.call p122 [s13]),
 o 2 d15 (.q (.fadr s4 0)),
 o 3 d16 (.q (.fadr s15 0)),
 o 4 none (.e (.st s16 s14 32))])
 (.seq (.reg [o 0 d17 (.q (.mv s0)),
 o 1 d18 (.call p120 [s17]),
 o 2 d19 (.q (.fadr s4 0)),
 o 3 d20 (.q (.fadr s19 32)),
 o 4 none (.e (.st s20 s18 1))])
 (.seq (.reg [o 0 d21 (.q (.mv s0)),
 o 1 d22 (.q (.mv s0)),
 o 2 d23 (.call p121 [s22, (.v (.int .u64 (.ofNat 80)))]),
 o 3 d24 (.q (.cvi .i64 s23)),
 o 4 d25 (.call p123 [s21, s24]),
 o 5 d26 (.q (.fadr s4 33)),
 o 6 none (.e (.st s26 s25 1))])
 (.seq (.reg [o 0 d27 (.q (.mv s0)),
 o 1 d28 (.call p120 [s27]),
 o 2 d29 (.q (.fadr s4 34)),
 o 3 none (.e (.st s29 s28 1))])
 (.reg [o 0 d30 (.q (.fadr s3 1)),
 o 1 d31 (.q (.ld1 s30)),
 o 2 d32 (.q (.ldn s4 35)),
 o 3 d33 (.e (.bsl (lapp (zz (.int .u8 (.ofNat 0)) 32) [(.int .u32 (.ofNat 0)), .nils, (.int .u32 (.ofNat 0))]) [(0, 35, s32)] 1 35)),
 o 4 d34 (.e (.app s31 s33 35 72 false)),
 o 5 d35 (.q (.fadr s3 1)),
 o 6 none (.e (.st s35 s34 1))])))))))
 (.reg [o 0 d36 (.q (.bin .add s11 (.v (.int .u64 (.ofNat 1))))),
 o 1 d11 (.q (.mv s36))])))))))
 (.seq (.seq (.reg [o 0 d37 (.q (.mv s0)),
 o 1 d38 (.call p121 [s37, (.v (.int .u64 (.ofNat 50)))]),
 o 2 d39 (.q (.mv (.v (.int .u64 (.ofNat 0)))))])
 (.blk 2 (.loop (.seq (.reg [o 0 d40 (.q (.bin .lss s39 s38))])
 (.seq (.cnd s40 .skip (.exit 2))
 (.seq (.blk 3 (.seq (.reg [o 0 d41 (.q (.mv s0)),
 o 1 d42 (.call p124 [s41]),
 o 2 d43 (.q (.bld (lapp [(.int .u64 (.ofNat 0))] (zz (.int .u8 (.ofNat 0)) 32)) [(0, 1, s42)])),
 o 3 d5 (.e (.alo (lapp [(.int .u64 (.ofNat 0))] (zz (.int .u8 (.ofNat 0)) 32)))),
 o 4 none (.e (.st s5 s43 33))])
 (.seq (.reg [o 0 d44 (.q (.mv s0)),
 o 1 d45 (.call p122 [s44]),
 o 2 d46 (.q (.fadr s5 1)),
 o 3 none (.e (.st s46 s45 32))])
 (.reg [o 0 d47 (.q (.fadr s3 2)),
 o 1 d48 (.q (.ld1 s47)),
 o 2 d49 (.q (.ldn s5 33)),
 o 3 d50 (.e (.bsl (lapp [(.int .u64 (.ofNat 0))] (zz (.int .u8 (.ofNat 0)) 32)) [(0, 33, s49)] 1 33)),
 o 4 d51 (.e (.app s48 s50 33 40 false)),
 o 5 d52 (.q (.fadr s3 2)),
 o 6 none (.e (.st s52 s51 1))]))))
 (.reg [o 0 d53 (.q (.bin .add s39 (.v (.int .u64 (.ofNat 1))))),
 o 1 d39 (.q (.mv s53))])))))))
 (.seq (.reg [o 0 d54 (.q (.mv s0)),
 o 1 d55 (.call p120 [s54]),
 o 2 d56 (.q (.fadr s3 3)),
 o 3 none (.e (.st s56 s55 1))])
 (.seq (.seq (.reg [o 0 d57 (.q (.mv s0)),
 o 1 d58 (.call p86 [s57]),
 o 2 d59 (.q (.eqp (.iface true) true s58 (.v .nili)))])
 (.cnd s59 (.seq (.reg [o 0 d60 (.q (.bld [(.int .u32 (.ofNat 0)), .nils, .nils, (.int .u32 (.ofNat 0))] [])),
 o 1 none (.e (.st s2 s60 4))])
 .ret) .skip))
 (.seq (.reg [o 0 d61 (.q (.ldn s3 4)),
 o 1 none (.e (.st s2 s61 4))])
 .ret)))))))
 [.cn p2 4]

noncomputable def f86 : FnE := .code 7
 (.seq (.reg [o 0 d2 (.q (.mv (.v .nili)))])
 (.seq (.reg [o 0 d3 (.q (.mv s0)),
 o 1 d4 (.q (.nck s3)),
 o 2 d5 (.q (.fadr s4 2)),
 o 3 d6 (.q (.ld1 s5)),
 o 4 d2 (.q (.mv s6))])
 .ret))
 [.t p2]

noncomputable def f91 : FnE := .code 6
 (.seq (.reg [o 0 d1 (.e (.box s0 4)),
 o 1 d2 (.e (.alo (zz (.int .u8 (.ofNat 0)) 32)))])
 (.seq (.reg [o 0 d3 (.q (.ldn s1 4)),
 o 1 d4 (.call p130 [s3]),
 o 2 d5 (.call p98 [s4]),
 o 3 none (.e (.st s2 s5 32))])
 .ret))
 [.cn p2 32]

noncomputable def f93 : FnE := .code 36
 (.seq (.reg [o 0 d2 (.q (.mv (.v .nils)))])
 (.seq (.reg [o 0 d3 (.q (.mv (.v (.int .i64 (.ofNat 0)))))])
 (.seq (.seq (.reg [o 0 d9 (.q (.mv s0)),
 o 1 d10 (.q (.lenv s9)),
 o 2 d11 (.q (.mv (.v (.int .i64 (.ofNat 0)))))])
 (.blk 0 (.loop (.seq (.reg [o 0 d12 (.q (.bin .lss s11 s10))])
 (.seq (.cnd s12 .skip (.exit 0))
 (.seq (.blk 1 (.seq (.reg [o 0 d13 (.q (.iadr s9 s11 1)),
 o 1 d14 (.q (.ld1 s13)),
 o 2 d5 (.q (.mv s14))])
 (.seq (.reg [o 0 d15 (.q (.mv s3)),
 o 1 d16 (.q (.mv s5)),
 o 2 d17 (.q (.lenv s16)),
 o 3 d18 (.q (.bin .add s15 s17)),
 o 4 d3 (.q (.mv s18))])
 (.seq (.reg [o 0 d19 (.q (.mv s3)),
 o 1 d20 (.q (.bin .lss s19 (.v (.int .i64 (.ofNat 0)))))])
 (.cnd s20 (.reg [o 0 d21 (.q (.mki 9 (.v (.str [108, 101, 110, 32, 111, 117, 116, 32, 111, 102, 32, 114, 97, 110, 103, 101])))),
 o 1 none .bad]) .skip)))))
 (.reg [o 0 d22 (.q (.bin .add s11 (.v (.int .i64 (.ofNat 1))))),
 o 1 d11 (.q (.mv s22))])))))))
 (.seq (.reg [o 0 d23 (.q (.mv s3)),
 o 1 d24 (.call p132 [(.v .nils), s23]),
 o 2 d6 (.q (.mv s24))])
 (.seq (.seq (.reg [o 0 d25 (.q (.mv s0)),
 o 1 d26 (.q (.lenv s25)),
 o 2 d27 (.q (.mv (.v (.int .i64 (.ofNat 0)))))])
 (.blk 2 (.loop (.seq (.reg [o 0 d28 (.q (.bin .lss s27 s26))])
 (.seq (.cnd s28 .skip (.exit 2))
 (.seq (.blk 3 (.seq (.reg [o 0 d29 (.q (.iadr s25 s27 1)),
 o 1 d30 (.q (.ld1 s29)),
 o 2 d8 (.q (.mv s30))])
 (.reg [o 0 d31 (.q (.mv s6)),
 o 1 d32 (.q (.mv s8)),
 o 2 d33 (.e (.app s31 s32 1 1 false)),
 o 3 d6 (.q (.mv s33))])))
 (.reg [o 0 d34 (.q (.bin .add s27 (.v (.int .i64 (.ofNat 1))))),
 o 1 d27 (.q (.mv s34))])))))))
 (.seq (.reg [o 0 d35 (.q (.mv s6)),
 o 1 d2 (.q (.mv s35))])
 .ret))))))
 [.t p2]

noncomputable def f94 : FnE := .code 2
 (.seq (.reg [o 0 d0 (.e (.alo (lapp (zz (.int .u8 (.ofNat 0)) 32) [(.int .u32 (.ofNat 0))])))])
 (.seq (.reg [o 0 d1 (.q (.bld (lapp (zz (.int .u8 (.ofNat 0)) 32) [(.int .u32 (.ofNat 0))]) [(32, 1, (.v (.int .u32 (.ofNat 4294967295))))])),
 o 1 none (.e (.st s0 s1 33))])
 .ret))
 [.cn p0 33]

noncomputable def f95 : FnE := .code 7
 (.seq (.reg [o 0 d2 (.e (.alo (zz (.int .u8 (.ofNat 0)) 32)))])
 (.seq (.reg [o 0 d3 (.e (.alo [(.int .u32 (.ofNat 0)), (.int .u32 (.ofNat 0)), (.int .u32 (.ofNat 0)), (.int .u32 (.ofNat 0)), (.int .u32 (.ofNat 0)), (.int .u32 (.ofNat 0)), (.int .u32 (.ofNat 0)), (.int .u32 (.ofNat 0)), .nils, (.int .i64 (.ofNat 0))]))])
 (.seq (.reg [o 0 d4 (.q (.mv s0)),
 o 1 d5 (.call p42 [s3, s4])])
 (.seq (.reg [o 0 d6 (.call p44 [s3]),
 o 1 none (.e (.st s2 s6 32))])
 .ret))))
 [.cn p2 32]

noncomputable def f96 : FnE := .code 17
 (.seq (.reg [o 0 d2 (.e (.alo (zz (.int .u8 (.ofNat 0)) 32)))])
 (.seq (.seq (.reg [o 0 d4 (.q (.mv s0)),
 o 1 d5 (.q (.lenv s4)),
 o 2 d6 (.q (.bin .eql s5 (.v (.int .i64 (.ofNat 0)))))])
 (.cnd s6 (.seq (.reg [o 0 d7 (.q (.bld (zz (.int .u8 (.ofNat 0)) 32) [])),
 o 1 none (.e (.st s2 s7 32))])
 .ret) .skip))
 (.seq (.reg [o 0 d8 (.q (.mv s0)),
 o 1 d3 (.q (.mv s8))])
 (.seq (.blk 0 (.loop (.seq (.seq (.reg [o 0 d9 (.q (.mv s3)),
 o 1 d10 (.q (.lenv s9)),
 o 2 d11 (.q (.bin .gtr s10 (.v (.int .i64 (.ofNat 1)))))])
 (.cnd s11 .skip (.exit 0)))
 (.blk 1 (.reg [o 0 d12 (.q (.mv s3)),
 o 1 d13 (.call p133 [s12]),
 o 2 d3 (.q (.mv s13))])))))
 (.seq (.reg [o 0 d14 (.q (.mv s3)),
 o 1 d15 (.q (.iadr s14 (.v (.int .i64 (.ofNat 0))) 32)),
 o 2 d16 (.q (.ldn s15 32)),
 o 3 none (.e (.st s2 s16 32))])
 .ret)))))
 [.cn p2 32]

noncomputable def f97 : FnE := .code 20
 (.seq (.reg [o 0 d1 (.e (.box s0 69)),
 o 1 d2 (.q (.mv (.v .nils)))])
 (.seq (.reg [o 0 d3 (.q (.mv (.v .nils)))])
 (.seq (.seq (.reg [o 0 d6 (.q (.fadr s1 68)),
 o 1 d7 (.q (.ld1 s6)),
 o 2 d8 (.q (.lenv s7)),
 o 3 d9 (.q (.mv (.v (.int .i64 (.ofNat 0)))))])
 (.blk 0 (.loop (.seq (.reg [o 0 d10 (.q (.bin .lss s9 s8))])
 (.seq (.cnd s10 .skip (.exit 0))
 (.seq (.blk 1 (.seq (.reg [o 0 d11 (.q (.iadr s7 s9 4)),
 o 1 d12 (.q (.ldn s11 4)),
 o 2 d5 (.e (.alo [(.int .u32 (.ofNat 0)), .nils, .nils, (.int .u32 (.ofNat 0))])),
 o 3 none (.e (.st s5 s12 4))])
 (.reg [o 0 d13 (.q (.mv s3)),
 o 1 d14 (.q (.ldn s5 4)),
 o 2 d15 (.call p91 [s14]),
 o 3 d16 (.e (.bsl (zz (.int .u8 (.ofNat 0)) 32) [(0, 32, s15)] 1 32)),
 o 4 d17 (.e (.app s13 s16 32 32 false)),
 o 5 d3 (.q (.mv s17))])))
 (.reg [o 0 d18 (.q (.bin .add s9 (.v (.int .i64 (.ofNat 1))))),
 o 1 d9 (.q (.mv s18))])))))))
 (.seq (.reg [o 0 d19 (.q (.mv s3)),
 o 1 d2 (.q (.mv s19))])
 .ret))))
 [.t p2]

noncomputable def f98 : FnE := .code 8
 (.seq (.reg [o 0 d2 (.e (.alo (zz (.int .u8 (.ofNat 0)) 32)))])
 (.seq (.reg [o 0 d4 (.q (.mv s0)),
 o 1 d5 (.call p95 [s4]),
 o 2 d3 (.e (.alo (zz (.int .u8 (.ofNat 0)) 32))),
 o 3 none (.e (.st s3 s5 32))])
 (.seq (.reg [o 0 d6 (.q (.slca s3 none none 1 32)),
 o 1 d7 (.call p95 [s6]),
 o 2 none (.e (.st s2 s7 32))])
 .ret)))
 [.cn p2 32]

noncomputable def f99 : FnE := .code 23
 (.seq (.reg [o 0 d1 (.e (.box s0 68)),
 o 1 d2 (.q (.mv (.v .nils)))])
 (.seq (.rgd 0 [o 0 d4 (.q (.fadr s1 0)),
 o 1 d5 (.q (.ld1 s4)),
 o 3 d7 (.q (.fadr s1 1)),
 o 4 d8 (.q (.slca s7 none none 1 32)),
 o 5 d9 (.q (.fadr s1 33)),
 o 6 d10 (.q (.slca s9 none none 1 32)),
 ⟨2, d6, (.call p74 [(.v .nils), s5]), none, [(p8, .slca s7 none none 1 32, none), (p10, .slca s9 none none 1 32, none)]⟩,
 o 7 d11 (.e (.bsl [.nils, .nils, .nils] [(0, 1, s6), (1, 1, s8), (2, 1, s10)] 3 1)),
 o 8 d12 (.call p93 [s11]),
 o 9 d3 (.q (.mv s12))])
 (.seq (.rgd 0 [o 0 d13 (.q (.mv s3)),
 o 1 d14 (.q (.fadr s1 65)),
 o 2 d15 (.q (.ld1 s14)),
 o 4 d17 (.q (.fadr s1 66)),
 o 5 d18 (.q (.ld1 s17)),
 o 7 d20 (.q (.fadr s1 67)),
 o 8 d21 (.q (.ld1 s20)),
 ⟨3, d16, (.call p74 [s13, s15]), none, [(p18, .ld1 s17, none), (p21, .ld1 s20, none)]⟩,
 ⟨6, d19, (.call p74 [s16, s18]), none, [(p21, .ld1 s20, none)]⟩,
 o 9 d22 (.call p74 [s19, s21]),
 o 10 d2 (.q (.mv s22))])
 .ret)))
 [.t p2]

noncomputable def f100 : FnE := .code 27
 (.seq (.reg [o 0 d0 (.q (.mv (.v .nils)))])
 (.seq (.reg [o 0 d1 (.q (.ld1 (.g p3))),
 o 1 d2 (.q (.ld1 (.g p1))),
 o 2 d3 (.q (.ld1 (.g p4))),
 o 3 d4 (.q (.ld1 (.g p5))),
 o 4 d5 (.q (.ld1 (.g p6))),
 o 5 d6 (.q (.ld1 (.g p7))),
 o 6 d7 (.q (.ld1 (.g p8))),
 o 7 d8 (.q (.ld1 (.g p9))),
 o 8 d9 (.q (.ld1 (.g p10))),
 o 9 d10 (.q (.ld1 (.g p11))),
 o 10 d11 (.q (.ld1 (.g p12))),
 o 11 d12 (.q (.ld1 (.g p13))),
 o 12 d13 (.q (.ld1 (.g p14))),
 o 13 d14 (.q (.ld1 (.g p15))),
 o 14 d15 (.q (.ld1 (.g p16))),
 o 15 d16 (.q (.ld1 (.g p17))),
 o 16 d17 (.q (.ld1 (.g p18))),
 o 17 d18 (.q (.ld1 (.g p19))),
 o 18 d19 (.q (.ld1 (.g p20))),
 o 19 d20 (.q (.ld1 (.g p21))),
 o 20 d21 (.q (.ld1 (.g p2))),
 o 21 d22 (.q (.ld1 (.g p0))),
 o 22 d23 (.q (.ld1 (.g p22))),
 o 23 d24 (.q (.ld1 (.g p23))),
 o 24 d25 (.q (.ld1 (.g p24))),
 o 25 d26 (.e (.bsl (zz .nili 25) [(0, 1, s1), (1, 1, s2), (2, 1, s3), (3, 1, s4), (4, 1, s5), (5, 1, s6), (6, 1, s7), (7, 1, s8), (8, 1, s9), (9, 1, s10), (10, 1, s11), (11, 1, s12), (12, 1, s13), (13, 1, s14), (14, 1, s15), (15, 1, s16), (16, 1, s17), (17, 1, s18), (18, 1, s19), (19, 1, s20), (20, 1, s21), (21, 1, s22), (22, 1, s23), (23, 1, s24), (24, 1, s25)] 25 1)),
 o 26 d0 (.q (.mv s26))])
 .ret))
 [.t p0]

noncomputable def f101 : FnE := .code 20
 (.seq (.reg [o 0 d4 (.q (.mv (.v (.bool false))))])
 (.seq (.seq (.reg [o 0 d5 (.q (.mv s0)),
 o 1 d6 (.q (.eqp (.iface true) false s5 (.v .nili))),
 o 2 d7 (.q (.mv s6)),
 ⟨3, d8, (.q (.mv s1)), (some (p7, false)), []⟩,
 ⟨4, d9, (.q (.eqp (.iface true) false s8 (.v .nili))), (some (p7, false)), []⟩,
 o 5 d10 (.q (.pick s7 (.v (.bool true)) s9))])
 (.cnd s10 (.seq (.reg [o 0 d11 (.q (.mv s0)),
 o 1 d12 (.q (.eqp (.iface true) false s11 (.v .nili))),
 o 2 d13 (.q (.mv s12)),
 ⟨3, d14, (.q (.mv s1)), (some (p13, true)), []⟩,
 ⟨4, d15, (.q (.eqp (.iface true) false s14 (.v .nili))), (some (p13, true)), []⟩,
 o 5 d16 (.q (.pick s13 s15 (.v (.bool false)))),
 o 6 d4 (.q (.mv s16))])
 .ret) .skip))
 (.seq (.reg [o 0 d17 (.q (.mv s0)),
 o 1 d18 (.q (.mv s1)),
 o 2 d19 (.q (.eqp (.iface false) false s17 s18)),
 o 3 d4 (.q (.mv s19))])
 .ret)))
 [.t p4]

noncomputable def f102 : FnE := .code 23
 (.seq (.reg [o 0 d3 (.e (.box s1 32)),
 o 1 d4 (.e (.alo (lapp [(.int .u32 (.ofNat 0))] (lapp (zz (.int .u8 (.ofNat 0)) 32) [(.int .u8 (.ofNat 0)), (.int .u8 (.ofNat 0)), (.int .u8 (.ofNat 0)), (.int .u8 (.ofNat 0)), (.int .u8 (.ofNat 0)), (.int .u8 (.ofNat 0)), (.int .u8 (.ofNat 0)), (.int .u8 (.ofNat 0)), (.int .u8 (.ofNat 0)), (.int .u8 (.ofNat 0)), (.int .u8 (.ofNat 0)), (.int .u8 (.ofNat 0)), (.int .u8 (.ofNat 0)), (.int .u8 (.ofNat 0)), (.int .u8 (.ofNat 0)), (.int .u8 (.ofNat 0)), (.int .u8 (.ofNat 0)), (.int .u8 (.ofNat 0)), (.int .u8 (.ofNat 0)), (.int .u8 (.ofNat 0)), (.int .u8 (.ofNat 0)), (.int .u8 (.ofNat 0)), (.int .u8 (.ofNat 0)), (.int .u8 (.ofNat 0)), (.int .u8 (.ofNat 0)), (.int .u8 (.ofNat 0)), (.int .u8 (.ofNat 0)), (.int .u8 (.ofNat 0)), (.int .u8 (.ofNat 0)), (.int .u8 (.ofNat 0)), (.int .u8 (.ofNat 0)), (.int .u8 (.ofNat 0)), (.int .u32 (.ofNat 0)), (.int .u32 (.ofNat 0)), (.int .u32 (.ofNat 0))])))),
 o 2 d5 (.q (.mv (.v (.bool false))))])
 (.seq (.seq (.rgd 0 [o 0 d9 (.q (.mv s0)),
 o 1 d10 (.q (.nck s9)),
 o 2 d11 (.q (.fadr s10 0)),
 o 3 d12 (.q (.ld1 s11)),
 o 4 d13 (.q (.ldn s3 32)),
 o 5 d14 (.q (.lkp s12 s13 (.cells (kk .u8 32)) .nilp true)),
 o 6 d8 (.q (.mv s14)),
 o 7 d15 (.q (.ext s8 0)),
 o 8 d16 (.q (.ext s8 1)),
 o 9 d6 (.q (.mv s15)),
 o 10 d7 (.q (.mv s16))])
 (.seq (.reg [o 0 d17 (.q (.mv s7))])
 (.cnd s17 (.seq (.reg [o 0 d18 (.q (.mv s6)),
 o 1 d19 (.q (.nck s18)),
 o 2 d20 (.q (.fadr s19 0)),
 o 3 d21 (.q (.ldn s20 68)),
 o 4 none (.e (.st s4 s21 68)),
 o 5 d5 (.q (.mv (.v (.bool true))))])
 .ret) .skip)))
 (.seq (.reg [o 0 d22 (.q (.bld (lapp [(.int .u32 (.ofNat 0))] (lapp (zz (.int .u8 (.ofNat 0)) 32) [(.int .u8 (.ofNat 0)), (.int .u8 (.ofNat 0)), (.int .u8 (.ofNat 0)), (.int .u8 (.ofNat 0)), (.int .u8 (.ofNat 0)), (.int .u8 (.ofNat 0)), (.int .u8 (.ofNat 0)), (.int .u8 (.ofNat 0)), (.int .u8 (.ofNat 0)), (.int .u8 (.ofNat 0)), (.int .u8 (.ofNat 0)), (.int .u8 (.ofNat 0)), (.int .u8 (.ofNat 0)), (.int .u8 (.ofNat 0)), (.int .u8 (.ofNat 0)), (.int .u8 (.ofNat 0)), (.int .u8 (.ofNat 0)), (.int .u8 (.ofNat 0)), (.int .u8 (.ofNat 0)), (.int .u8 (.ofNat 0)), (.int .u8 (.ofNat 0)), (.int .u8 (.ofNat 0)), (.int .u8 (.ofNat 0)), (.int .u8 (.ofNat 0)), (.int .u8 (.ofNat 0)), (.int .u8 (.ofNat 0)), (.int .u8 (.ofNat 0)), (.int .u8 (.ofNat 0)), (.int .u8 (.ofNat 0)), (.int .u8 (.ofNat 0)), (.int .u8 (.ofNat 0)), (.int .u8 (.ofNat 0)), (.int .u32 (.ofNat 0)), (.int .u32 (.ofNat 0)), (.int .u32 (.ofNat 0))])) [])),
 o 1 none (.e (.st s4 s22 68)),
 o 2 d5 (.q (.mv (.v (.bool false))))])
 .ret)))
 [.cn p4 68, .t p5]

noncomputable def f103 : FnE := .code 28
 (.seq (.reg [o 0 d4 (.q (.mv s0)),
 o 1 d5 (.q (.lenv s4)),
 o 2 d6 (.q (.bin .sub s5 (.v (.int .i64 (.ofNat 1))))),
 o 3 d2 (.q (.mv (.v (.int .i64 (.ofNat 0))))),
 o 4 d3 (.q (.mv s6))])
 (.blk 0 (.loop (.seq (.seq (.reg [o 0 d7 (.q (.mv s2)),
 o 1 d8 (.q (.mv s3)),
 o 2 d9 (.q (.bin .lss s7 s8))])
 (.cnd s9 .skip (.exit 0)))
 (.seq (.blk 1 (.rgd 0 [o 0 d14 (.q (.mv s0)),
 o 1 d15 (.q (.mv s2)),
 o 2 d16 (.q (.mv s0)),
 o 3 d17 (.q (.mv s3)),
 o 4 d18 (.q (.mv s0)),
 o 5 d19 (.q (.mv s3)),
 o 6 d20 (.q (.iadr s18 s19 1)),
 o 7 d21 (.q (.ld1 s20)),
 o 8 d22 (.q (.mv s0)),
 o 9 d23 (.q (.mv s2)),
 o 10 d24 (.q (.iadr s22 s23 1)),
 o 11 d25 (.q (.ld1 s24)),
 o 12 d26 (.q (.iadr s14 s15 1)),
 o 13 none (.e (.st s26 s21 1)),
 o 14 d27 (.q (.iadr s16 s17 1)),
 o 15 none (.e (.st s27 s25 1))]))
 (.reg [o 0 d10 (.q (.mv s2)),
 o 1 d11 (.q (.bin .add s10 (.v (.int .i64 (.ofNat 1))))),
 o 2 d12 (.q (.mv s3)),
 o 3 d13 (.q (.bin .sub s12 (.v (.int .i64 (.ofNat 1))))),
 o 4 d2 (.q (.mv s11)),
 o 5 d3 (.q (.mv s13))]))))))
 []

noncomputable def f104 : FnE := .code 8
 (.seq (.reg [o 0 d2 (.q (.mv (.v .nils)))])
 (.seq (.seq (.reg [o 0 d3 (.q (.mv s0)),
 o 1 d4 (.q (.eqp .slice false s3 (.v .nils)))])
 (.cnd s4 (.seq (.reg [o 0 d2 (.q (.mv (.v .nils)))])
 .ret) .skip))
 (.seq (.reg [o 0 d5 (.e (.bsl [] [] 0 1)),
 o 1 d6 (.q (.mv s0)),
 o 2 d7 (.e (.app s5 s6 1 4 false)),
 o 3 d2 (.q (.mv s7))])
 .ret)))
 [.t p2]

noncomputable def f105 : FnE := .code 11
 (.seq (.reg [o 0 d3 (.q (.mv s0)),
 o 1 d4 (.q (.lenv s3)),
 o 2 d2 (.q (.mv s4))])
 (.reg [o 0 d5 (.q (.mv s0)),
 o 1 d6 (.q (.mv s2)),
 o 2 d7 (.q (.mv s2)),
 o 3 d8 (.q (.cvi .u64 s7)),
 o 4 d9 (.call p116 [s8]),
 o 5 d10 (.call p134 [s5, (.v (.int .i64 (.ofNat 0))), s6, s9])]))
 []

noncomputable def f106 : FnE := .code 5
 (.seq (.reg [o 0 d2 (.q (.mv (.v .nils)))])
 (.seq (.reg [o 0 d3 (.q (.mv s0)),
 o 1 d4 (.call p135 [(.v .nils), s3]),
 o 2 d2 (.q (.mv s4))])
 .ret))
 [.t p2]

noncomputable def f107 : FnE := .code 14
 (.seq (.reg [o 0 d5 (.q (.mv s0)),
 o 1 d6 (.q (.lenv s5)),
 o 2 d4 (.q (.mv s6))])
 (.reg [o 0 d7 (.q (.mv s0)),
 o 1 d8 (.q (.mv s4)),
 o 2 d9 (.q (.mv s4)),
 o 3 d10 (.q (.cvi .u64 s9)),
 o 4 d11 (.call p116 [s10]),
 o 5 d12 (.q (.mv s1)),
 o 6 d13 (.call p136 [s7, (.v (.int .i64 (.ofNat 0))), s8, s11, s12])]))
 []

noncomputable def f108 : FnE := .code 14
 (.seq (.reg [o 0 d4 (.q (.ld1 s1)),
 o 1 d5 (.e (.rgm s4))])
 (.blk 0 (.loop (.seq (.reg [o 0 d6 (.e (.nxm s5)),
 o 1 d7 (.q (.ext s6 0))])
 (.seq (.cnd s7 .skip (.exit 0))
 (.blk 1 (.seq (.reg [o 0 d8 (.e (.ent s5)),
 o 1 d9 (.q (.ext s8 0)),
 o 2 d3 (.e (.alo (lapp (zz (.int .u8 (.ofNat 0)) 32) [(.int .u32 (.ofNat 0))]))),
 o 3 none (.e (.st s3 s9 33))])
 (.seq (.reg [o 0 d10 (.q (.mv s0)),
 o 1 d11 (.q (.ldn s3 33)),
 o 2 d12 (.callv s10 [s11]),
 o 3 d13 (.q (.not s12))])
 (.cnd s13 .ret .skip)))))))))
 []

noncomputable def f109 : FnE := .code 2
 (.seq (.reg [o 0 d0 (.e (.alo (zz (.int .u32 (.ofNat 0)) 8)))])
 (.seq (.reg [o 0 d1 (.q (.bld (zz (.int .u32 (.ofNat 0)) 8) [(0, 1, (.v (.int .u32 (.ofNat 1779033703)))), (1, 1, (.v (.int .u32 (.ofNat 3144134277)))), (2, 1, (.v (.int .u32 (.ofNat 1013904242)))), (3, 1, (.v (.int .u32 (.ofNat 2773480762)))), (4, 1, (.v (.int .u32 (.ofNat 1359893119)))), (5, 1, (.v (.int .u32 (.ofNat 2600822924)))), (6, 1, (.v (.int .u32 (.ofNat 528734635)))), (7, 1, (.v (.int .u32 (.ofNat 1541459225))))])),
 o 1 none (.e (.st s0 s1 8))])
 .ret))
 [.cn p0 8]

noncomputable def f110 : FnE := .code 80
 (.seq (.reg [o 0 d2 (.e (.alo (zz (.int .u32 (.ofNat 0)) 64)))])
 (.seq (.reg [o 0 d3 (.e (.alo (zz (.int .u32 (.ofNat 0)) 64)))])
 (.seq (.seq (.reg [o 0 d8 (.q (.mv (.v (.int .i64 (.ofNat 0)))))])
 (.blk 0 (.loop (.seq (.reg [o 0 d9 (.q (.bin .lss s8 (.v (.int .i64 (.ofNat 64)))))])
 (.seq (.cnd s9 .skip (.exit 0))
 (.seq (.blk 1 (.seq (.reg [o 0 d10 (.q (.mv s8)),
 o 1 d4 (.q (.mv s10))])
 (.seq (.seq (.reg [o 0 d11 (.q (.mv s4)),
 o 1 d12 (.q (.bin .lss s11 (.v (.int .i64 (.ofNat 16)))))])
 (.cnd s12 (.seq (.reg [o 0 d13 (.q (.mv s0)),
 o 1 d14 (.q (.mv s4)),
 o 2 d15 (.q (.bin .mul (.v (.int .i64 (.ofNat 4))) s14)),
 o 3 d16 (.q (.slc s13 (some s15) none 1)),
 o 4 d5 (.q (.mv s16))])
 (.seq (.rgd 0 [o 0 d17 (.q (.mv s4)),
 o 1 d18 (.q (.mv s5)),
 o 2 d19 (.q (.iadr s18 (.v (.int .i64 (.ofNat 0))) 1)),
 o 3 d20 (.q (.ld1 s19)),
 o 4 d21 (.q (.cvi .u32 s20)),
 o 5 d22 (.q (.shf true s21 (.v (.int .u64 (.ofNat 24))))),
 o 6 d23 (.q (.mv s5)),
 o 7 d24 (.q (.iadr s23 (.v (.int .i64 (.ofNat 1))) 1)),
 o 8 d25 (.q (.ld1 s24)),
 o 9 d26 (.q (.cvi .u32 s25)),
 o 10 d27 (.q (.shf true s26 (.v (.int .u64 (.ofNat 16))))),
 o 11 d28 (.q (.bin .or s22 s27)),
 o 12 d29 (.q (.mv s5)),
 o 13 d30 (.q (.iadr s29 (.v (.int .i64 (.ofNat 2))) 1)),
 o 14 d31 (.q (.ld1 s30)),
 o 15 d32 (.q (.cvi .u32 s31)),
 o 16 d33 (.q (.shf true s32 (.v (.int .u64 (.ofNat 8))))),
 o 17 d34 (.q (.bin .or s28 s33)),
 o 18 d35 (.q (.mv s5)),
 o 19 d36 (.q (.iadr s35 (.v (.int .i64 (.ofNat 3))) 1)),
 o 20 d37 (.q (.ld1 s36)),
 o 21 d38 (.q (.cvi .u32 s37)),
 o 22 d39 (.q (.bin .or s34 s38)),
 o 23 d40 (.q (.iada s3 s17 1 64)),
 o 24 none (.e (.st s40 s39 1))])
 (.exit 1))) .skip))
 (.seq (.rgd 0 [o 0 d41 (.q (.mv s4)),
 o 1 d42 (.q (.bin .sub s41 (.v (.int .i64 (.ofNat 2))))),
 o 2 d43 (.q (.iada s3 s42 1 64)),
 o 3 d44 (.q (.ld1 s43)),
 o 4 d45 (.q (.mv s4)),
 o 5 d46 (.q (.bin .sub s45 (.v (.int .i64 (.ofNat 15))))),
 o 6 d47 (.q (.iada s3 s46 1 64)),
 o 7 d48 (.q (.ld1 s47)),
 o 8 d6 (.q (.mv s44)),
 o 9 d7 (.q (.mv s48))])
 (.rgd 0 [o 0 d49 (.q (.mv s4)),
 o 1 d50 (.q (.mv s6)),
 o 3 d52 (.q (.mv s6)),
 o 6 d55 (.q (.mv s6)),
 o 7 d56 (.q (.shf false s55 (.v (.int .u64 (.ofNat 10))))),
 o 9 d58 (.q (.mv s4)),
 o 10 d59 (.q (.bin .sub s58 (.v (.int .i64 (.ofNat 7))))),
 o 11 d60 (.q (.iada s3 s59 1 64)),
 o 12 d61 (.q (.ld1 s60)),
 o 14 d63 (.q (.mv s7)),
 o 16 d65 (.q (.mv s7)),
 o 19 d68 (.q (.mv s7)),
 o 20 d69 (.q (.shf false s68 (.v (.int .u64 (.ofNat 3))))),
 o 23 d72 (.q (.mv s4)),
 o 24 d73 (.q (.bin .sub s72 (.v (.int .i64 (.ofNat 16))))),
 o 25 d74 (.q (.iada s3 s73 1 64)),
 o 26 d75 (.q (.ld1 s74)),
 ⟨2, d51, (.call p112 [s50, (.v (.int .i64 (.ofNat 17)))]), none, [(p61, .ld1 s60, none), (p75, .ld1 s74, none)]⟩,
 ⟨4, d53, (.call p112 [s52, (.v (.int .i64 (.ofNat 19)))]), none, [(p61, .ld1 s60, none), (p75, .ld1 s74, none)]⟩,
 o 5 d54 (.q (.bin .xor s51 s53)),
 o 8 d57 (.q (.bin .xor s54 s56)),
 o 13 d62 (.q (.bin .add s57 s61)),
 ⟨15, d64, (.call p112 [s63, (.v (.int .i64 (.ofNat 7)))]), none, [(p61, .ld1 s60, none), (p75, .ld1 s74, none)]⟩,
 ⟨17, d66, (.call p112 [s65, (.v (.int .i64 (.ofNat 18)))]), none, [(p61, .ld1 s60, none), (p75, .ld1 s74, none)]⟩,
 o 18 d67 (.q (.bin .xor s64 s66)),
 o 21 d70 (.q (.bin .xor s67 s69)),
 o 22 d71 (.q (.bin .add s62 s70)),
 o 27 d76 (.q (.bin .add s71 s75)),
 o 28 d77 (.q (.iada s3 s49 1 64)),
 o 29 none (.e (.st s77 s76 1))])))))
 (.reg [o 0 d78 (.q (.bin .add s8 (.v (.int .i64 (.ofNat 1))))),
 o 1 d8 (.q (.mv s78))])))))))
 (.seq (.reg [o 0 d79 (.q (.ldn s3 64)),
 o 1 none (.e (.st s2 s79 64))])
 .ret))))
 [.cn p2 64]

noncomputable def f111 : FnE := .code 2
 (.seq (.reg [o 0 d0 (.e (.alo (zz (.int .u32 (.ofNat 0)) 64)))])
 (.seq (.reg [o 0 d1 (.q (.bld (zz (.int .u32 (.ofNat 0)) 64) [(0, 1, (.v (.int .u32 (.ofNat 1116352408)))), (1, 1, (.v (.int .u32 (.ofNat 1899447441)))), (2, 1, (.v (.int .u32 (.ofNat 3049323471)))), (3, 1, (.v (.int .u32 (.ofNat 3921009573)))), (4, 1, (.v (.int .u32 (.ofNat 961987163)))), (5, 1, (.v (.int .u32 (.ofNat 1508970993)))), (6, 1, (.v (.int .u32 (.ofNat 2453635748)))), (7, 1, (.v (.int .u32 (.ofNat 2870763221)))), (8, 1, (.v (.int .u32 (.ofNat 3624381080)))), (9, 1, (.v (.int .u32 (.ofNat 310598401)))), (10, 1, (.v (.int .u32 (.ofNat 607225278)))), (11, 1, (.v (.int .u32 (.ofNat 1426881987)))), (12, 1, (.v (.int .u32 (.ofNat 1925078388)))), (13, 1, (.v (.int .u32 (.ofNat 2162078206)))), (14, 1, (.v (.int .u32 (.ofNat 2614888103)))), (15, 1, (.v (.int .u32 (.ofNat 3248222580)))), (16, 1, (.v (.int .u32 (.ofNat 3835390401)))), (17, 1, (.v (.int .u32 (.ofNat 4022224774)))), (18, 1, (.v (.int .u32 (.ofNat 264347078)))), (19, 1, (.v (.int .u32 (.ofNat 604807628)))), (20, 1, (.v (.int .u32 (.ofNat 770255983)))), (21, 1, (.v (.int .u32 (.ofNat 1249150122)))), (22, 1, (.v (.int .u32 (.ofNat 1555081692)))), (23, 1, (.v (.int .u32 (.ofNat 1996064986)))), (24, 1, (.v (.int .u32 (.ofNat 2554220882)))), (25, 1, (.v (.int .u32 (.ofNat 2821834349)))), (26, 1, (.v (.int .u32 (.ofNat 2952996808)))), (27, 1, (.v (.int .u32 (.ofNat 3210313671)))), (28, 1, (.v (.int .u32 (.ofNat 3336571891)))), (29, 1, (.v (.int .u32 (.ofNat 3584528711)))), (30, 1, (.v (.int .u32 (.ofNat 113926993)))), (31, 1, (.v (.int .u32 (.ofNat 338241895)))), (32, 1, (.v (.int .u32 (.ofNat 666307205)))), (33, 1, (.v (.int .u32 (.ofNat 773529912)))), (34, 1, (.v (.int .u32 (.ofNat 1294757372)))), (35, 1, (.v (.int .u32 (.ofNat 1396182291)))), (36, 1, (.v (.int .u32 (.ofNat 1695183700)))), (37, 1, (.v (.int .u32 (.ofNat 1986661051)))), (38, 1, (.v (.int .u32 (.ofNat 2177026350)))), (39, 1, (.v (.int .u32 (.ofNat 2456956037)))), (40, 1, (.v (.int .u32 (.ofNat 2730485921)))), (41, 1, (.v (.int .u32 (.ofNat 2820302411)))), (42, 1, (.v (.int .u32 (.ofNat 3259730800)))), (43, 1, (.v (.int .u32 (.ofNat 3345764771)))), (44, 1, (.v (.int .u32 (.ofNat 3516065817)))), (45, 1, (.v (.int .u32 (.ofNat 3600352804)))), (46, 1, (.v (.int .u32 (.ofNat 4094571909)))), (47, 1, (.v (.int .u32 (.ofNat 275423344)))), (48, 1, (.v (.int .u32 (.ofNat 430227734)))), (49, 1, (.v (.int .u32 (.ofNat 506948616)))), (50, 1, (.v (.int .u32 (.ofNat 659060556)))), (51, 1, (.v (.int .u32 (.ofNat 883997877)))), (52, 1, (.v (.int .u32 (.ofNat 958139571)))), (53, 1, (.v (.int .u32 (.ofNat 1322822218)))), (54, 1, (.v (.int .u32 (.ofNat 1537002063)))), (55, 1, (.v (.int .u32 (.ofNat 1747873779)))), (56, 1, (.v (.int .u32 (.ofNat 1955562222)))), (57, 1, (.v (.int .u32 (.ofNat 2024104815)))), (58, 1, (.v (.int .u32 (.ofNat 2227730452)))), (59, 1, (.v (.int .u32 (.ofNat 2361852424)))), (60, 1, (.v (.int .u32 (.ofNat 2428436474)))), (61, 1, (.v (.int .u32 (.ofNat 2756734187)))), (62, 1, (.v (.int .u32 (.ofNat 3204031479)))), (63, 1, (.v (.int .u32 (.ofNat 3329325298))))])),
 o 1 none (.e (.st s0 s1 64))])
 .ret))
 [.cn p0 64]

noncomputable def f112 : FnE := .code 9
 (.seq (.reg [o 0 d4 (.q (.mv (.v (.int .u32 (.ofNat 0)))))])
 (.seq (.reg [o 0 d5 (.q (.mv s0)),
 o 1 d6 (.q (.mv s1)),
 o 2 d7 (.q (.neg s6)),
 o 3 d8 (.call p137 [s5, s7]),
 o 4 d4 (.q (.mv s8))])
 .ret))
 [.t p4]

noncomputable def f113 : FnE := .code 19
 (.seq (.reg [o 0 d6 (.q (.mv (.v .nils)))])
 (.seq (.seq (.reg [o 0 d7 (.q (.mv s2)),
 o 1 d8 (.q (.mv (.v (.int .i64 (.ofNat 0)))))])
 (.blk 0 (.loop (.seq (.reg [o 0 d9 (.q (.bin .lss s8 s7))])
 (.seq (.cnd s9 .skip (.exit 0))
 (.seq (.blk 1 (.seq (.reg [o 0 d10 (.q (.mv s0)),
 o 1 d11 (.q (.mv s1)),
 o 2 d12 (.q (.cvi .u8 s11)),
 o 3 d13 (.e (.bsl [(.int .u8 (.ofNat 0))] [(0, 1, s12)] 1 1)),
 o 4 d14 (.e (.app s10 s13 1 1 false)),
 o 5 d0 (.q (.mv s14))])
 (.reg [o 0 d15 (.q (.mv s1)),
 o 1 d16 (.q (.shf false s15 (.v (.int .u64 (.ofNat 8))))),
 o 2 d1 (.q (.mv s16))])))
 (.reg [o 0 d17 (.q (.bin .add s8 (.v (.int .i64 (.ofNat 1))))),
 o 1 d8 (.q (.mv s17))])))))))
 (.seq (.reg [o 0 d18 (.q (.mv s0)),
 o 1 d6 (.q (.mv s18))])
 .ret)))
 [.t p6]

noncomputable def f115 : FnE := .code 148
 (.seq (.reg [o 0 d10 (.q (.mv (.v (.bool true))))])
 (.seq (.reg [o 0 d11 (.q (.mv (.v (.bool true))))])
 (.blk 0 (.loop (.blk 1 (.seq (.reg [o 0 d21 (.q (.mv s2)),
 o 1 d22 (.q (.mv s1)),
 o 2 d23 (.q (.bin .sub s21 s22)),
 o 3 d12 (.q (.mv s23))])
 (.seq (.seq (.reg [o 0 d24 (.q (.mv s12)),
 o 1 d25 (.q (.bin .leq s24 (.v (.int .i64 (.ofNat 12)))))])
 (.cnd s25 (.seq (.reg [o 0 d26 (.q (.mv s0)),
 o 1 d27 (.q (.mv s1)),
 o 2 d28 (.q (.mv s2)),
 o 3 d29 (.q (.mv s4)),
 o 4 d30 (.call p138 [s26, s27, s28, s29])])
 .ret) .skip))
 (.seq (.seq (.reg [o 0 d31 (.q (.mv s3)),
 o 1 d32 (.q (.bin .eql s31 (.v (.int .i64 (.ofNat 0)))))])
 (.cnd s32 (.seq (.reg [o 0 d33 (.q (.mv s0)),
 o 1 d34 (.q (.mv s1)),
 o 2 d35 (.q (.mv s2)),
 o 3 d36 (.q (.mv s4)),
 o 4 d37 (.call p139 [s33, s34, s35, s36])])
 .ret) .skip))
 (.seq (.seq (.reg [o 0 d38 (.q (.mv s10)),
 o 1 d39 (.q (.not s38))])
 (.cnd s39 (.seq (.reg [o 0 d40 (.q (.mv s0)),
 o 1 d41 (.q (.mv s1)),
 o 2 d42 (.q (.mv s2)),
 o 3 d43 (.q (.mv s4)),
 o 4 d44 (.call p140 [s40, s41, s42, s43])])
 (.reg [o 0 d45 (.q (.mv s3)),
 o 1 d46 (.q (.bin .sub s45 (.v (.int .i64 (.ofNat 1))))),
 o 2 d3 (.q (.mv s46))])) .skip))
 (.seq (.reg [o 0 d48 (.q (.mv s0)),
 o 1 d49 (.q (.mv s1)),
 o 2 d50 (.q (.mv s2)),
 o 3 d51 (.q (.mv s4)),
 o 4 d52 (.call p141 [s48, s49, s50, s51]),
 o 5 d47 (.q (.mv s52)),
 o 6 d53 (.q (.ext s47 0)),
 o 7 d54 (.q (.ext s47 1)),
 o 8 d13 (.q (.mv s53)),
 o 9 d14 (.q (.mv s54))])
 (.seq (.seq (.reg [o 0 d55 (.q (.mv s14)),
 o 1 d56 (.q (.bin .eql s55 (.v (.int .i64 (.ofNat 2)))))])
 (.cnd s56 (.seq (.reg [o 0 d57 (.q (.mv s0)),
 o 1 d58 (.q (.mv s1)),
 o 2 d59 (.q (.mv s2)),
 o 3 d60 (.q (.mv s4)),
 o 4 d61 (.call p142 [s57, s58, s59, s60])])
 (.seq (.reg [o 0 d62 (.q (.mv s2)),
 o 1 d63 (.q (.bin .sub s62 (.v (.int .i64 (.ofNat 1))))),
 o 2 d64 (.q (.mv s13)),
 o 3 d65 (.q (.mv s1)),
 o 4 d66 (.q (.bin .sub s64 s65)),
 o 5 d67 (.q (.bin .sub s63 s66)),
 o 6 d13 (.q (.mv s67))])
 (.reg [o 0 d14 (.q (.mv (.v (.int .i64 (.ofNat 1)))))]))) .skip))
 (.seq (.seq (.reg [o 0 d68 (.q (.mv s10)),
 o 1 d69 (.q (.mv s68)),
 ⟨2, d70, (.q (.mv s11)), (some (p69, true)), []⟩,
 o 3 d71 (.q (.pick s69 s70 (.v (.bool false)))),
 o 4 d72 (.q (.mv s71)),
 ⟨5, d73, (.q (.mv s14)), (some (p72, true)), []⟩,
 ⟨6, d74, (.q (.bin .eql s73 (.v (.int .i64 (.ofNat 1))))), (some (p72, true)), []⟩,
 o 7 d75 (.q (.pick s72 s74 (.v (.bool false))))])
 (.cnd s75 (.seq (.reg [o 0 d76 (.q (.mv s0)),
 o 1 d77 (.q (.mv s1)),
 o 2 d78 (.q (.mv s2)),
 o 3 d79 (.q (.mv s4)),
 o 4 d80 (.call p143 [s76, s77, s78, s79])])
 (.cnd s80 .ret .skip)) .skip))
 (.seq (.seq (.rgd 0 [o 0 d81 (.q (.mv s1)),
 o 1 d82 (.q (.bin .gtr s81 (.v (.int .i64 (.ofNat 0))))),
 o 2 d83 (.q (.mv s82)),
 ⟨3, d84, (.q (.mv s4)), (some (p83, true)), []⟩,
 ⟨4, d85, (.q (.mv s0)), (some (p83, true)), []⟩,
 ⟨5, d86, (.q (.mv s1)), (some (p83, true)), []⟩,
 ⟨6, d87, (.q (.bin .sub s86 (.v (.int .i64 (.ofNat 1))))), (some (p83, true)), []⟩,
 ⟨7, d88, (.q (.iadr s85 s87 32)), (some (p83, true)), []⟩,
 ⟨8, d89, (.q (.ldn s88 32)), (some (p83, true)), []⟩,
 ⟨9, d90, (.q (.mv s0)), (some (p83, true)), []⟩,
 ⟨10, d91, (.q (.mv s13)), (some (p83, true)), []⟩,
 ⟨11, d92, (.q (.iadr s90 s91 32)), (some (p83, true)), []⟩,
 ⟨12, d93, (.q (.ldn s92 32)), (some (p83, true)), []⟩,
 ⟨13, d94, (.callv s84 [s89, s93]), (some (p83, true)), []⟩,
 ⟨14, d95, (.q (.bin .lss s94 (.v (.int .i64 (.ofNat 0))))), (some (p83, true)), []⟩,
 ⟨15, d96, (.q (.not s95)), (some (p83, true)), []⟩,
 o 16 d97 (.q (.pick s83 s96 (.v (.bool false))))])
 (.cnd s97 (.seq (.reg [o 0 d98 (.q (.mv s0)),
 o 1 d99 (.q (.mv s1)),
 o 2 d100 (.q (.mv s2)),
 o 3 d101 (.q (.mv s13)),
 o 4 d102 (.q (.mv s4)),
 o 5 d103 (.call p144 [s98, s99, s100, s101, s102]),
 o 6 d15 (.q (.mv s103))])
 (.seq (.reg [o 0 d104 (.q (.mv s15)),
 o 1 d1 (.q (.mv s104))])
 (.exit 1))) .skip))
 (.seq (.reg [o 0 d106 (.q (.mv s0)),
 o 1 d107 (.q (.mv s1)),
 o 2 d108 (.q (.mv s2)),
 o 3 d109 (.q (.mv s13)),
 o 4 d110 (.q (.mv s4)),
 o 5 d111 (.call p145 [s106, s107, s108, s109, s110]),
 o 6 d105 (.q (.mv s111)),
 o 7 d112 (.q (.ext s105 0)),
 o 8 d113 (.q (.ext s105 1)),
 o 9 d16 (.q (.mv s112)),
 o 10 d17 (.q (.mv s113))])
 (.seq (.reg [o 0 d114 (.q (.mv s17)),
 o 1 d11 (.q (.mv s114))])
 (.seq (.reg [o 0 d115 (.q (.mv s16)),
 o 1 d116 (.q (.mv s1)),
 o 2 d117 (.q (.bin .sub s115 s116)),
 o 3 d118 (.q (.mv s2)),
 o 4 d119 (.q (.mv s16)),
 o 5 d120 (.q (.bin .sub s118 s119)),
 o 6 d18 (.q (.mv s117)),
 o 7 d19 (.q (.mv s120))])
 (.seq (.reg [o 0 d121 (.q (.mv s12)),
 o 1 d122 (.q (.bin .quo s121 (.v (.int .i64 (.ofNat 8))))),
 o 2 d20 (.q (.mv s122))])
 (.seq (.reg [o 0 d123 (.q (.mv s18)),
 o 1 d124 (.q (.mv s19)),
 o 2 d125 (.q (.bin .lss s123 s124))])
 (.cnd s125 (.seq (.reg [o 0 d126 (.q (.mv s18)),
 o 1 d127 (.q (.mv s20)),
 o 2 d128 (.q (.bin .geq s126 s127)),
 o 3 d10 (.q (.mv s128))])
 (.seq (.reg [o 0 d129 (.q (.mv s0)),
 o 1 d130 (.q (.mv s1)),
 o 2 d131 (.q (.mv s16)),
 o 3 d132 (.q (.mv s3)),
 o 4 d133 (.q (.mv s4)),
 o 5 d134 (.call p115 [s129, s130, s131, s132, s133])])
 (.reg [o 0 d135 (.q (.mv s16)),
 o 1 d136 (.q (.bin .add s135 (.v (.int .i64 (.ofNat 1))))),
 o 2 d1 (.q (.mv s136))]))) (.seq (.reg [o 0 d137 (.q (.mv s19)),
 o 1 d138 (.q (.mv s20)),
 o 2 d139 (.q (.bin .geq s137 s138)),
 o 3 d10 (.q (.mv s139))])
 (.seq (.reg [o 0 d140 (.q (.mv s0)),
 o 1 d141 (.q (.mv s16)),
 o 2 d142 (.q (.bin .add s141 (.v (.int .i64 (.ofNat 1))))),
 o 3 d143 (.q (.mv s2)),
 o 4 d144 (.q (.mv s3)),
 o 5 d145 (.q (.mv s4)),
 o 6 d146 (.call p115 [s140, s142, s143, s144, s145])])
 (.reg [o 0 d147 (.q (.mv s16)),
 o 1 d2 (.q (.mv s147))]))))))))))))))))))))))
 []

noncomputable def f116 : FnE := .code 8
 (.seq (.reg [o 0 d2 (.q (.mv (.v (.int .i64 (.ofNat 0)))))])
 (.seq (.cnd (.v (.bool false)) (.seq (.reg [o 0 d3 (.q (.mv s0)),
 o 1 d4 (.q (.cvi .u32 s3)),
 o 2 d5 (.call p146 [s4]),
 o 3 d2 (.q (.mv s5))])
 .ret) .skip)
 (.seq (.reg [o 0 d6 (.q (.mv s0)),
 o 1 d7 (.call p147 [s6]),
 o 2 d2 (.q (.mv s7))])
 .ret)))
 [.t p2]

noncomputable def f118 : FnE := .code 4
 (.seq (.reg [o 0 d1 (.e (.box s0 1)),
 o 1 d2 (.q (.mv (.v .nilf)))])
 (.seq (.reg [o 0 d3 (.q (.mkf 148 [] [s1])),
 o 1 d2 (.q (.mv s3))])
 .ret))
 [.t p2]

noncomputable def f119 : FnE := .code 45
 (.seq (.reg [o 0 d3 (.e (.box s1 32)),
 o 1 d4 (.q (.mv (.v .nils)))])
 (.seq (.seq (.rgd 0 [o 0 d10 (.q (.mv s0)),
 o 1 d11 (.q (.nck s10)),
 o 2 d12 (.q (.fadr s11 0)),
 o 3 d13 (.q (.ld1 s12)),
 o 4 d14 (.q (.ldn s3 32)),
 o 5 d15 (.q (.lkp s13 s14 (.cells (kk .u8 32)) .nilp true)),
 o 6 d9 (.q (.mv s15)),
 o 7 d16 (.q (.ext s9 0)),
 o 8 d17 (.q (.ext s9 1)),
 o 9 d5 (.q (.mv s16)),
 o 10 d6 (.q (.mv s17))])
 (.seq (.reg [o 0 d18 (.q (.mv s6)),
 o 1 d19 (.q (.not s18))])
 (.cnd s19 (.seq (.reg [o 0 d4 (.q (.mv (.v .nils)))])
 .ret) .skip)))
 (.seq (.reg [o 0 d20 (.q (.ldn s3 32)),
 o 1 d21 (.e (.bsl (zz (.int .u8 (.ofNat 0)) 32) [(0, 32, s20)] 1 32)),
 o 2 d7 (.q (.mv s21))])
 (.seq (.seq (.reg [o 0 d8 (.q (.mv (.v (.int .i64 (.ofNat 0)))))])
 (.blk 0 (.loop (.seq (.seq (.reg [o 0 d22 (.q (.mv s8)),
 o 1 d23 (.q (.mv s7)),
 o 2 d24 (.q (.lenv s23)),
 o 3 d25 (.q (.bin .lss s22 s24))])
 (.cnd s25 .skip (.exit 0)))
 (.seq (.blk 1 (.rgd 0 [o 0 d28 (.q (.mv s7)),
 o 1 d29 (.q (.mv s0)),
 o 2 d30 (.q (.nck s29)),
 o 3 d31 (.q (.fadr s30 0)),
 o 4 d32 (.q (.ld1 s31)),
 o 5 d33 (.q (.mv s7)),
 o 6 d34 (.q (.mv s8)),
 o 7 d35 (.q (.iadr s33 s34 32)),
 o 8 d36 (.q (.ldn s35 32)),
 o 9 d37 (.q (.lkp s32 s36 (.cells (kk .u8 32)) .nilp false)),
 o 10 d38 (.q (.nck s37)),
 o 11 d39 (.q (.fadr s38 70)),
 o 12 d40 (.q (.ld1 s39)),
 o 13 d41 (.e (.app s28 s40 32 32 false)),
 o 14 d7 (.q (.mv s41))]))
 (.reg [o 0 d26 (.q (.mv s8)),
 o 1 d27 (.q (.bin .add s26 (.v (.int .i64 (.ofNat 1))))),
 o 2 d8 (.q (.mv s27))]))))))
 (.seq (.reg [o 0 d42 (.q (.mv s7)),
 o 1 d43 (.call p79 [s42, (.f 48)])])
 (.seq (.reg [o 0 d44 (.q (.mv s7)),
 o 1 d4 (.q (.mv s44))])
 .ret))))))
 [.t p4]

noncomputable def f120 : FnE := .code 6
 (.seq (.reg [o 0 d2 (.q (.mv (.v (.int .u32 (.ofNat 0)))))])
 (.seq (.reg [o 0 d3 (.q (.mv s0)),
 o 1 d4 (.call p149 [s3, (.v (.int .i64 (.ofNat 4)))]),
 o 2 d5 (.q (.cvi .u32 s4)),
 o 3 d2 (.q (.mv s5))])
 .ret))
 [.t p2]

noncomputable def f121 : FnE := .code 46
 (.seq (.reg [o 0 d4 (.q (.mv (.v (.int .u64 (.ofNat 0)))))])
 (.seq (.reg [o 0 d7 (.q (.mv s0)),
 o 1 d8 (.call p149 [s7, (.v (.int .i64 (.ofNat 1)))]),
 o 2 d5 (.q (.mv s8))])
 (.seq (.reg [o 0 d6 (.q (.mv (.v (.int .i64 (.ofNat 0)))))])
 (.seq (.seq (.reg [o 0 d9 (.q (.mv s5))])
 (.blk 0 (.seq (.reg [o 0 d11 (.q (.bin .eql s9 (.v (.int .u64 (.ofNat 253))))),
 o 1 d10 (.q (.mv s11))])
 (.cnd s10 (.reg [o 0 d6 (.q (.mv (.v (.int .i64 (.ofNat 2)))))]) (.seq (.reg [o 0 d13 (.q (.bin .eql s9 (.v (.int .u64 (.ofNat 254))))),
 o 1 d12 (.q (.mv s13))])
 (.cnd s12 (.reg [o 0 d6 (.q (.mv (.v (.int .i64 (.ofNat 4)))))]) (.seq (.reg [o 0 d15 (.q (.bin .eql s9 (.v (.int .u64 (.ofNat 255))))),
 o 1 d14 (.q (.mv s15))])
 (.cnd s14 (.reg [o 0 d6 (.q (.mv (.v (.int .i64 (.ofNat 8)))))]) .skip))))))))
 (.seq (.seq (.reg [o 0 d16 (.q (.mv s6)),
 o 1 d17 (.q (.bin .gtr s16 (.v (.int .i64 (.ofNat 0)))))])
 (.cnd s17 (.reg [o 0 d18 (.q (.mv s0)),
 o 1 d19 (.q (.mv s6)),
 o 2 d20 (.call p149 [s18, s19]),
 o 3 d5 (.q (.mv s20))]) .skip))
 (.seq (.blk 1 (.seq (.reg [o 0 d23 (.q (.mv s0)),
 o 1 d24 (.q (.nck s23)),
 o 2 d25 (.q (.fadr s24 2)),
 o 3 d26 (.q (.ld1 s25)),
 o 4 d27 (.q (.eqp (.iface true) true s26 (.v .nili))),
 o 5 d22 (.q (.mv s27))])
 (.cnd s22 .skip (.seq (.reg [o 0 d29 (.q (.mv s5)),
 o 1 d30 (.call p150 [s29]),
 o 2 d31 (.q (.mv s6)),
 o 3 d32 (.q (.bin .add (.v (.int .i64 (.ofNat 1))) s31)),
 o 4 d33 (.q (.bin .neq s30 s32)),
 o 5 d28 (.q (.mv s33))])
 (.cnd s28 (.reg [o 0 d34 (.q (.mv s0)),
 o 1 d35 (.q (.ld1 (.g p1))),
 o 2 d36 (.q (.nck s34)),
 o 3 d37 (.q (.fadr s36 2)),
 o 4 none (.e (.st s37 s35 1))]) (.seq (.reg [o 0 d39 (.q (.mv s5)),
 o 1 d40 (.q (.mv s1)),
 o 2 d41 (.q (.bin .gtr s39 s40)),
 o 3 d38 (.q (.mv s41))])
 (.cnd s38 (.reg [o 0 d42 (.q (.mv s0)),
 o 1 d43 (.q (.ld1 (.g p5))),
 o 2 d44 (.q (.nck s42)),
 o 3 d45 (.q (.fadr s44 2)),
 o 4 none (.e (.st s45 s43 1))]) (.seq (.reg [o 0 d21 (.q (.mv s5)),
 o 1 d4 (.q (.mv s21))])
 .ret))))))))
 (.seq (.reg [o 0 d4 (.q (.mv (.v (.int .u64 (.ofNat 0)))))])
 .ret)))))))
 [.t p4]

noncomputable def f130 : FnE := .code 72
 (.seq (.reg [o 0 d1 (.e (.box s0 4)),
 o 1 d2 (.q (.mv (.v .nils)))])
 (.seq (.reg [o 0 d8 (.q (.fadr s1 0)),
 o 1 d9 (.q (.ld1 s8)),
 o 2 d10 (.call p74 [(.v .nils), s9]),
 o 3 d3 (.q (.mv s10))])
 (.seq (.reg [o 0 d11 (.q (.mv s3)),
 o 1 d12 (.q (.fadr s1 1)),
 o 2 d13 (.q (.ld1 s12)),
 o 3 d14 (.q (.lenv s13)),
 o 4 d15 (.q (.cvi .u64 s14)),
 o 5 d16 (.call p165 [s11, s15]),
 o 6 d3 (.q (.mv s16))])
 (.seq (.seq (.reg [o 0 d17 (.q (.fadr s1 1)),
 o 1 d18 (.q (.ld1 s17)),
 o 2 d19 (.q (.lenv s18)),
 o 3 d20 (.q (.mv (.v (.int .i64 (.ofNat 0)))))])
 (.blk 0 (.loop (.seq (.reg [o 0 d21 (.q (.bin .lss s20 s19))])
 (.seq (.cnd s21 .skip (.exit 0))
 (.seq (.blk 1 (.seq (.reg [o 0 d22 (.q (.iadr s18 s20 35)),
 o 1 d23 (.q (.ldn s22 35)),
 o 2 d5 (.e (.alo (lapp (zz (.int .u8 (.ofNat 0)) 32) [(.int .u32 (.ofNat 0)), .nils, (.int .u32 (.ofNat 0))]))),
 o 3 none (.e (.st s5 s23 35))])
 (.seq (.rgd 0 [o 0 d24 (.q (.mv s3)),
 o 1 d25 (.q (.fadr s5 0)),
 o 2 d26 (.q (.fadr s25 0)),
 o 3 d27 (.q (.slca s26 none none 1 32)),
 o 5 d29 (.q (.fadr s5 0)),
 o 6 d30 (.q (.fadr s29 32)),
 o 7 d31 (.q (.ld1 s30)),
 ⟨4, d28, (.e (.app s24 s27 1 1 false)), none, [(p31, .ld1 s30, none)]⟩,
 o 8 d32 (.call p74 [s28, s31]),
 o 9 d3 (.q (.mv s32))])
 (.seq (.rgd 0 [o 0 d33 (.q (.mv s3)),
 o 1 d34 (.q (.fadr s5 33)),
 o 2 d35 (.q (.ld1 s34)),
 o 3 d36 (.q (.lenv s35)),
 o 4 d37 (.q (.cvi .u64 s36)),
 o 6 d39 (.q (.fadr s5 33)),
 o 7 d40 (.q (.ld1 s39)),
 ⟨5, d38, (.call p165 [s33, s37]), none, [(p40, .ld1 s39, none)]⟩,
 o 8 d41 (.e (.app s38 s40 1 1 false)),
 o 9 d3 (.q (.mv s41))])
 (.reg [o 0 d42 (.q (.mv s3)),
 o 1 d43 (.q (.fadr s5 34)),
 o 2 d44 (.q (.ld1 s43)),
 o 3 d45 (.call p74 [s42, s44]),
 o 4 d3 (.q (.mv s45))])))))
 (.reg [o 0 d46 (.q (.bin .add s20 (.v (.int .i64 (.ofNat 1))))),
 o 1 d20 (.q (.mv s46))])))))))
 (.seq (.reg [o 0 d47 (.q (.mv s3)),
 o 1 d48 (.q (.fadr s1 2)),
 o 2 d49 (.q (.ld1 s48)),
 o 3 d50 (.q (.lenv s49)),
 o 4 d51 (.q (.cvi .u64 s50)),
 o 5 d52 (.call p165 [s47, s51]),
 o 6 d3 (.q (.mv s52))])
 (.seq (.seq (.reg [o 0 d53 (.q (.fadr s1 2)),
 o 1 d54 (.q (.ld1 s53)),
 o 2 d55 (.q (.lenv s54)),
 o 3 d56 (.q (.mv (.v (.int .i64 (.ofNat 0)))))])
 (.blk 2 (.loop (.seq (.reg [o 0 d57 (.q (.bin .lss s56 s55))])
 (.seq (.cnd s57 .skip (.exit 2))
 (.seq (.blk 3 (.seq (.reg [o 0 d58 (.q (.iadr s54 s56 33)),
 o 1 d59 (.q (.ldn s58 33)),
 o 2 d7 (.e (.alo (lapp [(.int .u64 (.ofNat 0))] (zz (.int .u8 (.ofNat 0)) 32)))),
 o 3 none (.e (.st s7 s59 33))])
 (.rgd 0 [o 0 d60 (.q (.mv s3)),
 o 1 d61 (.q (.fadr s7 0)),
 o 2 d62 (.q (.ld1 s61)),
 o 4 d64 (.q (.fadr s7 1)),
 o 5 d65 (.q (.slca s64 none none 1 32)),
 ⟨3, d63, (.call p75 [s60, s62]), none, [(p65, .slca s64 none none 1 32, none)]⟩,
 o 6 d66 (.e (.app s63 s65 1 1 false)),
 o 7 d3 (.q (.mv s66))])))
 (.reg [o 0 d67 (.q (.bin .add s56 (.v (.int .i64 (.ofNat 1))))),
 o 1 d56 (.q (.mv s67))])))))))
 (.seq (.reg [o 0 d68 (.q (.mv s3)),
 o 1 d69 (.q (.fadr s1 3)),
 o 2 d70 (.q (.ld1 s69)),
 o 3 d71 (.call p74 [s68, s70]),
 o 4 d2 (.q (.mv s71))])
 .ret)))))))
 [.t p2]

noncomputable def f134 : FnE := .code 134
 (.seq (.reg [o 0 d8 (.q (.mv (.v (.bool true))))])
 (.seq (.reg [o 0 d9 (.q (.mv (.v (.bool true))))])
 (.blk 0 (.loop (.blk 1 (.seq (.reg [o 0 d19 (.q (.mv s2)),
 o 1 d20 (.q (.mv s1)),
 o 2 d21 (.q (.bin .sub s19 s20)),
 o 3 d10 (.q (.mv s21))])
 (.seq (.seq (.reg [o 0 d22 (.q (.mv s10)),
 o 1 d23 (.q (.bin .leq s22 (.v (.int .i64 (.ofNat 12)))))])
 (.cnd s23 (.seq (.reg [o 0 d24 (.q (.mv s0)),
 o 1 d25 (.q (.mv s1)),
 o 2 d26 (.q (.mv s2)),
 o 3 d27 (.call p168 [s24, s25, s26])])
 .ret) .skip))
 (.seq (.seq (.reg [o 0 d28 (.q (.mv s3)),
 o 1 d29 (.q (.bin .eql s28 (.v (.int .i64 (.ofNat 0)))))])
 (.cnd s29 (.seq (.reg [o 0 d30 (.q (.mv s0)),
 o 1 d31 (.q (.mv s1)),
 o 2 d32 (.q (.mv s2)),
 o 3 d33 (.call p169 [s30, s31, s32])])
 .ret) .skip))
 (.seq (.seq (.reg [o 0 d34 (.q (.mv s8)),
 o 1 d35 (.q (.not s34))])
 (.cnd s35 (.seq (.reg [o 0 d36 (.q (.mv s0)),
 o 1 d37 (.q (.mv s1)),
 o 2 d38 (.q (.mv s2)),
 o 3 d39 (.call p170 [s36, s37, s38])])
 (.reg [o 0 d40 (.q (.mv s3)),
 o 1 d41 (.q (.bin .sub s40 (.v (.int .i64 (.ofNat 1))))),
 o 2 d3 (.q (.mv s41))])) .skip))
 (.seq (.reg [o 0 d43 (.q (.mv s0)),
 o 1 d44 (.q (.mv s1)),
 o 2 d45 (.q (.mv s2)),
 o 3 d46 (.call p171 [s43, s44, s45]),
 o 4 d42 (.q (.mv s46)),
 o 5 d47 (.q (.ext s42 0)),
 o 6 d48 (.q (.ext s42 1)),
 o 7 d11 (.q (.mv s47)),
 o 8 d12 (.q (.mv s48))])
 (.seq (.seq (.reg [o 0 d49 (.q (.mv s12)),
 o 1 d50 (.q (.bin .eql s49 (.v (.int .i64 (.ofNat 2)))))])
 (.cnd s50 (.seq (.reg [o 0 d51 (.q (.mv s0)),
 o 1 d52 (.q (.mv s1)),
 o 2 d53 (.q (.mv s2)),
 o 3 d54 (.call p172 [s51, s52, s53])])
 (.seq (.reg [o 0 d55 (.q (.mv s2)),
 o 1 d56 (.q (.bin .sub s55 (.v (.int .i64 (.ofNat 1))))),
 o 2 d57 (.q (.mv s11)),
 o 3 d58 (.q (.mv s1)),
 o 4 d59 (.q (.bin .sub s57 s58)),
 o 5 d60 (.q (.bin .sub s56 s59)),
 o 6 d11 (.q (.mv s60))])
 (.reg [o 0 d12 (.q (.mv (.v (.int .i64 (.ofNat 1)))))]))) .skip))
 (.seq (.seq (.reg [o 0 d61 (.q (.mv s8)),
 o 1 d62 (.q (.mv s61)),
 ⟨2, d63, (.q (.mv s9)), (some (p62, true)), []⟩,
 o 3 d64 (.q (.pick s62 s63 (.v (.bool false)))),
 o 4 d65 (.q (.mv s64)),
 ⟨5, d66, (.q (.mv s12)), (some (p65, true)), []⟩,
 ⟨6, d67, (.q (.bin .eql s66 (.v (.int .i64 (.ofNat 1))))), (some (p65, true)), []⟩,
 o 7 d68 (.q (.pick s65 s67 (.v (.bool false))))])
 (.cnd s68 (.seq (.reg [o 0 d69 (.q (.mv s0)),
 o 1 d70 (.q (.mv s1)),
 o 2 d71 (.q (.mv s2)),
 o 3 d72 (.call p173 [s69, s70, s71])])
 (.cnd s72 .ret .skip)) .skip))
 (.seq (.seq (.rgd 0 [o 0 d73 (.q (.mv s1)),
 o 1 d74 (.q (.bin .gtr s73 (.v (.int .i64 (.ofNat 0))))),
 o 2 d75 (.q (.mv s74)),
 ⟨3, d76, (.q (.mv s0)), (some (p75, true)), []⟩,
 ⟨4, d77, (.q (.mv s1)), (some (p75, true)), []⟩,
 ⟨5, d78, (.q (.bin .sub s77 (.v (.int .i64 (.ofNat 1))))), (some (p75, true)), []⟩,
 ⟨6, d79, (.q (.iadr s76 s78 1)), (some (p75, true)), []⟩,
 ⟨7, d80, (.q (.ld1 s79)), (some (p75, true)), []⟩,
 ⟨8, d81, (.q (.mv s0)), (some (p75, true)), []⟩,
 ⟨9, d82, (.q (.mv s11)), (some (p75, true)), []⟩,
 ⟨10, d83, (.q (.iadr s81 s82 1)), (some (p75, true)), []⟩,
 ⟨11, d84, (.q (.ld1 s83)), (some (p75, true)), []⟩,
 ⟨12, d85, (.call p174 [s80, s84]), (some (p75, true)), []⟩,
 ⟨13, d86, (.q (.not s85)), (some (p75, true)), []⟩,
 o 14 d87 (.q (.pick s75 s86 (.v (.bool false))))])
 (.cnd s87 (.seq (.reg [o 0 d88 (.q (.mv s0)),
 o 1 d89 (.q (.mv s1)),
 o 2 d90 (.q (.mv s2)),
 o 3 d91 (.q (.mv s11)),
 o 4 d92 (.call p175 [s88, s89, s90, s91]),
 o 5 d13 (.q (.mv s92))])
 (.seq (.reg [o 0 d93 (.q (.mv s13)),
 o 1 d1 (.q (.mv s93))])
 (.exit 1))) .skip))
 (.seq (.reg [o 0 d95 (.q (.mv s0)),
 o 1 d96 (.q (.mv s1)),
 o 2 d97 (.q (.mv s2)),
 o 3 d98 (.q (.mv s11)),
 o 4 d99 (.call p176 [s95, s96, s97, s98]),
 o 5 d94 (.q (.mv s99)),
 o 6 d100 (.q (.ext s94 0)),
 o 7 d101 (.q (.ext s94 1)),
 o 8 d14 (.q (.mv s100)),
 o 9 d15 (.q (.mv s101))])
 (.seq (.reg [o 0 d102 (.q (.mv s15)),
 o 1 d9 (.q (.mv s102))])
 (.seq (.reg [o 0 d103 (.q (.mv s14)),
 o 1 d104 (.q (.mv s1)),
 o 2 d105 (.q (.bin .sub s103 s104)),
 o 3 d106 (.q (.mv s2)),
 o 4 d107 (.q (.mv s14)),
 o 5 d108 (.q (.bin .sub s106 s107)),
 o 6 d16 (.q (.mv s105)),
 o 7 d17 (.q (.mv s108))])
 (.seq (.reg [o 0 d109 (.q (.mv s10)),
 o 1 d110 (.q (.bin .quo s109 (.v (.int .i64 (.ofNat 8))))),
 o 2 d18 (.q (.mv s110))])
 (.seq (.reg [o 0 d111 (.q (.mv s16)),
 o 1 d112 (.q (.mv s17)),
 o 2 d113 (.q (.bin .lss s111 s112))])
 (.cnd s113 (.seq (.reg [o 0 d114 (.q (.mv s16)),
 o 1 d115 (.q (.mv s18)),
 o 2 d116 (.q (.bin .geq s114 s115)),
 o 3 d8 (.q (.mv s116))])
 (.seq (.reg [o 0 d117 (.q (.mv s0)),
 o 1 d118 (.q (.mv s1)),
 o 2 d119 (.q (.mv s14)),
 o 3 d120 (.q (.mv s3)),
 o 4 d121 (.call p134 [s117, s118, s119, s120])])
 (.reg [o 0 d122 (.q (.mv s14)),
 o 1 d123 (.q (.bin .add s122 (.v (.int .i64 (.ofNat 1))))),
 o 2 d1 (.q (.mv s123))]))) (.seq (.reg [o 0 d124 (.q (.mv s17)),
 o 1 d125 (.q (.mv s18)),
 o 2 d126 (.q (.bin .geq s124 s125)),
 o 3 d8 (.q (.mv s126))])
 (.seq (.reg [o 0 d127 (.q (.mv s0)),
 o 1 d128 (.q (.mv s14)),
 o 2 d129 (.q (.bin .add s128 (.v (.int .i64 (.ofNat 1))))),
 o 3 d130 (.q (.mv s2)),
 o 4 d131 (.q (.mv s3)),
 o 5 d132 (.call p134 [s127, s129, s130, s131])])
 (.reg [o 0 d133 (.q (.mv s14)),
 o 1 d2 (.q (.mv s133))]))))))))))))))))))))))
 []

noncomputable def f136 : FnE := .code 148
 (.seq (.reg [o 0 d10 (.q (.mv (.v (.bool true))))])
 (.seq (.reg [o 0 d11 (.q (.mv (.v (.bool true))))])
 (.blk 0 (.loop (.blk 1 (.seq (.reg [o 0 d21 (.q (.mv s2)),
 o 1 d22 (.q (.mv s1)),
 o 2 d23 (.q (.bin .sub s21 s22)),
 o 3 d12 (.q (.mv s23))])
 (.seq (.seq (.reg [o 0 d24 (.q (.mv s12)),
 o 1 d25 (.q (.bin .leq s24 (.v (.int .i64 (.ofNat 12)))))])
 (.cnd s25 (.seq (.reg [o 0 d26 (.q (.mv s0)),
 o 1 d27 (.q (.mv s1)),
 o 2 d28 (.q (.mv s2)),
 o 3 d29 (.q (.mv s4)),
 o 4 d30 (.call p177 [s26, s27, s28, s29])])
 .ret) .skip))
 (.seq (.seq (.reg [o 0 d31 (.q (.mv s3)),
 o 1 d32 (.q (.bin .eql s31 (.v (.int .i64 (.ofNat 0)))))])
 (.cnd s32 (.seq (.reg [o 0 d33 (.q (.mv s0)),
 o 1 d34 (.q (.mv s1)),
 o 2 d35 (.q (.mv s2)),
 o 3 d36 (.q (.mv s4)),
 o 4 d37 (.call p178 [s33, s34, s35, s36])])
 .ret) .skip))
 (.seq (.seq (.reg [o 0 d38 (.q (.mv s10)),
 o 1 d39 (.q (.not s38))])
 (.cnd s39 (.seq (.reg [o 0 d40 (.q (.mv s0)),
 o 1 d41 (.q (.mv s1)),
 o 2 d42 (.q (.mv s2)),
 o 3 d43 (.q (.mv s4)),
 o 4 d44 (.call p179 [s40, s41, s42, s43])])
 (.reg [o 0 d45 (.q (.mv s3)),
 o 1 d46 (.q (.bin .sub s45 (.v (.int .i64 (.ofNat 1))))),
 o 2 d3 (.q (.mv s46))])) .skip))
 (.seq (.reg [o 0 d48 (.q (.mv s0)),
 o 1 d49 (.q (.mv s1)),
 o 2 d50 (.q (.mv s2)),
 o 3 d51 (.q (.mv s4)),
 o 4 d52 (.call p180 [s48, s49, s50, s51]),
 o 5 d47 (.q (.mv s52)),
 o 6 d53 (.q (.ext s47 0)),
 o 7 d54 (.q (.ext s47 1)),
 o 8 d13 (.q (.mv s53)),
 o 9 d14 (.q (.mv s54))])
 (.seq (.seq (.reg [o 0 d55 (.q (.mv s14)),
 o 1 d56 (.q (.bin .eql s55 (.v (.int .i64 (.ofNat 2)))))])
 (.cnd s56 (.seq (.reg [o 0 d57 (.q (.mv s0)),
 o 1 d58 (.q (.mv s1)),
 o 2 d59 (.q (.mv s2)),
 o 3 d60 (.q (.mv s4)),
 o 4 d61 (.call p181 [s57, s58, s59, s60])])
 (.seq (.reg [o 0 d62 (.q (.mv s2)),
 o 1 d63 (.q (.bin .sub s62 (.v (.int .i64 (.ofNat 1))))),
 o 2 d64 (.q (.mv s13)),
 o 3 d65 (.q (.mv s1)),
 o 4 d66 (.q (.bin .sub s64 s65)),
 o 5 d67 (.q (.bin .sub s63 s66)),
 o 6 d13 (.q (.mv s67))])
 (.reg [o 0 d14 (.q (.mv (.v (.int .i64 (.ofNat 1)))))]))) .skip))
 (.seq (.seq (.reg [o 0 d68 (.q (.mv s10)),
 o 1 d69 (.q (.mv s68)),
 ⟨2, d70, (.q (.mv s11)), (some (p69, true)), []⟩,
 o 3 d71 (.q (.pick s69 s70 (.v (.bool false)))),
 o 4 d72 (.q (.mv s71)),
 ⟨5, d73, (.q (.mv s14)), (some (p72, true)), []⟩,
 ⟨6, d74, (.q (.bin .eql s73 (.v (.int .i64 (.ofNat 1))))), (some (p72, true)), []⟩,
 o 7 d75 (.q (.pick s72 s74 (.v (.bool false))))])
 (.cnd s75 (.seq (.reg [o 0 d76 (.q (.mv s0)),
 o 1 d77 (.q (.mv s1)),
 o 2 d78 (.q (.mv s2)),
 o 3 d79 (.q (.mv s4)),
 o 4 d80 (.call p182 [s76, s77, s78, s79])])
 (.cnd s80 .ret .skip)) .skip))
 (.seq (.seq (.rgd 0 [o 0 d81 (.q (.mv s1)),
 o 1 d82 (.q (.bin .gtr s81 (.v (.int .i64 (.ofNat 0))))),
 o 2 d83 (.q (.mv s82)),
 ⟨3, d84, (.q (.mv s4)), (some (p83, true)), []⟩,
 ⟨4, d85, (.q (.mv s0)), (some (p83, true)), []⟩,
 ⟨5, d86, (.q (.mv s1)), (some (p83, true)), []⟩,
 ⟨6, d87, (.q (.bin .sub s86 (.v (.int .i64 (.ofNat 1))))), (some (p83, true)), []⟩,
 ⟨7, d88, (.q (.iadr s85 s87 33)), (some (p83, true)), []⟩,
 ⟨8, d89, (.q (.ldn s88 33)), (some (p83, true)), []⟩,
 ⟨9, d90, (.q (.mv s0)), (some (p83, true)), []⟩,
 ⟨10, d91, (.q (.mv s13)), (some (p83, true)), []⟩,
 ⟨11, d92, (.q (.iadr s90 s91 33)), (some (p83, true)), []⟩,
 ⟨12, d93, (.q (.ldn s92 33)), (some (p83, true)), []⟩,
 ⟨13, d94, (.callv s84 [s89, s93]), (some (p83, true)), []⟩,
 ⟨14, d95, (.q (.bin .lss s94 (.v (.int .i64 (.ofNat 0))))), (some (p83, true)), []⟩,
 ⟨15, d96, (.q (.not s95)), (some (p83, true)), []⟩,
 o 16 d97 (.q (.pick s83 s96 (.v (.bool false))))])
 (.cnd s97 (.seq (.reg [o 0 d98 (.q (.mv s0)),
 o 1 d99 (.q (.mv s1)),
 o 2 d100 (.q (.mv s2)),
 o 3 d101 (.q (.mv s13)),
 o 4 d102 (.q (.mv s4)),
 o 5 d103 (.call p183 [s98, s99, s100, s101, s102]),
 o 6 d15 (.q (.mv s103))])
 (.seq (.reg [o 0 d104 (.q (.mv s15)),
 o 1 d1 (.q (.mv s104))])
 (.exit 1))) .skip))
 (.seq (.reg [o 0 d106 (.q (.mv s0)),
 o 1 d107 (.q (.mv s1)),
 o 2 d108 (.q (.mv s2)),
 o 3 d109 (.q (.mv s13)),
 o 4 d110 (.q (.mv s4)),
 o 5 d111 (.call p184 [s106, s107, s108, s109, s110]),
 o 6 d105 (.q (.mv s111)),
 o 7 d112 (.q (.ext s105 0)),
 o 8 d113 (.q (.ext s105 1)),
 o 9 d16 (.q (.mv s112)),
 o 10 d17 (.q (.mv s113))])
 (.seq (.reg [o 0 d114 (.q (.mv s17)),
 o 1 d11 (.q (.mv s114))])
 (.seq (.reg [o 0 d115 (.q (.mv s16)),
 o 1 d116 (.q (.mv s1)),
 o 2 d117 (.q (.bin .sub s115 s116)),
 o 3 d118 (.q (.mv s2)),
 o 4 d119 (.q (.mv s16)),
 o 5 d120 (.q (.bin .sub s118 s119)),
 o 6 d18 (.q (.mv s117)),
 o 7 d19 (.q (.mv s120))])
 (.seq (.reg [o 0 d121 (.q (.mv s12)),
 o 1 d122 (.q (.bin .quo s121 (.v (.int .i64 (.ofNat 8))))),
 o 2 d20 (.q (.mv s122))])
 (.seq (.reg [o 0 d123 (.q (.mv s18)),
 o 1 d124 (.q (.mv s19)),
 o 2 d125 (.q (.bin .lss s123 s124))])
 (.cnd s125 (.seq (.reg [o 0 d126 (.q (.mv s18)),
 o 1 d127 (.q (.mv s20)),
 o 2 d128 (.q (.bin .geq s126 s127)),
 o 3 d10 (.q (.mv s128))])
 (.seq (.reg [o 0 d129 (.q (.mv s0)),
 o 1 d130 (.q (.mv s1)),
 o 2 d131 (.q (.mv s16)),
 o 3 d132 (.q (.mv s3)),
 o 4 d133 (.q (.mv s4)),
 o 5 d134 (.call p136 [s129, s130, s131, s132, s133])])
 (.reg [o 0 d135 (.q (.mv s16)),
 o 1 d136 (.q (.bin .add s135 (.v (.int .i64 (.ofNat 1))))),
 o 2 d1 (.q (.mv s136))]))) (.seq (.reg [o 0 d137 (.q (.mv s19)),
 o 1 d138 (.q (.mv s20)),
 o 2 d139 (.q (.bin .geq s137 s138)),
 o 3 d10 (.q (.mv s139))])
 (.seq (.reg [o 0 d140 (.q (.mv s0)),
 o 1 d141 (.q (.mv s16)),
 o 2 d142 (.q (.bin .add s141 (.v (.int .i64 (.ofNat 1))))),
 o 3 d143 (.q (.mv s2)),
 o 4 d144 (.q (.mv s3)),
 o 5 d145 (.q (.mv s4)),
 o 6 d146 (.call p136 [s140, s142, s143, s144, s145])])
 (.reg [o 0 d147 (.q (.mv s16)),
 o 1 d2 (.q (.mv s147))]))))))))))))))))))))))
 []

noncomputable def f137 : FnE := .code 17
 (.seq (.reg [o 0 d4 (.q (.mv (.v (.int .u32 (.ofNat 0)))))])
 (.seq (.reg [o 0 d6 (.q (.mv s1)),
 o 1 d7 (.q (.cvi .u64 s6)),
 o 2 d8 (.q (.bin .and s7 (.v (.int .u64 (.ofNat 31))))),
 o 3 d5 (.q (.mv s8))])
 (.seq (.reg [o 0 d9 (.q (.mv s0)),
 o 1 d10 (.q (.mv s5)),
 o 2 d11 (.q (.shf true s9 s10)),
 o 3 d12 (.q (.mv s0)),
 o 4 d13 (.q (.mv s5)),
 o 5 d14 (.q (.bin .sub (.v (.int .u64 (.ofNat 32))) s13)),
 o 6 d15 (.q (.shf false s12 s14)),
 o 7 d16 (.q (.bin .or s11 s15)),
 o 8 d4 (.q (.mv s16))])
 .ret)))
 [.t p4]

noncomputable def f138 : FnE := .code 53
 (.seq (.reg [o 0 d10 (.q (.mv s1)),
 o 1 d11 (.q (.bin .add s10 (.v (.int .i64 (.ofNat 1))))),
 o 2 d8 (.q (.mv s11))])
 (.blk 0 (.loop (.seq (.seq (.reg [o 0 d12 (.q (.mv s8)),
 o 1 d13 (.q (.mv s2)),
 o 2 d14 (.q (.bin .lss s12 s13))])
 (.cnd s14 .skip (.exit 0)))
 (.seq (.blk 1 (.seq (.reg [o 0 d17 (.q (.mv s8)),
 o 1 d9 (.q (.mv s17))])
 (.blk 2 (.loop (.seq (.seq (.rgd 0 [o 0 d18 (.q (.mv s9)),
 o 1 d19 (.q (.mv s1)),
 o 2 d20 (.q (.bin .gtr s18 s19)),
 o 3 d21 (.q (.mv s20)),
 ⟨4, d22, (.q (.mv s3)), (some (p21, true)), []⟩,
 ⟨5, d23, (.q (.mv s0)), (some (p21, true)), []⟩,
 ⟨6, d24, (.q (.mv s9)), (some (p21, true)), []⟩,
 ⟨7, d25, (.q (.iadr s23 s24 32)), (some (p21, true)), []⟩,
 ⟨8, d26, (.q (.ldn s25 32)), (some (p21, true)), []⟩,
 ⟨9, d27, (.q (.mv s0)), (some (p21, true)), []⟩,
 ⟨10, d28, (.q (.mv s9)), (some (p21, true)), []⟩,
 ⟨11, d29, (.q (.bin .sub s28 (.v (.int .i64 (.ofNat 1))))), (some (p21, true)), []⟩,
 ⟨12, d30, (.q (.iadr s27 s29 32)), (some (p21, true)), []⟩,
 ⟨13, d31, (.q (.ldn s30 32)), (some (p21, true)), []⟩,
 ⟨14, d32, (.callv s22 [s26, s31]), (some (p21, true)), []⟩,
 ⟨15, d33, (.q (.bin .lss s32 (.v (.int .i64 (.ofNat 0))))), (some (p21, true)), []⟩,
 o 16 d34 (.q (.pick s21 s33 (.v (.bool false))))])
 (.cnd s34 .skip (.exit 2)))
 (.seq (.blk 3 (.rgd 0 [o 0 d37 (.q (.mv s0)),
 o 1 d38 (.q (.mv s9)),
 o 2 d39 (.q (.mv s0)),
 o 3 d40 (.q (.mv s9)),
 o 4 d41 (.q (.bin .sub s40 (.v (.int .i64 (.ofNat 1))))),
 o 5 d42 (.q (.mv s0)),
 o 6 d43 (.q (.mv s9)),
 o 7 d44 (.q (.bin .sub s43 (.v (.int .i64 (.ofNat 1))))),
 o 8 d45 (.q (.iadr s42 s44 32)),
 o 9 d46 (.q (.ldn s45 32)),
 o 10 d47 (.q (.mv s0)),
 o 11 d48 (.q (.mv s9)),
 o 12 d49 (.q (.iadr s47 s48 32)),
 o 13 d50 (.q (.ldn s49 32)),
 o 14 d51 (.q (.iadr s37 s38 32)),
 o 15 none (.e (.st s51 s46 32)),
 o 16 d52 (.q (.iadr s39 s41 32)),
 o 17 none (.e (.st s52 s50 32))]))
 (.reg [o 0 d35 (.q (.mv s9)),
 o 1 d36 (.q (.bin .sub s35 (.v (.int .i64 (.ofNat 1))))),
 o 2 d9 (.q (.mv s36))])))))))
 (.reg [o 0 d15 (.q (.mv s8)),
 o 1 d16 (.q (.bin .add s15 (.v (.int .i64 (.ofNat 1))))),
 o 2 d8 (.q (.mv s16))]))))))
 []

noncomputable def f147 : FnE := .code 25
 (.seq (.reg [o 0 d2 (.q (.mv (.v (.int .i64 (.ofNat 0)))))])
 (.seq (.seq (.reg [o 0 d3 (.q (.mv s0)),
 o 1 d4 (.q (.bin .geq s3 (.v (.int .u64 (.ofNat 4294967296)))))])
 (.cnd s4 (.seq (.reg [o 0 d5 (.q (.mv s0)),
 o 1 d6 (.q (.shf false s5 (.v (.int .u64 (.ofNat 32))))),
 o 2 d0 (.q (.mv s6))])
 (.reg [o 0 d2 (.q (.mv (.v (.int .i64 (.ofNat 32)))))])) .skip))
 (.seq (.seq (.reg [o 0 d7 (.q (.mv s0)),
 o 1 d8 (.q (.bin .geq s7 (.v (.int .u64 (.ofNat 65536)))))])
 (.cnd s8 (.seq (.reg [o 0 d9 (.q (.mv s0)),
 o 1 d10 (.q (.shf false s9 (.v (.int .u64 (.ofNat 16))))),
 o 2 d0 (.q (.mv s10))])
 (.reg [o 0 d11 (.q (.mv s2)),
 o 1 d12 (.q (.bin .add s11 (.v (.int .i64 (.ofNat 16))))),
 o 2 d2 (.q (.mv s12))])) .skip))
 (.seq (.seq (.reg [o 0 d13 (.q (.mv s0)),
 o 1 d14 (.q (.bin .geq s13 (.v (.int .u64 (.ofNat 256)))))])
 (.cnd s14 (.seq (.reg [o 0 d15 (.q (.mv s0)),
 o 1 d16 (.q (.shf false s15 (.v (.int .u64 (.ofNat 8))))),
 o 2 d0 (.q (.mv s16))])
 (.reg [o 0 d17 (.q (.mv s2)),
 o 1 d18 (.q (.bin .add s17 (.v (.int .i64 (.ofNat 8))))),
 o 2 d2 (.q (.mv s18))])) .skip))
 (.seq (.reg [o 0 d19 (.q (.mv s2)),
 o 1 d20 (.q (.mv s0)),
 o 2 d21 (.q (.cvi .u8 s20)),
 o 3 d22 (.q (.idxs (.v (.str [0, 1, 2, 2, 3, 3, 3, 3, 4, 4, 4, 4, 4, 4, 4, 4, 5, 5, 5, 5, 5, 5, 5, 5, 5, 5, 5, 5, 5, 5, 5, 5, 6, 6, 6, 6, 6, 6, 6, 6, 6, 6, 6, 6, 6, 6, 6, 6, 6, 6, 6, 6, 6, 6, 6, 6, 6, 6, 6, 6, 6, 6, 6, 6, 7, 7, 7, 7, 7, 7, 7, 7, 7, 7, 7, 7, 7, 7, 7, 7, 7, 7, 7, 7, 7, 7, 7, 7, 7, 7, 7, 7, 7, 7, 7, 7, 7, 7, 7, 7, 7, 7, 7, 7, 7, 7, 7, 7, 7, 7, 7, 7, 7, 7, 7, 7, 7, 7, 7, 7, 7, 7, 7, 7, 7, 7, 7, 7, 8, 8, 8, 8, 8, 8, 8, 8, 8, 8, 8, 8, 8, 8, 8, 8, 8, 8, 8, 8, 8, 8, 8, 8, 8, 8, 8, 8, 8, 8, 8, 8, 8, 8, 8, 8, 8, 8, 8, 8, 8, 8, 8, 8, 8, 8, 8, 8, 8, 8, 8, 8, 8, 8, 8, 8, 8, 8, 8, 8, 8, 8, 8, 8, 8, 8, 8, 8, 8, 8, 8, 8, 8, 8, 8, 8, 8, 8, 8, 8, 8, 8, 8, 8, 8, 8, 8, 8, 8, 8, 8, 8, 8, 8, 8, 8, 8, 8, 8, 8, 8, 8, 8, 8, 8, 8, 8, 8, 8, 8, 8, 8, 8, 8, 8, 8, 8, 8, 8, 8, 8, 8, 8, 8, 8, 8, 8, 8])) s21)),
 o 4 d23 (.q (.cvi .i64 s22)),
 o 5 d24 (.q (.bin .add s19 s23)),
 o 6 d2 (.q (.mv s24))])
 .ret)))))
 [.t p2]

noncomputable def f148 : FnE := .code 14
 (.seq (.reg [o 0 d4 (.q (.ld1 s1)),
 o 1 d5 (.e (.rgm s4))])
 (.blk 0 (.loop (.seq (.reg [o 0 d6 (.e (.nxm s5)),
 o 1 d7 (.q (.ext s6 0))])
 (.seq (.cnd s7 .skip (.exit 0))
 (.blk 1 (.seq (.reg [o 0 d8 (.e (.ent s5)),
 o 1 d9 (.q (.ext s8 0)),
 o 2 d3 (.e (.alo (zz (.int .u8 (.ofNat 0)) 32))),
 o 3 none (.e (.st s3 s9 32))])
 (.seq (.reg [o 0 d10 (.q (.mv s0)),
 o 1 d11 (.q (.ldn s3 32)),
 o 2 d12 (.callv s10 [s11]),
 o 3 d13 (.q (.not s12))])
 (.cnd s13 .ret .skip)))))))))
 []

noncomputable def f149 : FnE := .code 26
 (.seq (.reg [o 0 d4 (.q (.mv (.v (.int .u64 (.ofNat 0)))))])
 (.seq (.reg [o 0 d5 (.q (.mv (.v (.int .u64 (.ofNat 0)))))])
 (.seq (.seq (.reg [o 0 d8 (.q (.mv s0)),
 o 1 d9 (.q (.mv s1)),
 o 2 d10 (.call p151 [s8, s9]),
 o 3 d11 (.q (.lenv s10)),
 o 4 d12 (.q (.mv (.v (.int .i64 (.ofNat 0)))))])
 (.blk 0 (.loop (.seq (.reg [o 0 d13 (.q (.bin .lss s12 s11))])
 (.seq (.cnd s13 .skip (.exit 0))
 (.seq (.blk 1 (.seq (.reg [o 0 d14 (.q (.mv s12)),
 o 1 d15 (.q (.iadr s10 s12 1)),
 o 2 d16 (.q (.ld1 s15)),
 o 3 d6 (.q (.mv s14)),
 o 4 d7 (.q (.mv s16))])
 (.reg [o 0 d17 (.q (.mv s5)),
 o 1 d18 (.q (.mv s7)),
 o 2 d19 (.q (.cvi .u64 s18)),
 o 3 d20 (.q (.mv s6)),
 o 4 d21 (.q (.bin .mul (.v (.int .i64 (.ofNat 8))) s20)),
 o 5 d22 (.q (.shf true s19 s21)),
 o 6 d23 (.q (.bin .or s17 s22)),
 o 7 d5 (.q (.mv s23))])))
 (.reg [o 0 d24 (.q (.bin .add s12 (.v (.int .i64 (.ofNat 1))))),
 o 1 d12 (.q (.mv s24))])))))))
 (.seq (.reg [o 0 d25 (.q (.mv s5)),
 o 1 d4 (.q (.mv s25))])
 .ret))))
 [.t p4]

noncomputable def f150 : FnE := .code 12
 (.seq (.reg [o 0 d2 (.q (.mv (.v (.int .i64 (.ofNat 0)))))])
 (.seq (.blk 0 (.seq (.reg [o 0 d4 (.q (.mv s0)),
 o 1 d5 (.q (.bin .lss s4 (.v (.int .u64 (.ofNat 253))))),
 o 2 d3 (.q (.mv s5))])
 (.cnd s3 (.seq (.reg [o 0 d2 (.q (.mv (.v (.int .i64 (.ofNat 1)))))])
 .ret) (.seq (.reg [o 0 d7 (.q (.mv s0)),
 o 1 d8 (.q (.bin .lss s7 (.v (.int .u64 (.ofNat 65536))))),
 o 2 d6 (.q (.mv s8))])
 (.cnd s6 (.seq (.reg [o 0 d2 (.q (.mv (.v (.int .i64 (.ofNat 3)))))])
 .ret) (.seq (.reg [o 0 d10 (.q (.mv s0)),
 o 1 d11 (.q (.bin .lss s10 (.v (.int .u64 (.ofNat 4294967296))))),
 o 2 d9 (.q (.mv s11))])
 (.cnd s9 (.seq (.reg [o 0 d2 (.q (.mv (.v (.int .i64 (.ofNat 5)))))])
 .ret) .skip)))))))
 (.seq (.reg [o 0 d2 (.q (.mv (.v (.int .i64 (.ofNat 9)))))])
 .ret)))
 [.t p2]

noncomputable def f151 : FnE := .code 49
 (.seq (.reg [o 0 d4 (.q (.mv (.v .nils)))])
 (.seq (.seq (.reg [o 0 d5 (.q (.mv s0)),
 o 1 d6 (.q (.nck s5)),
 o 2 d7 (.q (.fadr s6 2)),
 o 3 d8 (.q (.ld1 s7)),
 o 4 d9 (.q (.eqp (.iface true) true s8 (.v .nili)))])
 (.cnd s9 (.seq (.reg [o 0 d4 (.q (.mv (.v .nils)))])
 .ret) .skip))
 (.seq (.seq (.rgd 0 [o 0 d10 (.q (.mv s1)),
 o 1 d11 (.q (.mv s0)),
 o 2 d12 (.q (.nck s11)),
 o 3 d13 (.q (.fadr s12 0)),
 o 4 d14 (.q (.ld1 s13)),
 o 5 d15 (.q (.lenv s14)),
 o 6 d16 (.q (.mv s0)),
 o 7 d17 (.q (.nck s16)),
 o 8 d18 (.q (.fadr s17 1)),
 o 9 d19 (.q (.ld1 s18)),
 o 10 d20 (.q (.bin .sub s15 s19)),
 o 11 d21 (.q (.bin .gtr s10 s20))])
 (.cnd s21 (.seq (.reg [o 0 d22 (.q (.mv s0)),
 o 1 d23 (.q (.ld1 (.g p3))),
 o 2 d24 (.q (.nck s22)),
 o 3 d25 (.q (.fadr s24 2)),
 o 4 none (.e (.st s25 s23 1))])
 (.seq (.reg [o 0 d4 (.q (.mv (.v .nils)))])
 .ret)) .skip))
 (.seq (.reg [o 0 d26 (.q (.mv s0)),
 o 1 d27 (.q (.nck s26)),
 o 2 d28 (.q (.fadr s27 1)),
 o 3 d29 (.q (.ld1 s28)),
 o 4 d30 (.q (.mv s1)),
 o 5 d31 (.q (.bin .add s29 s30)),
 o 6 d32 (.q (.nck s26)),
 o 7 d33 (.q (.fadr s32 1)),
 o 8 none (.e (.st s33 s31 1))])
 (.seq (.rgd 0 [o 0 d34 (.q (.mv s0)),
 o 1 d35 (.q (.nck s34)),
 o 2 d36 (.q (.fadr s35 0)),
 o 3 d37 (.q (.ld1 s36)),
 o 4 d38 (.q (.mv s0)),
 o 5 d39 (.q (.nck s38)),
 o 6 d40 (.q (.fadr s39 1)),
 o 7 d41 (.q (.ld1 s40)),
 o 8 d42 (.q (.mv s1)),
 o 9 d43 (.q (.bin .sub s41 s42)),
 o 10 d44 (.q (.mv s0)),
 o 11 d45 (.q (.nck s44)),
 o 12 d46 (.q (.fadr s45 1)),
 o 13 d47 (.q (.ld1 s46)),
 o 14 d48 (.q (.slc s37 (some s43) (some s47) 1)),
 o 15 d4 (.q (.mv s48))])
 .ret)))))
 [.t p4]

noncomputable def f165 : FnE := .code 38
 (.seq (.reg [o 0 d4 (.q (.mv (.v .nils)))])
 (.seq (.reg [o 0 d7 (.q (.mv s0)),
 o 1 d8 (.call p73 [s7]),
 o 2 d5 (.q (.mv s8))])
 (.seq (.seq (.reg [o 0 d9 (.q (.mv s1)),
 o 1 d10 (.call p150 [s9]),
 o 2 d6 (.q (.mv s10))])
 (.seq (.reg [o 0 d11 (.q (.mv s6))])
 (.blk 0 (.seq (.reg [o 0 d13 (.q (.bin .eql s11 (.v (.int .i64 (.ofNat 1))))),
 o 1 d12 (.q (.mv s13))])
 (.cnd s12 (.seq (.reg [o 0 d14 (.q (.mv s5)),
 o 1 d15 (.q (.mv s1)),
 o 2 d16 (.q (.cvi .u8 s15)),
 o 3 d17 (.e (.bsl [(.int .u8 (.ofNat 0))] [(0, 1, s16)] 1 1)),
 o 4 d18 (.e (.app s14 s17 1 1 false)),
 o 5 d4 (.q (.mv s18))])
 .ret) (.seq (.reg [o 0 d20 (.q (.bin .eql s11 (.v (.int .i64 (.ofNat 3))))),
 o 1 d19 (.q (.mv s20))])
 (.cnd s19 (.seq (.reg [o 0 d21 (.q (.mv s5)),
 o 1 d22 (.e (.bsl [(.int .u8 (.ofNat 0))] [(0, 1, (.v (.int .u8 (.ofNat 253))))] 1 1)),
 o 2 d23 (.e (.app s21 s22 1 1 false)),
 o 3 d24 (.q (.mv s1)),
 o 4 d25 (.call p113 [s23, s24, (.v (.int .i64 (.ofNat 2)))]),
 o 5 d4 (.q (.mv s25))])
 .ret) (.seq (.reg [o 0 d27 (.q (.bin .eql s11 (.v (.int .i64 (.ofNat 5))))),
 o 1 d26 (.q (.mv s27))])
 (.cnd s26 (.seq (.reg [o 0 d28 (.q (.mv s5)),
 o 1 d29 (.e (.bsl [(.int .u8 (.ofNat 0))] [(0, 1, (.v (.int .u8 (.ofNat 254))))] 1 1)),
 o 2 d30 (.e (.app s28 s29 1 1 false)),
 o 3 d31 (.q (.mv s1)),
 o 4 d32 (.call p113 [s30, s31, (.v (.int .i64 (.ofNat 4)))]),
 o 5 d4 (.q (.mv s32))])
 .ret) .skip)))))))))
 (.seq (.reg [o 0 d33 (.q (.mv s5)),
 o 1 d34 (.e (.bsl [(.int .u8 (.ofNat 0))] [(0, 1, (.v (.int .u8 (.ofNat 255))))] 1 1)),
 o 2 d35 (.e (.app s33 s34 1 1 false)),
 o 3 d36 (.q (.mv s1)),
 o 4 d37 (.call p113 [s35, s36, (.v (.int .i64 (.ofNat 8)))]),
 o 5 d4 (.q (.mv s37))])
 .ret))))
 [.t p4]

noncomputable def f168 : FnE := .code 49
 (.seq (.reg [o 0 d8 (.q (.mv s1)),
 o 1 d9 (.q (.bin .add s8 (.v (.int .i64 (.ofNat 1))))),
 o 2 d6 (.q (.mv s9))])
 (.blk 0 (.loop (.seq (.seq (.reg [o 0 d10 (.q (.mv s6)),
 o 1 d11 (.q (.mv s2)),
 o 2 d12 (.q (.bin .lss s10 s11))])
 (.cnd s12 .skip (.exit 0)))
 (.seq (.blk 1 (.seq (.reg [o 0 d15 (.q (.mv s6)),
 o 1 d7 (.q (.mv s15))])
 (.blk 2 (.loop (.seq (.seq (.rgd 0 [o 0 d16 (.q (.mv s7)),
 o 1 d17 (.q (.mv s1)),
 o 2 d18 (.q (.bin .gtr s16 s17)),
 o 3 d19 (.q (.mv s18)),
 ⟨4, d20, (.q (.mv s0)), (some (p19, true)), []⟩,
 ⟨5, d21, (.q (.mv s7)), (some (p19, true)), []⟩,
 ⟨6, d22, (.q (.iadr s20 s21 1)), (some (p19, true)), []⟩,
 ⟨7, d23, (.q (.ld1 s22)), (some (p19, true)), []⟩,
 ⟨8, d24, (.q (.mv s0)), (some (p19, true)), []⟩,
 ⟨9, d25, (.q (.mv s7)), (some (p19, true)), []⟩,
 ⟨10, d26, (.q (.bin .sub s25 (.v (.int .i64 (.ofNat 1))))), (some (p19, true)), []⟩,
 ⟨11, d27, (.q (.iadr s24 s26 1)), (some (p19, true)), []⟩,
 ⟨12, d28, (.q (.ld1 s27)), (some (p19, true)), []⟩,
 ⟨13, d29, (.call p174 [s23, s28]), (some (p19, true)), []⟩,
 o 14 d30 (.q (.pick s19 s29 (.v (.bool false))))])
 (.cnd s30 .skip (.exit 2)))
 (.seq (.blk 3 (.rgd 0 [o 0 d33 (.q (.mv s0)),
 o 1 d34 (.q (.mv s7)),
 o 2 d35 (.q (.mv s0)),
 o 3 d36 (.q (.mv s7)),
 o 4 d37 (.q (.bin .sub s36 (.v (.int .i64 (.ofNat 1))))),
 o 5 d38 (.q (.mv s0)),
 o 6 d39 (.q (.mv s7)),
 o 7 d40 (.q (.bin .sub s39 (.v (.int .i64 (.ofNat 1))))),
 o 8 d41 (.q (.iadr s38 s40 1)),
 o 9 d42 (.q (.ld1 s41)),
 o 10 d43 (.q (.mv s0)),
 o 11 d44 (.q (.mv s7)),
 o 12 d45 (.q (.iadr s43 s44 1)),
 o 13 d46 (.q (.ld1 s45)),
 o 14 d47 (.q (.iadr s33 s34 1)),
 o 15 none (.e (.st s47 s42 1)),
 o 16 d48 (.q (.iadr s35 s37 1)),
 o 17 none (.e (.st s48 s46 1))]))
 (.reg [o 0 d31 (.q (.mv s7)),
 o 1 d32 (.q (.bin .sub s31 (.v (.int .i64 (.ofNat 1))))),
 o 2 d7 (.q (.mv s32))])))))))
 (.reg [o 0 d13 (.q (.mv s6)),
 o 1 d14 (.q (.bin .add s13 (.v (.int .i64 (.ofNat 1))))),
 o 2 d6 (.q (.mv s14))]))))))
 []

noncomputable def f177 : FnE := .code 53
 (.seq (.reg [o 0 d10 (.q (.mv s1)),
 o 1 d11 (.q (.bin .add s10 (.v (.int .i64 (.ofNat 1))))),
 o 2 d8 (.q (.mv s11))])
 (.blk 0 (.loop (.seq (.seq (.reg [o 0 d12 (.q (.mv s8)),
 o 1 d13 (.q (.mv s2)),
 o 2 d14 (.q (.bin .lss s12 s13))])
 (.cnd s14 .skip (.exit 0)))
 (.seq (.blk 1 (.seq (.reg [o 0 d17 (.q (.mv s8)),
 o 1 d9 (.q (.mv s17))])
 (.blk 2 (.loop (.seq (.seq (.rgd 0 [o 0 d18 (.q (.mv s9)),
 o 1 d19 (.q (.mv s1)),
 o 2 d20 (.q (.bin .gtr s18 s19)),
 o 3 d21 (.q (.mv s20)),
 ⟨4, d22, (.q (.mv s3)), (some (p21, true)), []⟩,
 ⟨5, d23, (.q (.mv s0)), (some (p21, true)), []⟩,
 ⟨6, d24, (.q (.mv s9)), (some (p21, true)), []⟩,
 ⟨7, d25, (.q (.iadr s23 s24 33)), (some (p21, true)), []⟩,
 ⟨8, d26, (.q (.ldn s25 33)), (some (p21, true)), []⟩,
 ⟨9, d27, (.q (.mv s0)), (some (p21, true)), []⟩,
 ⟨10, d28, (.q (.mv s9)), (some (p21, true)), []⟩,
 ⟨11, d29, (.q (.bin .sub s28 (.v (.int .i64 (.ofNat 1))))), (some (p21, true)), []⟩,
 ⟨12, d30, (.q (.iadr s27 s29 33)), (some (p21, true)), []⟩,
 ⟨13, d31, (.q (.ldn s30 33)), (some (p21, true)), []⟩,
 ⟨14, d32, (.callv s22 [s26, s31]), (some (p21, true)), []⟩,
 ⟨15, d33, (.q (.bin .lss s32 (.v (.int .i64 (.ofNat 0))))), (some (p21, true)), []⟩,
 o 16 d34 (.q (.pick s21 s33 (.v (.bool false))))])
 (.cnd s34 .skip (.exit 2)))
 (.seq (.blk 3 (.rgd 0 [o 0 d37 (.q (.mv s0)),
 o 1 d38 (.q (.mv s9)),
 o 2 d39 (.q (.mv s0)),
 o 3 d40 (.q (.mv s9)),
 o 4 d41 (.q (.bin .sub s40 (.v (.int .i64 (.ofNat 1))))),
 o 5 d42 (.q (.mv s0)),
 o 6 d43 (.q (.mv s9)),
 o 7 d44 (.q (.bin .sub s43 (.v (.int .i64 (.ofNat 1))))),
 o 8 d45 (.q (.iadr s42 s44 33)),
 o 9 d46 (.q (.ldn s45 33)),
 o 10 d47 (.q (.mv s0)),
 o 11 d48 (.q (.mv s9)),
 o 12 d49 (.q (.iadr s47 s48 33)),
 o 13 d50 (.q (.ldn s49 33)),
 o 14 d51 (.q (.iadr s37 s38 33)),
 o 15 none (.e (.st s51 s46 33)),
 o 16 d52 (.q (.iadr s39 s41 33)),
 o 17 none (.e (.st s52 s50 33))]))
 (.reg [o 0 d35 (.q (.mv s9)),
 o 1 d36 (.q (.bin .sub s35 (.v (.int .i64 (.ofNat 1))))),
 o 2 d9 (.q (.mv s36))])))))))
 (.reg [o 0 d15 (.q (.mv s8)),
 o 1 d16 (.q (.bin .add s15 (.v (.int .i64 (.ofNat 1))))),
 o 2 d8 (.q (.mv s16))]))))))
 []

noncomputable def tabA : T FnE := (.node (.node (.node (.node (.node (.node .nil (some f31) (.node .nil (some f95) .nil)) (some f15) (.node (.node .nil (some f79) .nil) (some f47) (.node .nil (some f111) .nil))) (some f7) (.node (.node (.node .nil (some f71) .nil) (some f39) (.node .nil (some f103) .nil)) (some f23) (.node (.node (.node .nil (some f151) .nil) none .nil) none (.node .nil (some f119) .nil)))) (some f3) (.node (.node (.node (.node .nil (some f67) .nil) (some f35) (.node .nil (some f99) .nil)) (some f19) (.node (.node (.node .nil (some f147) .nil) none .nil) (some f51) (.node .nil (some f115) .nil))) (some f11) (.node (.node (.node .nil (some f75) .nil) none (.node .nil (some f107) .nil)) (some f27) (.node (.node .nil (some f91) .nil) (some f59) .nil)))) none (.node (.node (.node (.node (.node .nil (some f65) .nil) (some f33) (.node .nil (some f97) .nil)) (some f17) (.node .nil (some f49) (.node (.node .nil (some f177) .nil) (some f113) .nil))) (some f9) (.node (.node (.node (.node .nil (some f137) .nil) (some f73) .nil) (some f41) (.node .nil (some f105) .nil)) (some f25) (.node .nil (some f57) (.node .nil (some f121) .nil)))) (some f5) (.node (.node (.node (.node .nil (some f69) .nil) (some f37) (.node (.node .nil (some f165) .nil) (some f101) .nil)) (some f21) (.node (.node (.node .nil (some f149) .nil) (some f85) .nil) (some f53) .nil)) (some f13) (.node (.node (.node .nil (some f77) .nil) (some f45) (.node .nil (some f109) .nil)) (some f29) (.node (.node .nil (some f93) .nil) none .nil))))) none (.node (.node (.node (.node (.node .nil (some f32) (.node .nil (some f96) .nil)) (some f16) (.node (.node .nil (some f80) .nil) none (.node .nil (some f112) .nil))) (some f8) (.node (.node (.node (.node .nil (some f136) .nil) (some f72) .nil) (some f40) (.node (.node .nil (some f168) .nil) (some f104) .nil)) (some f24) (.node .nil none (.node .nil (some f120) .nil)))) (some f4) (.node (.node (.node (.node .nil (some f68) .nil) (some f36) (.node .nil (some f100) .nil)) (some f20) (.node (.node (.node .nil (some f148) .nil) (some f84) .nil) (some f52) (.node .nil (some f116) .nil))) (some f12) (.node (.node (.node .nil (some f76) .nil) (some f44) (.node .nil (some f108) .nil)) (some f28) (.node .nil (some f60) .nil)))) none (.node (.node (.node (.node (.node (.node .nil (some f130) .nil) (some f66) .nil) (some f34) (.node .nil (some f98) .nil)) (some f18) (.node .nil (some f50) .nil)) (some f10) (.node (.node (.node (.node .nil (some f138) .nil) (some f74) .nil) (some f42) (.node .nil (some f106) .nil)) (some f26) (.node .nil (some f58) .nil))) (some f6) (.node (.node (.node (.node (.node .nil (some f134) .nil) none .nil) (some f38) (.node .nil (some f102) .nil)) (some f22) (.node (.node (.node .nil (some f150) .nil) (some f86) .nil) (some f54) (.node .nil (some f118) .nil))) (some f14) (.node (.node (.node .nil (some f78) .nil) (some f46) (.node .nil (some f110) .nil)) (some f30) (.node (.node .nil (some f94) .nil) (some f62) .nil))))))
end Go.Proofs.YtcecdaeceipbnaaGreatDoor.Ir
