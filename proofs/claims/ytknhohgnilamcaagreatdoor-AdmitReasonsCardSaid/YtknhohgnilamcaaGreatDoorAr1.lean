/-
  The functions of the road, for the machine. (Written by a program.)
-/
import Derived.Test.YtknhohgnilamcaaGreatDoorAr0
namespace Go.Proofs.YtknhohgnilamcaaGreatDoor.Ir
set_option linter.unusedVariables false
set_option maxRecDepth 100000
open Go Go.Proofs.YtknhohgnilamcaaGreatDoor
noncomputable def f7 : FnE := .code 68
 (.seq (.reg [o 0 d4 (.q (.mv (.v (.bool false))))])
 (.seq (.reg [o 0 d11 (.call p23 []),
 o 1 d5 (.q (.mv s11))])
 (.seq (.seq (.reg [o 0 d12 (.q (.mv s5)),
 o 1 d13 (.q (.not s12))])
 (.cnd s13 (.seq (.reg [o 0 d4 (.q (.mv (.v (.bool false))))])
 .ret) .skip))
 (.seq (.reg [o 0 d14 (.call p24 []),
 o 1 d6 (.q (.mv s14))])
 (.seq (.reg [o 0 d15 (.q (.mv s0)),
 o 1 d16 (.q (.mv s6)),
 o 2 d17 (.q (.lenv s16)),
 o 3 d18 (.call p9 [s15, s17]),
 o 4 d0 (.q (.mv s18))])
 (.seq (.reg [o 0 d19 (.q (.mv s0)),
 o 1 d20 (.q (.bin .add (.v (.int .i64 (.ofNat 101))) s19)),
 o 2 d21 (.call p25 [s20]),
 o 3 d7 (.q (.mv s21))])
 (.seq (.reg [o 0 d22 (.q (.mv s6)),
 o 1 d23 (.q (.mv s0)),
 o 2 d24 (.q (.iadr s22 s23 1)),
 o 3 d25 (.q (.ld1 s24)),
 o 4 d26 (.call p26 [s25]),
 o 5 d8 (.q (.mv s26))])
 (.seq (.reg [o 0 d27 (.q (.mv s1)),
 o 1 d28 (.q (.mv s6)),
 o 2 d29 (.q (.mv s0)),
 o 3 d30 (.q (.iadr s28 s29 1)),
 o 4 d31 (.q (.ld1 s30)),
 o 5 d32 (.q (.bld [(.int .i64 (.ofNat 0)), .nili] [(0, 1, s27), (1, 1, s31)])),
 o 6 d33 (.e (.box s32 2)),
 o 7 d34 (.q (.mki 77 s33)),
 o 8 d35 (.call p26 [s34]),
 o 9 d9 (.q (.mv s35))])
 (.seq (.reg [o 0 d36 (.q (.mv s1)),
 o 1 d37 (.q (.mv s6)),
 o 2 d38 (.q (.mv s0)),
 o 3 d39 (.q (.iadr s37 s38 1)),
 o 4 d40 (.q (.ld1 s39)),
 o 5 d41 (.q (.bld [(.int .i64 (.ofNat 0)), .nili] [(0, 1, s36), (1, 1, s40)])),
 o 6 d42 (.e (.box s41 2)),
 o 7 d43 (.q (.mki 77 s42)),
 o 8 d44 (.q (.bld [(.int .i64 (.ofNat 0)), .nili] [(0, 1, (.v (.int .i64 (.ofNat 1)))), (1, 1, s43)])),
 o 9 d45 (.e (.box s44 2)),
 o 10 d46 (.q (.mki 77 s45)),
 o 11 d47 (.call p26 [s46]),
 o 12 d10 (.q (.mv s47))])
 (.seq (.reg [o 0 d48 (.q (.mv s5)),
 o 1 d49 (.q (.mv s48)),
 ⟨2, d50, (.q (.mv s8)), (some (p49, true)), []⟩,
 ⟨3, d51, (.q (.mv s7)), (some (p49, true)), []⟩,
 ⟨4, d52, (.q (.bin .eql s50 s51)), (some (p49, true)), []⟩,
 o 5 d53 (.q (.pick s49 s52 (.v (.bool false)))),
 o 6 d54 (.q (.mv s53)),
 ⟨7, d55, (.q (.mv s9)), (some (p54, true)), []⟩,
 ⟨8, d56, (.q (.mv s7)), (some (p54, true)), []⟩,
 ⟨9, d57, (.q (.bin .eql s55 s56)), (some (p54, true)), []⟩,
 o 10 d58 (.q (.pick s54 s57 (.v (.bool false)))),
 o 11 d59 (.q (.mv s58)),
 ⟨12, d60, (.q (.mv s10)), (some (p59, true)), []⟩,
 ⟨13, d61, (.q (.mv s7)), (some (p59, true)), []⟩,
 ⟨14, d62, (.q (.bin .eql s60 s61)), (some (p59, true)), []⟩,
 o 15 d63 (.q (.pick s59 s62 (.v (.bool false)))),
 o 16 d64 (.q (.mv s63)),
 ⟨17, d65, (.call p26 [(.v .nili)]), (some (p64, true)), []⟩,
 ⟨18, d66, (.q (.bin .eql s65 (.v (.int .i64 (.ofNat 0))))), (some (p64, true)), []⟩,
 o 19 d67 (.q (.pick s64 s66 (.v (.bool false)))),
 o 20 d4 (.q (.mv s67))])
 .ret))))))))))
 [.t p4]

noncomputable def f23 : FnE := .code 23
 (.seq (.reg [o 0 d0 (.q (.mv (.v (.bool false))))])
 (.seq (.reg [o 0 d4 (.q (.bld [.nilm, .nilm, (.int .i64 (.ofNat 0)), (.int .i64 (.ofNat 0)), (.int .i64 (.ofNat 0)), (.int .u64 (.ofNat 0))] [])),
 o 1 d5 (.e (.box s4 6)),
 o 2 d6 (.q (.bld [.nilm] [])),
 o 3 d7 (.e (.box s6 1)),
 o 4 d8 (.q (.bld (zz (.int .u8 (.ofNat 0)) 32) [])),
 o 5 d9 (.call p59 [(.v (.int .i64 (.ofNat 1))), (.v (.int .u64 (.ofNat 1))), s8, (.v .nils)]),
 o 6 d10 (.e (.bsl [(.int .u32 (.ofNat 0))] [(0, 1, (.v (.int .u32 (.ofNat 5))))] 1 1)),
 o 7 d11 (.q (.bld [(.int .i64 (.ofNat 0)), .nils] [(0, 1, (.v (.int .i64 (.ofNat 1)))), (1, 1, s10)])),
 o 8 d12 (.call p29 [(.v (.int .i64 (.ofNat 0)))]),
 o 9 d13 (.call p58 [s5, s7, s9, s11, s12]),
 o 10 d3 (.q (.mv s13)),
 o 11 d14 (.q (.ext s3 0)),
 o 12 d15 (.q (.ext s3 1)),
 o 13 d1 (.q (.mv s14)),
 o 14 d2 (.q (.mv s15))])
 (.seq (.reg [o 0 d16 (.q (.mv s2)),
 o 1 d17 (.call p13 [s16, (.v (.int .i64 (.ofNat 107)))]),
 o 2 d18 (.q (.mv s17)),
 ⟨3, d19, (.q (.ld1 (.g p2))), (some (p18, true)), []⟩,
 ⟨4, d20, (.call p26 [s19]), (some (p18, true)), []⟩,
 ⟨5, d21, (.q (.bin .eql s20 (.v (.int .i64 (.ofNat 2))))), (some (p18, true)), []⟩,
 o 6 d22 (.q (.pick s18 s21 (.v (.bool false)))),
 o 7 d0 (.q (.mv s22))])
 .ret)))
 [.t p0]

noncomputable def f59 : FnE := .code 24
 (.seq (.reg [o 0 d6 (.e (.box s2 32)),
 o 1 d8 (.e (.alo [(.int .u32 (.ofNat 0)), .nils, .nils, (.int .u32 (.ofNat 0))]))])
 (.seq (.reg [o 0 d10 (.q (.mv s0)),
 o 1 d11 (.q (.cvi .u32 s10)),
 o 2 d12 (.call p79 [(.v .nils), s11]),
 o 3 d13 (.q (.mv s3)),
 o 4 d14 (.e (.app s12 s13 1 1 false)),
 o 5 d9 (.q (.mv s14))])
 (.seq (.rgd 2 [o 1 d16 (.q (.mv s9)),
 o 4 d19 (.q (.mv s1)),
 o 5 d20 (.q (.ldn s6 32)),
 o 6 d21 (.q (.bld (lapp [(.int .u64 (.ofNat 0))] (zz (.int .u8 (.ofNat 0)) 32)) [(0, 1, s19), (1, 32, s20)])),
 ⟨0, d15, (.call p105 []), none, [(p20, .ldn s6 32, none)]⟩,
 o 2 d17 (.q (.bld (lapp (zz (.int .u8 (.ofNat 0)) 32) [(.int .u32 (.ofNat 0)), .nils, (.int .u32 (.ofNat 0))]) [(0, 33, s15), (33, 1, s16), (34, 1, (.v (.int .u32 (.ofNat 4294967295))))])),
 ⟨3, d18, (.l (.bsl (lapp (zz (.int .u8 (.ofNat 0)) 32) [(.int .u32 (.ofNat 0)), .nils, (.int .u32 (.ofNat 0))]) [(0, 35, s17)] 1 35) 0), none, [(p20, .ldn s6 32, none)]⟩,
 o 7 d22 (.l (.bsl (lapp [(.int .u64 (.ofNat 0))] (zz (.int .u8 (.ofNat 0)) 32)) [(0, 33, s21)] 1 33) 1),
 o 8 d23 (.q (.bld [(.int .u32 (.ofNat 0)), .nils, .nils, (.int .u32 (.ofNat 0))] [(0, 1, (.v (.int .u32 (.ofNat 1)))), (1, 1, s18), (2, 1, s22)])),
 o 9 none (.e (.st s8 s23 4))])
 .ret)))
 [.cn p8 4]

noncomputable def f79 : FnE := .code 9
 (.seq (.reg [o 0 d4 (.q (.mv (.v .nils)))])
 (.seq (.reg [o 0 d5 (.q (.mv s0)),
 o 1 d6 (.q (.mv s1)),
 o 2 d7 (.q (.cvi .u64 s6)),
 o 3 d8 (.call p133 [s5, s7, (.v (.int .i64 (.ofNat 4)))]),
 o 4 d4 (.q (.mv s8))])
 .ret))
 [.t p4]

noncomputable def f133 : FnE := .code 23
 (.seq (.reg [o 0 d6 (.q (.mv (.v .nils)))])
 (.seq (.seq (.reg [o 0 d7 (.q (.mv (.v (.int .i64 (.ofNat 0)))))])
 (.blk 0 (.loop (.seq (.seq (.reg [o 0 d8 (.q (.mv s7)),
 o 1 d9 (.q (.mv s2)),
 o 2 d10 (.q (.bin .lss s8 s9))])
 (.cnd s10 .skip (.exit 0)))
 (.seq (.blk 1 (.reg [o 0 d13 (.q (.mv s0)),
 o 1 d14 (.q (.mv s1)),
 o 2 d15 (.q (.mv s7)),
 o 3 d16 (.q (.bin .mul (.v (.int .i64 (.ofNat 8))) s15)),
 o 4 d17 (.q (.cvi .u64 s16)),
 o 5 d18 (.q (.shf false s14 s17)),
 o 6 d19 (.q (.cvi .u8 s18)),
 o 7 d20 (.e (.bsl [(.int .u8 (.ofNat 0))] [(0, 1, s19)] 1 1)),
 o 8 d21 (.e (.app s13 s20 1 1 false)),
 o 9 d0 (.q (.mv s21))]))
 (.reg [o 0 d11 (.q (.mv s7)),
 o 1 d12 (.q (.bin .add s11 (.v (.int .i64 (.ofNat 1))))),
 o 2 d7 (.q (.mv s12))]))))))
 (.seq (.reg [o 0 d22 (.q (.mv s0)),
 o 1 d6 (.q (.mv s22))])
 .ret)))
 [.t p6]

noncomputable def f105 : FnE := .code 2
 (.seq (.reg [o 0 d0 (.e (.alo (lapp (zz (.int .u8 (.ofNat 0)) 32) [(.int .u32 (.ofNat 0))])))])
 (.seq (.reg [o 0 d1 (.q (.bld (lapp (zz (.int .u8 (.ofNat 0)) 32) [(.int .u32 (.ofNat 0))]) [(32, 1, (.v (.int .u32 (.ofNat 4294967295))))])),
 o 1 none (.e (.st s0 s1 33))])
 .ret))
 [.cn p0 33]

noncomputable def f29 : FnE := .code 34
 (.seq (.reg [o 0 d2 (.e (.alo (zz (.int .i64 (.ofNat 0)) 9)))])
 (.seq (.reg [o 0 d4 (.q (.bld (zz (.int .i64 (.ofNat 0)) 9) [(0, 1, (.v (.int .i64 (.ofNat 5)))), (1, 1, (.v (.int .i64 (.ofNat 1)))), (2, 1, (.v (.int .i64 (.ofNat 3000)))), (3, 1, (.v (.int .i64 (.ofNat 2000)))), (4, 1, (.v (.int .i64 (.ofNat 200)))), (5, 1, (.v (.int .i64 (.ofNat 5)))), (6, 1, (.v (.int .i64 (.ofNat 2000)))), (7, 1, (.v (.int .i64 (.ofNat 5)))), (8, 1, (.v (.int .i64 (.ofNat 2000))))])),
 o 1 d3 (.e (.alo (zz (.int .i64 (.ofNat 0)) 9))),
 o 2 none (.e (.st s3 s4 9))])
 (.seq (.seq (.reg [o 0 d5 (.q (.mv s0)),
 o 1 d6 (.call p9 [s5, (.v (.int .i64 (.ofNat 6)))])])
 (.blk 0 (.seq (.reg [o 0 d8 (.q (.bin .eql s6 (.v (.int .i64 (.ofNat 1))))),
 o 1 d7 (.q (.mv s8))])
 (.cnd s7 (.seq (.reg [o 0 d9 (.q (.fadr s3 1)),
 o 1 none (.e (.st s9 (.v (.int .i64 (.ofNat 0))) 1))])
 (.reg [o 0 d10 (.q (.fadr s3 2)),
 o 1 none (.e (.st s10 (.v (.int .i64 (.ofNat 700))) 1))])) (.seq (.reg [o 0 d12 (.q (.bin .eql s6 (.v (.int .i64 (.ofNat 2))))),
 o 1 d11 (.q (.mv s12))])
 (.cnd s11 (.seq (.reg [o 0 d13 (.q (.fadr s3 1)),
 o 1 none (.e (.st s13 (.v (.int .i64 (.ofNat 2))) 1))])
 (.seq (.reg [o 0 d14 (.q (.fadr s3 3)),
 o 1 none (.e (.st s14 (.v (.int .i64 (.ofNat 300))) 1))])
 (.reg [o 0 d15 (.q (.fadr s3 4)),
 o 1 none (.e (.st s15 (.v (.int .i64 (.ofNat 4))) 1))]))) (.seq (.reg [o 0 d17 (.q (.bin .eql s6 (.v (.int .i64 (.ofNat 3))))),
 o 1 d16 (.q (.mv s17))])
 (.cnd s16 (.seq (.reg [o 0 d18 (.q (.fadr s3 5)),
 o 1 none (.e (.st s18 (.v (.int .i64 (.ofNat 2))) 1))])
 (.reg [o 0 d19 (.q (.fadr s3 7)),
 o 1 none (.e (.st s19 (.v (.int .i64 (.ofNat 3))) 1))])) (.seq (.reg [o 0 d21 (.q (.bin .eql s6 (.v (.int .i64 (.ofNat 4))))),
 o 1 d20 (.q (.mv s21))])
 (.cnd s20 (.seq (.reg [o 0 d22 (.q (.fadr s3 6)),
 o 1 none (.e (.st s22 (.v (.int .i64 (.ofNat 400))) 1))])
 (.reg [o 0 d23 (.q (.fadr s3 8)),
 o 1 none (.e (.st s23 (.v (.int .i64 (.ofNat 500))) 1))])) (.seq (.reg [o 0 d25 (.q (.bin .eql s6 (.v (.int .i64 (.ofNat 5))))),
 o 1 d24 (.q (.mv s25))])
 (.cnd s24 (.seq (.reg [o 0 d26 (.q (.fadr s3 1)),
 o 1 none (.e (.st s26 (.v (.int .i64 (.ofNat 0))) 1))])
 (.seq (.reg [o 0 d27 (.q (.fadr s3 2)),
 o 1 none (.e (.st s27 (.v (.int .i64 (.ofNat 1048576))) 1))])
 (.seq (.reg [o 0 d28 (.q (.fadr s3 5)),
 o 1 none (.e (.st s28 (.v (.int .i64 (.ofNat 50))) 1))])
 (.seq (.reg [o 0 d29 (.q (.fadr s3 7)),
 o 1 none (.e (.st s29 (.v (.int .i64 (.ofNat 50))) 1))])
 (.seq (.reg [o 0 d30 (.q (.fadr s3 6)),
 o 1 none (.e (.st s30 (.v (.int .i64 (.ofNat 1048576))) 1))])
 (.seq (.reg [o 0 d31 (.q (.fadr s3 8)),
 o 1 none (.e (.st s31 (.v (.int .i64 (.ofNat 1048576))) 1))])
 (.reg [o 0 d32 (.q (.fadr s3 3)),
 o 1 none (.e (.st s32 (.v (.int .i64 (.ofNat 1048576))) 1))]))))))) .skip))))))))))))
 (.seq (.reg [o 0 d33 (.q (.ldn s3 9)),
 o 1 none (.e (.st s2 s33 9))])
 .ret))))
 [.cn p2 9]

noncomputable def f9 : FnE := .code 15
 (.seq (.reg [o 0 d4 (.q (.mv (.v (.int .i64 (.ofNat 0)))))])
 (.seq (.reg [o 0 d6 (.q (.mv s0)),
 o 1 d7 (.q (.mv s1)),
 o 2 d8 (.q (.bin .rem s6 s7)),
 o 3 d5 (.q (.mv s8))])
 (.seq (.seq (.reg [o 0 d9 (.q (.mv s5)),
 o 1 d10 (.q (.bin .lss s9 (.v (.int .i64 (.ofNat 0)))))])
 (.cnd s10 (.reg [o 0 d11 (.q (.mv s5)),
 o 1 d12 (.q (.mv s1)),
 o 2 d13 (.q (.bin .add s11 s12)),
 o 3 d5 (.q (.mv s13))]) .skip))
 (.seq (.reg [o 0 d14 (.q (.mv s5)),
 o 1 d4 (.q (.mv s14))])
 .ret))))
 [.t p4]

noncomputable def f58 : FnE := .code 91
 (.seq (.reg [o 0 d7 (.e (.box s2 4)),
 o 1 d8 (.e (.box s3 2)),
 o 2 d9 (.e (.box s4 9)),
 o 3 d10 (.q (.mv (.v (.int .u64 (.ofNat 0))))),
 o 4 d11 (.q (.mv (.v .nili)))])
 (.seq (.seq (.reg [o 0 d23 (.q (.ldn s7 4)),
 o 1 d24 (.call p100 [s23]),
 o 2 d12 (.q (.mv s24))])
 (.seq (.reg [o 0 d25 (.q (.mv s12)),
 o 1 d26 (.q (.eqp (.iface true) true s25 (.v .nili)))])
 (.cnd s26 (.seq (.reg [o 0 d27 (.q (.mv s12)),
 o 1 d10 (.q (.mv (.v (.int .u64 (.ofNat 0))))),
 o 2 d11 (.q (.mv s27))])
 .ret) .skip)))
 (.seq (.seq (.reg [o 0 d28 (.q (.ldn s7 4)),
 o 1 d29 (.call p101 [s28])])
 (.cnd s29 (.seq (.rgd 0 [o 0 d30 (.q (.ld1 (.g p10))),
 o 1 d10 (.q (.mv (.v (.int .u64 (.ofNat 0))))),
 o 2 d11 (.q (.mv s30))])
 .ret) .skip))
 (.seq (.seq (.reg [o 0 d32 (.q (.mv s0)),
 o 1 d33 (.q (.ldn s7 4)),
 o 2 d34 (.call p44 [s33]),
 o 3 d35 (.call p102 [s32, s34]),
 o 4 d31 (.q (.mv s35)),
 o 5 d36 (.q (.ext s31 0)),
 o 6 d37 (.q (.ext s31 1)),
 o 7 d38 (.q (.ext s31 2)),
 o 8 d13 (.e (.alo [(.int .u32 (.ofNat 0)), .nils, .nils, (.int .u32 (.ofNat 0))])),
 o 9 none (.e (.st s13 s36 4)),
 o 10 d14 (.q (.mv s37)),
 o 11 d15 (.q (.mv s38))])
 (.seq (.reg [o 0 d39 (.q (.mv s15))])
 (.cnd s39 (.seq (.rgd 0 [o 0 d40 (.q (.ld1 (.g p5))),
 o 1 d10 (.q (.mv (.v (.int .u64 (.ofNat 0))))),
 o 2 d11 (.q (.mv s40))])
 .ret) .skip)))
 (.seq (.seq (.reg [o 0 d41 (.q (.fadr s7 1)),
 o 1 d42 (.q (.ld1 s41)),
 o 2 d43 (.q (.lenv s42)),
 o 3 d44 (.q (.mv (.v (.int .i64 (.ofNat 0)))))])
 (.blk 0 (.loop (.seq (.reg [o 0 d45 (.q (.bin .lss s44 s43))])
 (.seq (.cnd s45 .skip (.exit 0))
 (.seq (.blk 1 (.seq (.reg [o 0 d46 (.q (.mv s44)),
 o 1 d47 (.q (.iadr s42 s44 35)),
 o 2 d48 (.q (.ldn s47 35)),
 o 3 d17 (.e (.alo (lapp (zz (.int .u8 (.ofNat 0)) 32) [(.int .u32 (.ofNat 0)), .nils, (.int .u32 (.ofNat 0))]))),
 o 4 d16 (.q (.mv s46)),
 o 5 none (.e (.st s17 s48 35))])
 (.seq (.reg [o 0 d50 (.q (.mv s0)),
 o 1 d51 (.q (.fadr s17 0)),
 o 2 d52 (.q (.ldn s51 33)),
 o 3 d53 (.call p103 [s50, s52]),
 o 4 d49 (.q (.mv s53)),
 o 5 d54 (.q (.ext s49 0)),
 o 6 d55 (.q (.ext s49 1)),
 o 7 d18 (.e (.alo (zz (.int .u8 (.ofNat 0)) 32))),
 o 8 none (.e (.st s18 s54 32)),
 o 9 d19 (.q (.mv s55))])
 (.seq (.reg [o 0 d56 (.q (.mv s19))])
 (.cnd s56 (.seq (.rgd 0 [o 0 d57 (.q (.mv s16)),
 o 1 d58 (.q (.ld1 (.g p6))),
 o 2 d59 (.q (.bld [(.int .i64 (.ofNat 0)), .nili] [(0, 1, s57), (1, 1, s58)])),
 o 5 d10 (.q (.mv (.v (.int .u64 (.ofNat 0))))),
 o 3 d60 (.e (.box s59 2)),
 o 4 d61 (.q (.mki 77 s60)),
 o 6 d11 (.q (.mv s61))])
 .ret) .skip)))))
 (.reg [o 0 d62 (.q (.bin .add s44 (.v (.int .i64 (.ofNat 1))))),
 o 1 d44 (.q (.mv s62))])))))))
 (.seq (.reg [o 0 d64 (.q (.ldn s7 4)),
 o 1 d65 (.q (.mv s0)),
 o 2 d66 (.q (.mv s1)),
 o 3 d67 (.q (.fadr s8 0)),
 o 4 d68 (.q (.ld1 s67)),
 o 5 d69 (.q (.bld [.nilp, .nilp, (.int .i64 (.ofNat 0))] [(0, 1, s65), (1, 1, s66), (2, 1, s68)])),
 o 6 d70 (.q (.mki 197 s69)),
 o 7 d71 (.q (.fadr s8 0)),
 o 8 d72 (.q (.ld1 s71)),
 o 9 d73 (.q (.fadr s8 1)),
 o 10 d74 (.q (.ld1 s73)),
 o 11 d75 (.q (.fadr s9 1)),
 o 12 d76 (.q (.ld1 s75)),
 o 13 d77 (.call p12 [s64, s70, s72, s74, s76]),
 o 14 d63 (.q (.mv s77)),
 o 15 d78 (.q (.ext s63 0)),
 o 16 d79 (.q (.ext s63 1)),
 o 17 d20 (.q (.mv s78)),
 o 18 d21 (.q (.mv s79))])
 (.seq (.seq (.reg [o 0 d80 (.q (.mv s21)),
 o 1 d81 (.q (.eqp (.iface true) true s80 (.v .nili)))])
 (.cnd s81 (.seq (.reg [o 0 d82 (.q (.mv s21)),
 o 1 d10 (.q (.mv (.v (.int .u64 (.ofNat 0))))),
 o 2 d11 (.q (.mv s82))])
 .ret) .skip))
 (.seq (.seq (.reg [o 0 d83 (.q (.mv s0)),
 o 1 d84 (.q (.ldn s7 4)),
 o 2 d85 (.q (.ldn s9 9)),
 o 3 d86 (.call p104 [s83, s84, s85]),
 o 4 d22 (.q (.mv s86))])
 (.seq (.reg [o 0 d87 (.q (.mv s22)),
 o 1 d88 (.q (.eqp (.iface true) true s87 (.v .nili)))])
 (.cnd s88 (.seq (.reg [o 0 d89 (.q (.mv s22)),
 o 1 d10 (.q (.mv (.v (.int .u64 (.ofNat 0))))),
 o 2 d11 (.q (.mv s89))])
 .ret) .skip)))
 (.seq (.reg [o 0 d90 (.q (.mv s20)),
 o 1 d10 (.q (.mv s90)),
 o 2 d11 (.q (.mv (.v .nili)))])
 .ret)))))))))
 [.t p10, .t p11]

noncomputable def f100 : FnE := .code 52
 (.seq (.reg [o 0 d1 (.e (.box s0 4)),
 o 1 d2 (.q (.mv (.v .nili)))])
 (.seq (.blk 0 (.seq (.reg [o 0 d6 (.q (.fadr s1 1)),
 o 1 d7 (.q (.ld1 s6)),
 o 2 d8 (.q (.lenv s7)),
 o 3 d9 (.q (.bin .eql s8 (.v (.int .i64 (.ofNat 0))))),
 o 4 d10 (.q (.mv s9)),
 ⟨5, d11, (.q (.fadr s1 1)), (some (p10, false)), []⟩,
 ⟨6, d12, (.q (.ld1 s11)), (some (p10, false)), []⟩,
 ⟨7, d13, (.q (.lenv s12)), (some (p10, false)), []⟩,
 ⟨8, d14, (.q (.bin .gtr s13 (.v (.int .i64 (.ofNat 50))))), (some (p10, false)), []⟩,
 o 9 d15 (.q (.pick s10 (.v (.bool true)) s14)),
 o 10 d16 (.q (.mv s15)),
 ⟨11, d17, (.q (.fadr s1 2)), (some (p16, false)), []⟩,
 ⟨12, d18, (.q (.ld1 s17)), (some (p16, false)), []⟩,
 ⟨13, d19, (.q (.lenv s18)), (some (p16, false)), []⟩,
 ⟨14, d20, (.q (.bin .eql s19 (.v (.int .i64 (.ofNat 0))))), (some (p16, false)), []⟩,
 o 15 d21 (.q (.pick s16 (.v (.bool true)) s20)),
 o 16 d22 (.q (.mv s21)),
 ⟨17, d23, (.q (.fadr s1 2)), (some (p22, false)), []⟩,
 ⟨18, d24, (.q (.ld1 s23)), (some (p22, false)), []⟩,
 ⟨19, d25, (.q (.lenv s24)), (some (p22, false)), []⟩,
 ⟨20, d26, (.q (.bin .gtr s25 (.v (.int .i64 (.ofNat 50))))), (some (p22, false)), []⟩,
 o 21 d27 (.q (.pick s22 (.v (.bool true)) s26)),
 o 22 d5 (.q (.mv s27))])
 (.cnd s5 (.seq (.reg [o 0 d28 (.q (.ld1 (.g p16))),
 o 1 d2 (.q (.mv s28))])
 .ret) (.seq (.reg [o 0 d30 (.q (.ldn s1 4)),
 o 1 d31 (.call p47 [s30]),
 o 2 d32 (.q (.bin .gtr s31 (.v (.int .i64 (.ofNat 4000))))),
 o 3 d29 (.q (.mv s32))])
 (.cnd s29 (.seq (.reg [o 0 d33 (.q (.ld1 (.g p15))),
 o 1 d2 (.q (.mv s33))])
 .ret) (.seq (.reg [o 0 d35 (.q (.fadr s1 1)),
 o 1 d36 (.q (.ld1 s35)),
 o 2 d37 (.call p72 [s36, (.f 152)]),
 o 3 d34 (.q (.mv s37))])
 (.cnd s34 (.seq (.reg [o 0 d38 (.q (.ld1 (.g p12))),
 o 1 d2 (.q (.mv s38))])
 .ret) .skip)))))))
 (.seq (.seq (.reg [o 0 d40 (.q (.ldn s1 4)),
 o 1 d41 (.call p66 [s40]),
 o 2 d39 (.q (.mv s41)),
 o 3 d42 (.q (.ext s39 0)),
 o 4 d43 (.q (.ext s39 1)),
 o 5 d3 (.q (.mv s42)),
 o 6 d4 (.q (.mv s43))])
 (.seq (.reg [o 0 d44 (.q (.mv s4)),
 o 1 d45 (.q (.not s44))])
 (.cnd s45 (.seq (.reg [o 0 d46 (.q (.ld1 (.g p0))),
 o 1 d2 (.q (.mv s46))])
 .ret) .skip)))
 (.seq (.seq (.reg [o 0 d47 (.q (.ldn s1 4)),
 o 1 d48 (.call p153 [s47])])
 (.cnd s48 (.seq (.reg [o 0 d49 (.q (.ld1 (.g p1))),
 o 1 d2 (.q (.mv s49))])
 .ret) .skip))
 (.seq (.reg [o 0 d50 (.q (.ldn s1 4)),
 o 1 d51 (.call p154 [s50]),
 o 2 d2 (.q (.mv s51))])
 .ret)))))
 [.t p2]

noncomputable def f47 : FnE := .code 6
 (.seq (.reg [o 0 d1 (.e (.box s0 4)),
 o 1 d2 (.q (.mv (.v (.int .i64 (.ofNat 0)))))])
 (.seq (.reg [o 0 d3 (.q (.ldn s1 4)),
 o 1 d4 (.call p82 [s3]),
 o 2 d5 (.q (.lenv s4)),
 o 3 d2 (.q (.mv s5))])
 .ret))
 [.t p2]

noncomputable def f82 : FnE := .code 72
 (.seq (.reg [o 0 d1 (.e (.box s0 4)),
 o 1 d2 (.q (.mv (.v .nils)))])
 (.seq (.reg [o 0 d8 (.q (.fadr s1 0)),
 o 1 d9 (.q (.ld1 s8)),
 o 2 d10 (.call p64 [(.v .nils), s9]),
 o 3 d3 (.q (.mv s10))])
 (.seq (.reg [o 0 d11 (.q (.mv s3)),
 o 1 d12 (.q (.fadr s1 1)),
 o 2 d13 (.q (.ld1 s12)),
 o 3 d14 (.q (.lenv s13)),
 o 4 d15 (.q (.cvi .u64 s14)),
 o 5 d16 (.call p135 [s11, s15]),
 o 6 d3 (.q (.mv s16))])
 (.seq (.seq (.reg [o 0 d17 (.q (.fadr s1 1)),
 o 1 d18 (.q (.ld1 s17)),
 o 2 d19 (.q (.lenv s18)),
 o 3 d20 (.q (.mv (.v (.int .i64 (.ofNat 0)))))])
 (.blk 0 (.loop (.seq (.reg [o 0 d21 (.q (.bin .lss s20 s19))])
 (.seq (.cnd s21 .skip (.exit 0))
 (.seq (.blk 1 (.seq (.reg [o 0 d22 (.q (.iadr s18 s20 35)),
 o 1 d23 (.q (.ldn s22 35)),
 o 2 d5 (.e (.alo (lapp (zz (.int .u8 (.ofNat 0)) 32) [(.int .u32 (.ofNat 0)), .nils, (.int .u32 (.ofNat 0))]))),
 o 3 none (.e (.st s5 s23 35))])
 (.seq (.rgd 0 [o 0 d24 (.q (.mv s3)),
 o 1 d25 (.q (.fadr s5 0)),
 o 2 d26 (.q (.fadr s25 0)),
 o 3 d27 (.q (.slca s26 none none 1 32)),
 o 5 d29 (.q (.fadr s5 0)),
 o 6 d30 (.q (.fadr s29 32)),
 o 7 d31 (.q (.ld1 s30)),
 ⟨4, d28, (.e (.app s24 s27 1 1 false)), none, [(p31, .ld1 s30, none)]⟩,
 o 8 d32 (.call p64 [s28, s31]),
 o 9 d3 (.q (.mv s32))])
 (.seq (.rgd 0 [o 0 d33 (.q (.mv s3)),
 o 1 d34 (.q (.fadr s5 33)),
 o 2 d35 (.q (.ld1 s34)),
 o 3 d36 (.q (.lenv s35)),
 o 4 d37 (.q (.cvi .u64 s36)),
 o 6 d39 (.q (.fadr s5 33)),
 o 7 d40 (.q (.ld1 s39)),
 ⟨5, d38, (.call p135 [s33, s37]), none, [(p40, .ld1 s39, none)]⟩,
 o 8 d41 (.e (.app s38 s40 1 1 false)),
 o 9 d3 (.q (.mv s41))])
 (.reg [o 0 d42 (.q (.mv s3)),
 o 1 d43 (.q (.fadr s5 34)),
 o 2 d44 (.q (.ld1 s43)),
 o 3 d45 (.call p64 [s42, s44]),
 o 4 d3 (.q (.mv s45))])))))
 (.reg [o 0 d46 (.q (.bin .add s20 (.v (.int .i64 (.ofNat 1))))),
 o 1 d20 (.q (.mv s46))])))))))
 (.seq (.reg [o 0 d47 (.q (.mv s3)),
 o 1 d48 (.q (.fadr s1 2)),
 o 2 d49 (.q (.ld1 s48)),
 o 3 d50 (.q (.lenv s49)),
 o 4 d51 (.q (.cvi .u64 s50)),
 o 5 d52 (.call p135 [s47, s51]),
 o 6 d3 (.q (.mv s52))])
 (.seq (.seq (.reg [o 0 d53 (.q (.fadr s1 2)),
 o 1 d54 (.q (.ld1 s53)),
 o 2 d55 (.q (.lenv s54)),
 o 3 d56 (.q (.mv (.v (.int .i64 (.ofNat 0)))))])
 (.blk 2 (.loop (.seq (.reg [o 0 d57 (.q (.bin .lss s56 s55))])
 (.seq (.cnd s57 .skip (.exit 2))
 (.seq (.blk 3 (.seq (.reg [o 0 d58 (.q (.iadr s54 s56 33)),
 o 1 d59 (.q (.ldn s58 33)),
 o 2 d7 (.e (.alo (lapp [(.int .u64 (.ofNat 0))] (zz (.int .u8 (.ofNat 0)) 32)))),
 o 3 none (.e (.st s7 s59 33))])
 (.rgd 0 [o 0 d60 (.q (.mv s3)),
 o 1 d61 (.q (.fadr s7 0)),
 o 2 d62 (.q (.ld1 s61)),
 o 4 d64 (.q (.fadr s7 1)),
 o 5 d65 (.q (.slca s64 none none 1 32)),
 ⟨3, d63, (.call p136 [s60, s62]), none, [(p65, .slca s64 none none 1 32, none)]⟩,
 o 6 d66 (.e (.app s63 s65 1 1 false)),
 o 7 d3 (.q (.mv s66))])))
 (.reg [o 0 d67 (.q (.bin .add s56 (.v (.int .i64 (.ofNat 1))))),
 o 1 d56 (.q (.mv s67))])))))))
 (.seq (.reg [o 0 d68 (.q (.mv s3)),
 o 1 d69 (.q (.fadr s1 3)),
 o 2 d70 (.q (.ld1 s69)),
 o 3 d71 (.call p64 [s68, s70]),
 o 4 d2 (.q (.mv s71))])
 .ret)))))))
 [.t p2]

noncomputable def f64 : FnE := .code 10
 (.seq (.reg [o 0 d4 (.q (.mv (.v .nils)))])
 (.seq (.reg [o 0 d5 (.q (.mv s0)),
 o 1 d6 (.call p85 [s5]),
 o 2 d7 (.q (.mv s1)),
 o 3 d8 (.q (.cvi .u64 s7)),
 o 4 d9 (.call p114 [s6, s8, (.v (.int .i64 (.ofNat 4)))]),
 o 5 d4 (.q (.mv s9))])
 .ret))
 [.t p4]

noncomputable def f85 : FnE := .code 8
 (.seq (.reg [o 0 d2 (.q (.mv (.v .nils)))])
 (.seq (.seq (.reg [o 0 d3 (.q (.mv s0)),
 o 1 d4 (.q (.eqp .slice false s3 (.v .nils)))])
 (.cnd s4 (.seq (.reg [o 0 d2 (.q (.mv (.v .nils)))])
 .ret) .skip))
 (.seq (.reg [o 0 d5 (.e (.bsl [] [] 0 1)),
 o 1 d6 (.q (.mv s0)),
 o 2 d7 (.e (.app s5 s6 1 1 false)),
 o 3 d2 (.q (.mv s7))])
 .ret)))
 [.t p2]

noncomputable def f114 : FnE := .code 19
 (.seq (.reg [o 0 d6 (.q (.mv (.v .nils)))])
 (.seq (.seq (.reg [o 0 d7 (.q (.mv s2)),
 o 1 d8 (.q (.mv (.v (.int .i64 (.ofNat 0)))))])
 (.blk 0 (.loop (.seq (.reg [o 0 d9 (.q (.bin .lss s8 s7))])
 (.seq (.cnd s9 .skip (.exit 0))
 (.seq (.blk 1 (.seq (.reg [o 0 d10 (.q (.mv s0)),
 o 1 d11 (.q (.mv s1)),
 o 2 d12 (.q (.cvi .u8 s11)),
 o 3 d13 (.e (.bsl [(.int .u8 (.ofNat 0))] [(0, 1, s12)] 1 1)),
 o 4 d14 (.e (.app s10 s13 1 1 false)),
 o 5 d0 (.q (.mv s14))])
 (.reg [o 0 d15 (.q (.mv s1)),
 o 1 d16 (.q (.shf false s15 (.v (.int .u64 (.ofNat 8))))),
 o 2 d1 (.q (.mv s16))])))
 (.reg [o 0 d17 (.q (.bin .add s8 (.v (.int .i64 (.ofNat 1))))),
 o 1 d8 (.q (.mv s17))])))))))
 (.seq (.reg [o 0 d18 (.q (.mv s0)),
 o 1 d6 (.q (.mv s18))])
 .ret)))
 [.t p6]

noncomputable def f135 : FnE := .code 38
 (.seq (.reg [o 0 d4 (.q (.mv (.v .nils)))])
 (.seq (.reg [o 0 d7 (.q (.mv s0)),
 o 1 d8 (.call p85 [s7]),
 o 2 d5 (.q (.mv s8))])
 (.seq (.seq (.reg [o 0 d9 (.q (.mv s1)),
 o 1 d10 (.call p171 [s9]),
 o 2 d6 (.q (.mv s10))])
 (.seq (.reg [o 0 d11 (.q (.mv s6))])
 (.blk 0 (.seq (.reg [o 0 d13 (.q (.bin .eql s11 (.v (.int .i64 (.ofNat 1))))),
 o 1 d12 (.q (.mv s13))])
 (.cnd s12 (.seq (.reg [o 0 d14 (.q (.mv s5)),
 o 1 d15 (.q (.mv s1)),
 o 2 d16 (.q (.cvi .u8 s15)),
 o 3 d17 (.e (.bsl [(.int .u8 (.ofNat 0))] [(0, 1, s16)] 1 1)),
 o 4 d18 (.e (.app s14 s17 1 1 false)),
 o 5 d4 (.q (.mv s18))])
 .ret) (.seq (.reg [o 0 d20 (.q (.bin .eql s11 (.v (.int .i64 (.ofNat 3))))),
 o 1 d19 (.q (.mv s20))])
 (.cnd s19 (.seq (.reg [o 0 d21 (.q (.mv s5)),
 o 1 d22 (.e (.bsl [(.int .u8 (.ofNat 0))] [(0, 1, (.v (.int .u8 (.ofNat 253))))] 1 1)),
 o 2 d23 (.e (.app s21 s22 1 1 false)),
 o 3 d24 (.q (.mv s1)),
 o 4 d25 (.call p114 [s23, s24, (.v (.int .i64 (.ofNat 2)))]),
 o 5 d4 (.q (.mv s25))])
 .ret) (.seq (.reg [o 0 d27 (.q (.bin .eql s11 (.v (.int .i64 (.ofNat 5))))),
 o 1 d26 (.q (.mv s27))])
 (.cnd s26 (.seq (.reg [o 0 d28 (.q (.mv s5)),
 o 1 d29 (.e (.bsl [(.int .u8 (.ofNat 0))] [(0, 1, (.v (.int .u8 (.ofNat 254))))] 1 1)),
 o 2 d30 (.e (.app s28 s29 1 1 false)),
 o 3 d31 (.q (.mv s1)),
 o 4 d32 (.call p114 [s30, s31, (.v (.int .i64 (.ofNat 4)))]),
 o 5 d4 (.q (.mv s32))])
 .ret) .skip)))))))))
 (.seq (.reg [o 0 d33 (.q (.mv s5)),
 o 1 d34 (.e (.bsl [(.int .u8 (.ofNat 0))] [(0, 1, (.v (.int .u8 (.ofNat 255))))] 1 1)),
 o 2 d35 (.e (.app s33 s34 1 1 false)),
 o 3 d36 (.q (.mv s1)),
 o 4 d37 (.call p114 [s35, s36, (.v (.int .i64 (.ofNat 8)))]),
 o 5 d4 (.q (.mv s37))])
 .ret))))
 [.t p4]

noncomputable def f171 : FnE := .code 12
 (.seq (.reg [o 0 d2 (.q (.mv (.v (.int .i64 (.ofNat 0)))))])
 (.seq (.blk 0 (.seq (.reg [o 0 d4 (.q (.mv s0)),
 o 1 d5 (.q (.bin .lss s4 (.v (.int .u64 (.ofNat 253))))),
 o 2 d3 (.q (.mv s5))])
 (.cnd s3 (.seq (.reg [o 0 d2 (.q (.mv (.v (.int .i64 (.ofNat 1)))))])
 .ret) (.seq (.reg [o 0 d7 (.q (.mv s0)),
 o 1 d8 (.q (.bin .lss s7 (.v (.int .u64 (.ofNat 65536))))),
 o 2 d6 (.q (.mv s8))])
 (.cnd s6 (.seq (.reg [o 0 d2 (.q (.mv (.v (.int .i64 (.ofNat 3)))))])
 .ret) (.seq (.reg [o 0 d10 (.q (.mv s0)),
 o 1 d11 (.q (.bin .lss s10 (.v (.int .u64 (.ofNat 4294967296))))),
 o 2 d9 (.q (.mv s11))])
 (.cnd s9 (.seq (.reg [o 0 d2 (.q (.mv (.v (.int .i64 (.ofNat 5)))))])
 .ret) .skip)))))))
 (.seq (.reg [o 0 d2 (.q (.mv (.v (.int .i64 (.ofNat 9)))))])
 .ret)))
 [.t p2]

noncomputable def f136 : FnE := .code 9
 (.seq (.reg [o 0 d4 (.q (.mv (.v .nils)))])
 (.seq (.reg [o 0 d5 (.q (.mv s0)),
 o 1 d6 (.call p85 [s5]),
 o 2 d7 (.q (.mv s1)),
 o 3 d8 (.call p114 [s6, s7, (.v (.int .i64 (.ofNat 8)))]),
 o 4 d4 (.q (.mv s8))])
 .ret))
 [.t p4]

noncomputable def f72 : FnE := .code 9
 (.seq (.reg [o 0 d4 (.q (.mv (.v (.bool false))))])
 (.seq (.reg [o 0 d5 (.q (.mv s0)),
 o 1 d6 (.q (.mv s1)),
 o 2 d7 (.call p123 [s5, s6]),
 o 3 d8 (.q (.bin .geq s7 (.v (.int .i64 (.ofNat 0))))),
 o 4 d4 (.q (.mv s8))])
 .ret))
 [.t p4]

noncomputable def f123 : FnE := .code 19
 (.seq (.reg [o 0 d4 (.q (.mv (.v (.int .i64 (.ofNat 0)))))])
 (.seq (.seq (.reg [o 0 d6 (.q (.mv s0)),
 o 1 d7 (.q (.lenv s6)),
 o 2 d8 (.q (.mv (.v (.int .i64 (.ofNat 0)))))])
 (.blk 0 (.loop (.seq (.reg [o 0 d9 (.q (.bin .lss s8 s7))])
 (.seq (.cnd s9 .skip (.exit 0))
 (.seq (.blk 1 (.seq (.reg [o 0 d10 (.q (.mv s8)),
 o 1 d5 (.q (.mv s10))])
 (.seq (.reg [o 0 d11 (.q (.mv s1)),
 o 1 d12 (.q (.mv s0)),
 o 2 d13 (.q (.mv s5)),
 o 3 d14 (.q (.iadr s12 s13 35)),
 o 4 d15 (.q (.ldn s14 35)),
 o 5 d16 (.callv s11 [s15])])
 (.cnd s16 (.seq (.reg [o 0 d17 (.q (.mv s5)),
 o 1 d4 (.q (.mv s17))])
 .ret) .skip))))
 (.reg [o 0 d18 (.q (.bin .add s8 (.v (.int .i64 (.ofNat 1))))),
 o 1 d8 (.q (.mv s18))])))))))
 (.seq (.reg [o 0 d4 (.q (.mv (.v (.int .i64 (.negSucc 0)))))])
 .ret)))
 [.t p4]

noncomputable def f152 : FnE := .code 7
 (.seq (.reg [o 0 d1 (.e (.box s0 35)),
 o 1 d2 (.q (.mv (.v (.bool false))))])
 (.seq (.reg [o 0 d3 (.q (.fadr s1 33)),
 o 1 d4 (.q (.ld1 s3)),
 o 2 d5 (.q (.lenv s4)),
 o 3 d6 (.q (.bin .gtr s5 (.v (.int .i64 (.ofNat 80))))),
 o 4 d2 (.q (.mv s6))])
 .ret))
 [.t p2]

noncomputable def f66 : FnE := .code 9
 (.seq (.reg [o 0 d1 (.e (.box s0 4)),
 o 1 d2 (.q (.mv (.v (.int .u64 (.ofNat 0))))),
 o 2 d3 (.q (.mv (.v (.bool false))))])
 (.seq (.reg [o 0 d4 (.q (.ldn s1 4)),
 o 1 d5 (.call p116 [s4]),
 o 2 d6 (.call p71 [s5]),
 o 3 d7 (.q (.ext s6 0)),
 o 4 d8 (.q (.ext s6 1)),
 o 5 d2 (.q (.mv s7)),
 o 6 d3 (.q (.mv s8))])
 .ret))
 [.t p2, .t p3]

noncomputable def f116 : FnE := .code 20
 (.seq (.reg [o 0 d1 (.e (.box s0 4)),
 o 1 d2 (.q (.mv (.v .nils)))])
 (.seq (.reg [o 0 d3 (.q (.mv (.v .nils)))])
 (.seq (.seq (.reg [o 0 d6 (.q (.fadr s1 2)),
 o 1 d7 (.q (.ld1 s6)),
 o 2 d8 (.q (.lenv s7)),
 o 3 d9 (.q (.mv (.v (.int .i64 (.ofNat 0)))))])
 (.blk 0 (.loop (.seq (.reg [o 0 d10 (.q (.bin .lss s9 s8))])
 (.seq (.cnd s10 .skip (.exit 0))
 (.seq (.blk 1 (.seq (.reg [o 0 d11 (.q (.iadr s7 s9 33)),
 o 1 d12 (.q (.ldn s11 33)),
 o 2 d5 (.e (.alo (lapp [(.int .u64 (.ofNat 0))] (zz (.int .u8 (.ofNat 0)) 32)))),
 o 3 none (.e (.st s5 s12 33))])
 (.reg [o 0 d13 (.q (.mv s3)),
 o 1 d14 (.q (.fadr s5 0)),
 o 2 d15 (.q (.ld1 s14)),
 o 3 d16 (.e (.bsl [(.int .u64 (.ofNat 0))] [(0, 1, s15)] 1 1)),
 o 4 d17 (.e (.app s13 s16 1 8 false)),
 o 5 d3 (.q (.mv s17))])))
 (.reg [o 0 d18 (.q (.bin .add s9 (.v (.int .i64 (.ofNat 1))))),
 o 1 d9 (.q (.mv s18))])))))))
 (.seq (.reg [o 0 d19 (.q (.mv s3)),
 o 1 d2 (.q (.mv s19))])
 .ret))))
 [.t p2]

noncomputable def f71 : FnE := .code 22
 (.seq (.reg [o 0 d2 (.q (.mv (.v (.int .u64 (.ofNat 0))))),
 o 1 d3 (.q (.mv (.v (.bool false))))])
 (.seq (.reg [o 0 d4 (.q (.mv (.v (.int .u64 (.ofNat 0)))))])
 (.seq (.seq (.reg [o 0 d7 (.q (.mv s0)),
 o 1 d8 (.q (.lenv s7)),
 o 2 d9 (.q (.mv (.v (.int .i64 (.ofNat 0)))))])
 (.blk 0 (.loop (.seq (.reg [o 0 d10 (.q (.bin .lss s9 s8))])
 (.seq (.cnd s10 .skip (.exit 0))
 (.seq (.blk 1 (.seq (.reg [o 0 d11 (.q (.iadr s7 s9 1)),
 o 1 d12 (.q (.ld1 s11)),
 o 2 d6 (.q (.mv s12))])
 (.seq (.seq (.reg [o 0 d13 (.q (.mv s6)),
 o 1 d14 (.q (.mv s4)),
 o 2 d15 (.q (.bin .sub (.v (.int .u64 (.ofNat 2100000000000000))) s14)),
 o 3 d16 (.q (.bin .gtr s13 s15))])
 (.cnd s16 (.seq (.reg [o 0 d2 (.q (.mv (.v (.int .u64 (.ofNat 0))))),
 o 1 d3 (.q (.mv (.v (.bool false))))])
 .ret) .skip))
 (.reg [o 0 d17 (.q (.mv s4)),
 o 1 d18 (.q (.mv s6)),
 o 2 d19 (.q (.bin .add s17 s18)),
 o 3 d4 (.q (.mv s19))]))))
 (.reg [o 0 d20 (.q (.bin .add s9 (.v (.int .i64 (.ofNat 1))))),
 o 1 d9 (.q (.mv s20))])))))))
 (.seq (.reg [o 0 d21 (.q (.mv s4)),
 o 1 d2 (.q (.mv s21)),
 o 2 d3 (.q (.mv (.v (.bool true))))])
 .ret))))
 [.t p2, .t p3]

noncomputable def f153 : FnE := .code 22
 (.seq (.reg [o 0 d1 (.e (.box s0 4)),
 o 1 d2 (.q (.mv (.v (.bool false))))])
 (.seq (.reg [o 0 d6 (.e (.mkm (.cells [.u8, .u8, .u8, .u8, .u8, .u8, .u8, .u8, .u8, .u8, .u8, .u8, .u8, .u8, .u8, .u8, .u8, .u8, .u8, .u8, .u8, .u8, .u8, .u8, .u8, .u8, .u8, .u8, .u8, .u8, .u8, .u8, .u32]))),
 o 1 d3 (.q (.mv s6))])
 (.seq (.seq (.reg [o 0 d7 (.q (.fadr s1 1)),
 o 1 d8 (.q (.ld1 s7)),
 o 2 d9 (.q (.lenv s8)),
 o 3 d10 (.q (.mv (.v (.int .i64 (.ofNat 0)))))])
 (.blk 0 (.loop (.seq (.reg [o 0 d11 (.q (.bin .lss s10 s9))])
 (.seq (.cnd s11 .skip (.exit 0))
 (.seq (.blk 1 (.seq (.reg [o 0 d12 (.q (.iadr s8 s10 35)),
 o 1 d13 (.q (.ldn s12 35)),
 o 2 d5 (.e (.alo (lapp (zz (.int .u8 (.ofNat 0)) 32) [(.int .u32 (.ofNat 0)), .nils, (.int .u32 (.ofNat 0))]))),
 o 3 none (.e (.st s5 s13 35))])
 (.seq (.seq (.reg [o 0 d14 (.q (.mv s3)),
 o 1 d15 (.q (.fadr s5 0)),
 o 2 d16 (.q (.ldn s15 33)),
 o 3 d17 (.q (.lkp s14 s16 (.cells [.u8, .u8, .u8, .u8, .u8, .u8, .u8, .u8, .u8, .u8, .u8, .u8, .u8, .u8, .u8, .u8, .u8, .u8, .u8, .u8, .u8, .u8, .u8, .u8, .u8, .u8, .u8, .u8, .u8, .u8, .u8, .u8, .u32]) (.bool false) false))])
 (.cnd s17 (.seq (.reg [o 0 d2 (.q (.mv (.v (.bool true))))])
 .ret) .skip))
 (.reg [o 0 d18 (.q (.mv s3)),
 o 1 d19 (.q (.fadr s5 0)),
 o 2 d20 (.q (.ldn s19 33)),
 o 3 none (.e (.mup s18 s20 (.v (.bool true)) (.cells [.u8, .u8, .u8, .u8, .u8, .u8, .u8, .u8, .u8, .u8, .u8, .u8, .u8, .u8, .u8, .u8, .u8, .u8, .u8, .u8, .u8, .u8, .u8, .u8, .u8, .u8, .u8, .u8, .u8, .u8, .u8, .u8, .u32])))]))))
 (.reg [o 0 d21 (.q (.bin .add s10 (.v (.int .i64 (.ofNat 1))))),
 o 1 d10 (.q (.mv s21))])))))))
 (.seq (.reg [o 0 d2 (.q (.mv (.v (.bool false))))])
 .ret))))
 [.t p2]

noncomputable def f154 : FnE := .code 17
 (.seq (.reg [o 0 d1 (.e (.box s0 4)),
 o 1 d2 (.q (.mv (.v .nili)))])
 (.seq (.seq (.reg [o 0 d3 (.q (.ldn s1 4)),
 o 1 d4 (.call p101 [s3])])
 (.cnd s4 (.seq (.seq (.reg [o 0 d5 (.q (.fadr s1 1)),
 o 1 d6 (.q (.ld1 s5)),
 o 2 d7 (.q (.iadr s6 (.v (.int .i64 (.ofNat 0))) 35)),
 o 3 d8 (.q (.fadr s7 33)),
 o 4 d9 (.q (.ld1 s8)),
 o 5 d10 (.q (.lenv s9)),
 o 6 d11 (.q (.bin .lss s10 (.v (.int .i64 (.ofNat 4)))))])
 (.cnd s11 (.seq (.reg [o 0 d12 (.q (.ld1 (.g p10))),
 o 1 d2 (.q (.mv s12))])
 .ret) .skip))
 (.seq (.reg [o 0 d2 (.q (.mv (.v .nili)))])
 .ret)) .skip))
 (.seq (.seq (.reg [o 0 d13 (.q (.fadr s1 1)),
 o 1 d14 (.q (.ld1 s13)),
 o 2 d15 (.call p72 [s14, (.f 184)])])
 (.cnd s15 (.seq (.reg [o 0 d16 (.q (.ld1 (.g p10))),
 o 1 d2 (.q (.mv s16))])
 .ret) .skip))
 (.seq (.reg [o 0 d2 (.q (.mv (.v .nili)))])
 .ret))))
 [.t p2]

noncomputable def f101 : FnE := .code 15
 (.seq (.reg [o 0 d1 (.e (.box s0 4)),
 o 1 d2 (.q (.mv (.v (.bool false))))])
 (.seq (.reg [o 0 d3 (.q (.fadr s1 1)),
 o 1 d4 (.q (.ld1 s3)),
 o 2 d5 (.q (.lenv s4)),
 o 3 d6 (.q (.bin .eql s5 (.v (.int .i64 (.ofNat 1))))),
 o 4 d7 (.q (.mv s6)),
 ⟨5, d8, (.q (.fadr s1 1)), (some (p7, true)), []⟩,
 ⟨6, d9, (.q (.ld1 s8)), (some (p7, true)), []⟩,
 ⟨7, d10, (.q (.iadr s9 (.v (.int .i64 (.ofNat 0))) 35)), (some (p7, true)), []⟩,
 ⟨8, d11, (.q (.fadr s10 0)), (some (p7, true)), []⟩,
 ⟨9, d12, (.q (.ldn s11 33)), (some (p7, true)), []⟩,
 ⟨10, d13, (.call p155 [s12]), (some (p7, true)), []⟩,
 o 11 d14 (.q (.pick s7 s13 (.v (.bool false)))),
 o 12 d2 (.q (.mv s14))])
 .ret))
 [.t p2]

noncomputable def f155 : FnE := .code 6
 (.seq (.reg [o 0 d1 (.e (.box s0 33)),
 o 1 d2 (.q (.mv (.v (.bool false))))])
 (.seq (.rgd 0 [o 0 d3 (.q (.ldn s1 33)),
 ⟨1, d4, (.call p185 []), none, [(p3, .ldn s1 33, none)]⟩,
 o 2 d5 (.q (.eqa false [.u8, .u8, .u8, .u8, .u8, .u8, .u8, .u8, .u8, .u8, .u8, .u8, .u8, .u8, .u8, .u8, .u8, .u8, .u8, .u8, .u8, .u8, .u8, .u8, .u8, .u8, .u8, .u8, .u8, .u8, .u8, .u8, .u32] s3 s4)),
 o 3 d2 (.q (.mv s5))])
 .ret))
 [.t p2]

noncomputable def f185 : FnE := .code 2
 (.seq (.reg [o 0 d0 (.e (.alo (lapp (zz (.int .u8 (.ofNat 0)) 32) [(.int .u32 (.ofNat 0))])))])
 (.seq (.reg [o 0 d1 (.q (.bld (lapp (zz (.int .u8 (.ofNat 0)) 32) [(.int .u32 (.ofNat 0))]) [(32, 1, (.v (.int .u32 (.ofNat 4294967295))))])),
 o 1 none (.e (.st s0 s1 33))])
 .ret))
 [.cn p0 33]

noncomputable def f13 : FnE := .code 9
 (.seq (.reg [o 0 d4 (.q (.mv (.v (.bool false))))])
 (.seq (.reg [o 0 d5 (.q (.mv s0)),
 o 1 d6 (.q (.mv s1)),
 o 2 d7 (.call p40 [s6]),
 o 3 d8 (.call p39 [s5, s7]),
 o 4 d4 (.q (.mv s8))])
 .ret))
 [.t p4]

noncomputable def f40 : FnE := .code 5
 (.seq (.reg [o 0 d2 (.e (.alo [(.int .i64 (.ofNat 0)), (.bool false), (.int .i64 (.ofNat 0)), (.bool false), (.int .i64 (.ofNat 0))]))])
 (.seq (.reg [o 0 d3 (.q (.mv s0)),
 o 1 d4 (.q (.bld [(.int .i64 (.ofNat 0)), (.bool false), (.int .i64 (.ofNat 0)), (.bool false), (.int .i64 (.ofNat 0))] [(0, 1, s3)])),
 o 2 none (.e (.st s2 s4 5))])
 .ret))
 [.cn p2 5]

noncomputable def f39 : FnE := .code 9
 (.seq (.reg [o 0 d3 (.e (.box s1 5)),
 o 1 d4 (.q (.mv (.v (.bool false))))])
 (.seq (.rgd 0 [o 0 d5 (.q (.mv s0)),
 o 2 d7 (.q (.ldn s3 5)),
 ⟨1, d6, (.call p76 [s5]), none, [(p7, .ldn s3 5, none)]⟩,
 o 3 d8 (.call p75 [s6, s7]),
 o 4 d4 (.q (.mv s8))])
 .ret))
 [.t p4]

noncomputable def f76 : FnE := .code 75
 (.seq (.reg [o 0 d2 (.e (.alo [(.int .i64 (.ofNat 0)), (.bool false), (.int .i64 (.ofNat 0)), (.bool false), (.int .i64 (.ofNat 0))]))])
 (.seq (.seq (.reg [o 0 d7 (.q (.mv s0)),
 o 1 d8 (.q (.eqp (.iface true) false s7 (.v .nili)))])
 (.cnd s8 (.seq (.reg [o 0 d9 (.call p124 []),
 o 1 none (.e (.st s2 s9 5))])
 .ret) .skip))
 (.seq (.reg [o 0 d11 (.q (.mv s0)),
 o 1 d12 (.q (.tas s11 77 .nilp true)),
 o 2 d10 (.q (.mv s12)),
 o 3 d13 (.q (.ext s10 0)),
 o 4 d14 (.q (.ext s10 1)),
 o 5 d3 (.q (.mv s13)),
 o 6 d4 (.q (.mv s14))])
 (.seq (.seq (.reg [o 0 d15 (.q (.mv s4)),
 o 1 d16 (.q (.not s15))])
 (.cnd s16 (.seq (.reg [o 0 d17 (.q (.mv s0)),
 o 1 d18 (.call p125 [s17]),
 o 2 d19 (.call p40 [s18]),
 o 3 none (.e (.st s2 s19 5))])
 .ret) .skip))
 (.seq (.seq (.reg [o 0 d20 (.q (.mv s3)),
 o 1 d21 (.q (.eqp .ptr false s20 (.v .nilp))),
 o 2 d22 (.q (.mv s21)),
 ⟨3, d23, (.q (.mv s3)), (some (p22, false)), []⟩,
 ⟨4, d24, (.q (.nck s23)), (some (p22, false)), []⟩,
 ⟨5, d25, (.q (.fadr s24 1)), (some (p22, false)), []⟩,
 ⟨6, d26, (.q (.ld1 s25)), (some (p22, false)), []⟩,
 ⟨7, d27, (.q (.eqp (.iface true) false s26 (.v .nili))), (some (p22, false)), []⟩,
 o 8 d28 (.q (.pick s22 (.v (.bool true)) s27))])
 (.cnd s28 (.seq (.reg [o 0 d29 (.call p40 [(.v (.int .i64 (.negSucc 0)))]),
 o 1 none (.e (.st s2 s29 5))])
 .ret) .skip))
 (.seq (.reg [o 0 d31 (.q (.mv s3)),
 o 1 d32 (.q (.nck s31)),
 o 2 d33 (.q (.fadr s32 1)),
 o 3 d34 (.q (.ld1 s33)),
 o 4 d35 (.q (.tas s34 77 .nilp true)),
 o 5 d30 (.q (.mv s35)),
 o 6 d36 (.q (.ext s30 0)),
 o 7 d37 (.q (.ext s30 1)),
 o 8 d5 (.q (.mv s36)),
 o 9 d6 (.q (.mv s37))])
 (.seq (.seq (.reg [o 0 d38 (.q (.mv s6)),
 o 1 d39 (.q (.not s38))])
 (.cnd s39 (.seq (.rgd 0 [o 0 d40 (.q (.mv s3)),
 o 1 d41 (.q (.nck s40)),
 o 2 d42 (.q (.fadr s41 1)),
 o 3 d43 (.q (.ld1 s42)),
 o 5 d45 (.q (.mv s3)),
 o 6 d46 (.q (.nck s45)),
 o 7 d47 (.q (.fadr s46 0)),
 o 8 d48 (.q (.ld1 s47)),
 ⟨4, d44, (.call p125 [s43]), none, [(p48, .ld1 s47, none)]⟩,
 o 9 d49 (.call p126 [s44, s48]),
 o 10 none (.e (.st s2 s49 5))])
 .ret) .skip))
 (.seq (.seq (.reg [o 0 d50 (.q (.mv s5)),
 o 1 d51 (.q (.eqp .ptr false s50 (.v .nilp))),
 o 2 d52 (.q (.mv s51)),
 ⟨3, d53, (.q (.mv s5)), (some (p52, false)), []⟩,
 ⟨4, d54, (.q (.nck s53)), (some (p52, false)), []⟩,
 ⟨5, d55, (.q (.fadr s54 1)), (some (p52, false)), []⟩,
 ⟨6, d56, (.q (.ld1 s55)), (some (p52, false)), []⟩,
 ⟨7, d57, (.q (.eqp (.iface true) false s56 (.v .nili))), (some (p52, false)), []⟩,
 o 8 d58 (.q (.pick s52 (.v (.bool true)) s57))])
 (.cnd s58 (.seq (.reg [o 0 d59 (.call p40 [(.v (.int .i64 (.negSucc 0)))]),
 o 1 none (.e (.st s2 s59 5))])
 .ret) .skip))
 (.seq (.rgd 0 [o 0 d60 (.q (.mv s5)),
 o 1 d61 (.q (.nck s60)),
 o 2 d62 (.q (.fadr s61 1)),
 o 3 d63 (.q (.ld1 s62)),
 o 5 d65 (.q (.mv s5)),
 o 6 d66 (.q (.nck s65)),
 o 7 d67 (.q (.fadr s66 0)),
 o 8 d68 (.q (.ld1 s67)),
 o 10 d70 (.q (.mv s3)),
 o 11 d71 (.q (.nck s70)),
 o 12 d72 (.q (.fadr s71 0)),
 o 13 d73 (.q (.ld1 s72)),
 ⟨4, d64, (.call p125 [s63]), none, [(p68, .ld1 s67, none), (p73, .ld1 s72, none)]⟩,
 ⟨9, d69, (.call p126 [s64, s68]), none, [(p73, .ld1 s72, none)]⟩,
 o 14 d74 (.call p127 [s69, s73]),
 o 15 none (.e (.st s2 s74 5))])
 .ret)))))))))
 [.cn p2 5]

noncomputable def f125 : FnE := .code 20
 (.seq (.reg [o 0 d2 (.q (.mv (.v (.int .i64 (.ofNat 0)))))])
 (.seq (.reg [o 0 d5 (.call p60 []),
 o 1 d3 (.q (.mv s5))])
 (.seq (.seq (.reg [o 0 d4 (.q (.mv (.v (.int .i64 (.ofNat 0)))))])
 (.blk 0 (.loop (.seq (.seq (.reg [o 0 d6 (.q (.mv s4)),
 o 1 d7 (.q (.mv s3)),
 o 2 d8 (.q (.lenv s7)),
 o 3 d9 (.q (.bin .lss s6 s8))])
 (.cnd s9 .skip (.exit 0)))
 (.seq (.blk 1 (.seq (.reg [o 0 d12 (.q (.mv s0)),
 o 1 d13 (.q (.mv s3)),
 o 2 d14 (.q (.mv s4)),
 o 3 d15 (.q (.iadr s13 s14 1)),
 o 4 d16 (.q (.ld1 s15)),
 o 5 d17 (.call p168 [s12, s16])])
 (.cnd s17 (.seq (.reg [o 0 d18 (.q (.mv s4)),
 o 1 d19 (.q (.bin .add (.v (.int .i64 (.ofNat 101))) s18)),
 o 2 d2 (.q (.mv s19))])
 .ret) .skip)))
 (.reg [o 0 d10 (.q (.mv s4)),
 o 1 d11 (.q (.bin .add s10 (.v (.int .i64 (.ofNat 1))))),
 o 2 d4 (.q (.mv s11))]))))))
 (.seq (.reg [o 0 d2 (.q (.mv (.v (.int .i64 (.negSucc 0)))))])
 .ret))))
 [.t p2]

noncomputable def f60 : FnE := .code 27
 (.seq (.reg [o 0 d0 (.q (.mv (.v .nils)))])
 (.seq (.reg [o 0 d1 (.q (.ld1 (.g p14))),
 o 1 d2 (.q (.ld1 (.g p7))),
 o 2 d3 (.q (.ld1 (.g p15))),
 o 3 d4 (.q (.ld1 (.g p16))),
 o 4 d5 (.q (.ld1 (.g p0))),
 o 5 d6 (.q (.ld1 (.g p1))),
 o 6 d7 (.q (.ld1 (.g p10))),
 o 7 d8 (.q (.ld1 (.g p17))),
 o 8 d9 (.q (.ld1 (.g p5))),
 o 9 d10 (.q (.ld1 (.g p18))),
 o 10 d11 (.q (.ld1 (.g p19))),
 o 11 d12 (.q (.ld1 (.g p9))),
 o 12 d13 (.q (.ld1 (.g p2))),
 o 13 d14 (.q (.ld1 (.g p12))),
 o 14 d15 (.q (.ld1 (.g p3))),
 o 15 d16 (.q (.ld1 (.g p4))),
 o 16 d17 (.q (.ld1 (.g p13))),
 o 17 d18 (.q (.ld1 (.g p11))),
 o 18 d19 (.q (.ld1 (.g p6))),
 o 19 d20 (.q (.ld1 (.g p8))),
 o 20 d21 (.q (.ld1 (.g p20))),
 o 21 d22 (.q (.ld1 (.g p21))),
 o 22 d23 (.q (.ld1 (.g p22))),
 o 23 d24 (.q (.ld1 (.g p23))),
 o 24 d25 (.q (.ld1 (.g p24))),
 o 25 d26 (.e (.bsl (zz .nili 25) [(0, 1, s1), (1, 1, s2), (2, 1, s3), (3, 1, s4), (4, 1, s5), (5, 1, s6), (6, 1, s7), (7, 1, s8), (8, 1, s9), (9, 1, s10), (10, 1, s11), (11, 1, s12), (12, 1, s13), (13, 1, s14), (14, 1, s15), (15, 1, s16), (16, 1, s17), (17, 1, s18), (18, 1, s19), (19, 1, s20), (20, 1, s21), (21, 1, s22), (22, 1, s23), (23, 1, s24), (24, 1, s25)] 25 1)),
 o 26 d0 (.q (.mv s26))])
 .ret))
 [.t p0]

noncomputable def f168 : FnE := .code 20
 (.seq (.reg [o 0 d4 (.q (.mv (.v (.bool false))))])
 (.seq (.seq (.reg [o 0 d5 (.q (.mv s0)),
 o 1 d6 (.q (.eqp (.iface true) false s5 (.v .nili))),
 o 2 d7 (.q (.mv s6)),
 ⟨3, d8, (.q (.mv s1)), (some (p7, false)), []⟩,
 ⟨4, d9, (.q (.eqp (.iface true) false s8 (.v .nili))), (some (p7, false)), []⟩,
 o 5 d10 (.q (.pick s7 (.v (.bool true)) s9))])
 (.cnd s10 (.seq (.reg [o 0 d11 (.q (.mv s0)),
 o 1 d12 (.q (.eqp (.iface true) false s11 (.v .nili))),
 o 2 d13 (.q (.mv s12)),
 ⟨3, d14, (.q (.mv s1)), (some (p13, true)), []⟩,
 ⟨4, d15, (.q (.eqp (.iface true) false s14 (.v .nili))), (some (p13, true)), []⟩,
 o 5 d16 (.q (.pick s13 s15 (.v (.bool false)))),
 o 6 d4 (.q (.mv s16))])
 .ret) .skip))
 (.seq (.reg [o 0 d17 (.q (.mv s0)),
 o 1 d18 (.q (.mv s1)),
 o 2 d19 (.q (.eqp (.iface false) false s17 s18)),
 o 3 d4 (.q (.mv s19))])
 .ret)))
 [.t p4]

noncomputable def f75 : FnE := .code 38
 (.seq (.reg [o 0 d2 (.e (.box s0 5)),
 o 1 d3 (.e (.box s1 5)),
 o 2 d4 (.q (.mv (.v (.bool false))))])
 (.seq (.reg [o 0 d5 (.q (.fadr s2 0)),
 o 1 d6 (.q (.ld1 s5)),
 o 2 d7 (.q (.fadr s3 0)),
 o 3 d8 (.q (.ld1 s7)),
 o 4 d9 (.q (.bin .eql s6 s8)),
 o 5 d10 (.q (.mv s9)),
 ⟨6, d11, (.q (.fadr s2 1)), (some (p10, true)), []⟩,
 ⟨7, d12, (.q (.ld1 s11)), (some (p10, true)), []⟩,
 ⟨8, d13, (.q (.fadr s3 1)), (some (p10, true)), []⟩,
 ⟨9, d14, (.q (.ld1 s13)), (some (p10, true)), []⟩,
 ⟨10, d15, (.q (.cmpb false s12 s14)), (some (p10, true)), []⟩,
 o 11 d16 (.q (.pick s10 s15 (.v (.bool false)))),
 o 12 d17 (.q (.mv s16)),
 ⟨13, d18, (.q (.fadr s2 2)), (some (p17, true)), []⟩,
 ⟨14, d19, (.q (.ld1 s18)), (some (p17, true)), []⟩,
 ⟨15, d20, (.q (.fadr s3 2)), (some (p17, true)), []⟩,
 ⟨16, d21, (.q (.ld1 s20)), (some (p17, true)), []⟩,
 ⟨17, d22, (.q (.bin .eql s19 s21)), (some (p17, true)), []⟩,
 o 18 d23 (.q (.pick s17 s22 (.v (.bool false)))),
 o 19 d24 (.q (.mv s23)),
 ⟨20, d25, (.q (.fadr s2 3)), (some (p24, true)), []⟩,
 ⟨21, d26, (.q (.ld1 s25)), (some (p24, true)), []⟩,
 ⟨22, d27, (.q (.fadr s3 3)), (some (p24, true)), []⟩,
 ⟨23, d28, (.q (.ld1 s27)), (some (p24, true)), []⟩,
 ⟨24, d29, (.q (.cmpb false s26 s28)), (some (p24, true)), []⟩,
 o 25 d30 (.q (.pick s24 s29 (.v (.bool false)))),
 o 26 d31 (.q (.mv s30)),
 ⟨27, d32, (.q (.fadr s2 4)), (some (p31, true)), []⟩,
 ⟨28, d33, (.q (.ld1 s32)), (some (p31, true)), []⟩,
 ⟨29, d34, (.q (.fadr s3 4)), (some (p31, true)), []⟩,
 ⟨30, d35, (.q (.ld1 s34)), (some (p31, true)), []⟩,
 ⟨31, d36, (.q (.bin .eql s33 s35)), (some (p31, true)), []⟩,
 o 32 d37 (.q (.pick s31 s36 (.v (.bool false)))),
 o 33 d4 (.q (.mv s37))])
 .ret))
 [.t p4]

noncomputable def f26 : FnE := .code 29
 (.seq (.reg [o 0 d2 (.q (.mv (.v (.int .i64 (.ofNat 0)))))])
 (.seq (.reg [o 0 d6 (.q (.ld1 (.g p5))),
 o 1 d7 (.q (.ld1 (.g p2))),
 o 2 d8 (.q (.ld1 (.g p3))),
 o 3 d9 (.q (.ld1 (.g p4))),
 o 4 d10 (.q (.ld1 (.g p8))),
 o 5 d11 (.q (.ld1 (.g p6))),
 o 6 d12 (.e (.bsl (zz .nili 10) [(1, 1, s6), (2, 1, s7), (3, 1, s8), (4, 1, s9), (5, 1, s10), (9, 1, s11)] 10 1)),
 o 7 d3 (.q (.mv s12))])
 (.seq (.seq (.reg [o 0 d13 (.q (.mv s3)),
 o 1 d14 (.q (.lenv s13)),
 o 2 d15 (.q (.mv (.v (.int .i64 (.ofNat 0)))))])
 (.blk 0 (.loop (.seq (.reg [o 0 d16 (.q (.bin .lss s15 s14))])
 (.seq (.cnd s16 .skip (.exit 0))
 (.seq (.blk 1 (.seq (.reg [o 0 d17 (.q (.mv s15)),
 o 1 d18 (.q (.iadr s13 s15 1)),
 o 2 d19 (.q (.ld1 s18)),
 o 3 d4 (.q (.mv s17)),
 o 4 d5 (.q (.mv s19))])
 (.seq (.reg [o 0 d20 (.q (.mv s5)),
 o 1 d21 (.q (.eqp (.iface true) true s20 (.v .nili))),
 o 2 d22 (.q (.mv s21)),
 ⟨3, d23, (.q (.mv s0)), (some (p22, true)), []⟩,
 ⟨4, d24, (.q (.mv s5)), (some (p22, true)), []⟩,
 ⟨5, d25, (.call p61 [s23, s24]), (some (p22, true)), []⟩,
 o 6 d26 (.q (.pick s22 s25 (.v (.bool false))))])
 (.cnd s26 (.seq (.reg [o 0 d27 (.q (.mv s4)),
 o 1 d2 (.q (.mv s27))])
 .ret) .skip))))
 (.reg [o 0 d28 (.q (.bin .add s15 (.v (.int .i64 (.ofNat 1))))),
 o 1 d15 (.q (.mv s28))])))))))
 (.seq (.reg [o 0 d2 (.q (.mv (.v (.int .i64 (.ofNat 0)))))])
 .ret))))
 [.t p2]

noncomputable def f24 : FnE := .code 2
 (.seq (.reg [o 0 d0 (.q (.mv (.v .nils)))])
 (.seq (.reg [o 0 d1 (.call p60 []),
 o 1 d0 (.q (.mv s1))])
 .ret))
 [.t p0]

noncomputable def f25 : FnE := .code 16
 (.seq (.reg [o 0 d2 (.q (.mv (.v (.int .i64 (.ofNat 0)))))])
 (.seq (.seq (.reg [o 0 d3 (.q (.mv s0))])
 (.blk 0 (.seq (.reg [o 0 d5 (.q (.bin .eql s3 (.v (.int .i64 (.ofNat 113))))),
 o 1 d4 (.q (.mv s5))])
 (.cnd s4 (.seq (.reg [o 0 d2 (.q (.mv (.v (.int .i64 (.ofNat 2)))))])
 .ret) (.seq (.reg [o 0 d7 (.q (.bin .eql s3 (.v (.int .i64 (.ofNat 119))))),
 o 1 d6 (.q (.mv s7))])
 (.cnd s6 (.seq (.reg [o 0 d2 (.q (.mv (.v (.int .i64 (.ofNat 9)))))])
 .ret) (.seq (.reg [o 0 d9 (.q (.bin .eql s3 (.v (.int .i64 (.ofNat 115))))),
 o 1 d8 (.q (.mv s9))])
 (.cnd s8 (.seq (.reg [o 0 d2 (.q (.mv (.v (.int .i64 (.ofNat 3)))))])
 .ret) (.seq (.reg [o 0 d11 (.q (.bin .eql s3 (.v (.int .i64 (.ofNat 116))))),
 o 1 d10 (.q (.mv s11))])
 (.cnd s10 (.seq (.reg [o 0 d2 (.q (.mv (.v (.int .i64 (.ofNat 4)))))])
 .ret) (.seq (.reg [o 0 d13 (.q (.bin .eql s3 (.v (.int .i64 (.ofNat 120))))),
 o 1 d12 (.q (.mv s13))])
 (.cnd s12 (.seq (.reg [o 0 d2 (.q (.mv (.v (.int .i64 (.ofNat 5)))))])
 .ret) (.seq (.reg [o 0 d15 (.q (.bin .eql s3 (.v (.int .i64 (.ofNat 109))))),
 o 1 d14 (.q (.mv s15))])
 (.cnd s14 (.seq (.reg [o 0 d2 (.q (.mv (.v (.int .i64 (.ofNat 1)))))])
 .ret) .skip))))))))))))))
 (.seq (.reg [o 0 d2 (.q (.mv (.v (.int .i64 (.ofNat 0)))))])
 .ret)))
 [.t p2]

noncomputable def f107 : FnE := .code 54
 (.seq (.reg [o 0 d6 (.q (.mv (.v (.bool false))))])
 (.blk 0 (.loop (.blk 1 (.seq (.seq (.reg [o 0 d14 (.q (.mv s2)),
 o 1 d15 (.q (.mv s14)),
 ⟨2, d16, (.q (.mv s0)), (some (p15, true)), []⟩,
 ⟨3, d17, (.q (.mv s1)), (some (p15, true)), []⟩,
 ⟨4, d18, (.q (.eqp (.iface false) false s16 s17)), (some (p15, true)), []⟩,
 o 5 d19 (.q (.pick s15 s18 (.v (.bool false))))])
 (.cnd s19 (.seq (.reg [o 0 d6 (.q (.mv (.v (.bool true))))])
 .ret) .skip))
 (.seq (.seq (.reg [o 0 d21 (.q (.mv s0)),
 o 1 d22 (.q (.tai s21 [17, 21, 23, 29, 31, 33, 35, 39, 61, 117, 129, 155, 223, 245, 255, 263, 343, 395, 419, 499, 501, 503, 571, 621, 627, 643, 683] true)),
 o 2 d20 (.q (.mv s22)),
 o 3 d23 (.q (.ext s20 0)),
 o 4 d24 (.q (.ext s20 1)),
 o 5 d7 (.q (.mv s23)),
 o 6 d8 (.q (.mv s24))])
 (.seq (.reg [o 0 d25 (.q (.mv s8)),
 o 1 d26 (.q (.mv s25)),
 ⟨2, d27, (.q (.mv s7)), (some (p26, true)), []⟩,
 ⟨3, d28, (.q (.mv s1)), (some (p26, true)), []⟩,
 ⟨4, d29, (.inv s27 "Is" [s28]), (some (p26, true)), []⟩,
 o 5 d30 (.q (.pick s26 s29 (.v (.bool false))))])
 (.cnd s30 (.seq (.reg [o 0 d6 (.q (.mv (.v (.bool true))))])
 .ret) .skip)))
 (.seq (.reg [o 0 d31 (.q (.mv s0))])
 (.blk 2 (.seq (.reg [o 0 d32 (.q (.tai s31 [17, 21, 23, 29, 31, 33, 35, 39, 61, 117, 129, 154, 223, 245, 255, 263, 343, 395, 419, 499, 501, 503, 571, 621, 627, 643, 683] true)),
 o 1 d33 (.q (.ext s32 1)),
 o 2 d34 (.q (.ext s32 0))])
 (.cnd s33 (.seq (.reg [o 0 d9 (.q (.mv s34))])
 (.seq (.reg [o 0 d35 (.q (.mv s9)),
 o 1 d36 (.inv s35 "Unwrap" []),
 o 2 d0 (.q (.mv s36))])
 (.seq (.reg [o 0 d37 (.q (.mv s0)),
 o 1 d38 (.q (.eqp (.iface true) false s37 (.v .nili)))])
 (.cnd s38 (.seq (.reg [o 0 d6 (.q (.mv (.v (.bool false))))])
 .ret) .skip)))) (.seq (.reg [o 0 d39 (.q (.tai s31 [17, 21, 23, 29, 31, 33, 35, 39, 61, 117, 129, 155, 223, 245, 255, 263, 343, 395, 419, 499, 501, 503, 571, 621, 627, 643, 683] true)),
 o 1 d40 (.q (.ext s39 1)),
 o 2 d41 (.q (.ext s39 0))])
 (.cnd s40 (.seq (.reg [o 0 d10 (.q (.mv s41))])
 (.seq (.seq (.reg [o 0 d42 (.q (.mv s10)),
 o 1 d43 (.inv s42 "Unwrap" []),
 o 2 d44 (.q (.lenv s43)),
 o 3 d45 (.q (.mv (.v (.int .i64 (.ofNat 0)))))])
 (.blk 3 (.loop (.seq (.reg [o 0 d46 (.q (.bin .lss s45 s44))])
 (.seq (.cnd s46 .skip (.exit 3))
 (.seq (.blk 4 (.seq (.reg [o 0 d47 (.q (.iadr s43 s45 1)),
 o 1 d48 (.q (.ld1 s47)),
 o 2 d12 (.q (.mv s48))])
 (.seq (.reg [o 0 d49 (.q (.mv s12)),
 o 1 d50 (.q (.mv s1)),
 o 2 d51 (.q (.mv s2)),
 o 3 d52 (.call p107 [s49, s50, s51])])
 (.cnd s52 (.seq (.reg [o 0 d6 (.q (.mv (.v (.bool true))))])
 .ret) .skip))))
 (.reg [o 0 d53 (.q (.bin .add s45 (.v (.int .i64 (.ofNat 1))))),
 o 1 d45 (.q (.mv s53))])))))))
 (.seq (.reg [o 0 d6 (.q (.mv (.v (.bool false))))])
 .ret))) (.seq (.reg [o 0 d13 (.q (.mv s31))])
 (.seq (.reg [o 0 d6 (.q (.mv (.v (.bool false))))])
 .ret))))))))))))))
 [.t p6]

noncomputable def f239 : FnE := .code 7
 (.seq (.reg [o 0 d2 (.q (.mv (.v .nili)))])
 (.seq (.reg [o 0 d3 (.q (.mv s0)),
 o 1 d4 (.q (.nck s3)),
 o 2 d5 (.q (.fadr s4 1)),
 o 3 d6 (.q (.ld1 s5)),
 o 4 d2 (.q (.mv s6))])
 .ret))
 [.t p2]

noncomputable def f190 : FnE := .code 19
 (.seq (.reg [o 0 d3 (.e (.box s1 33)),
 o 1 d4 (.e (.alo (lapp [(.int .u64 (.ofNat 0))] (lapp (zz (.int .u8 (.ofNat 0)) 32) [(.int .i64 (.ofNat 0)), (.bool false)])))),
 o 2 d5 (.q (.mv (.v (.bool false))))])
 (.seq (.rgd 0 [o 0 d9 (.q (.mv s0)),
 o 1 d10 (.q (.nck s9)),
 o 2 d11 (.q (.fadr s10 0)),
 o 3 d12 (.q (.ld1 s11)),
 o 4 d13 (.q (.ldn s3 33)),
 o 5 d14 (.q (.lkp s12 s13 (.cells [.u8, .u8, .u8, .u8, .u8, .u8, .u8, .u8, .u8, .u8, .u8, .u8, .u8, .u8, .u8, .u8, .u8, .u8, .u8, .u8, .u8, .u8, .u8, .u8, .u8, .u8, .u8, .u8, .u8, .u8, .u8, .u8, .u32]) (.agg (lapp [(.int .u64 (.ofNat 0))] (lapp (zz (.int .u8 (.ofNat 0)) 32) [(.int .i64 (.ofNat 0)), (.bool false)]))) true)),
 o 6 d8 (.q (.mv s14)),
 o 7 d15 (.q (.ext s8 0)),
 o 8 d16 (.q (.ext s8 1)),
 ⟨9, d6, (.e (.alo (lapp [(.int .u64 (.ofNat 0))] (lapp (zz (.int .u8 (.ofNat 0)) 32) [(.int .i64 (.ofNat 0)), (.bool false)])))), none, [(p12, .ld1 s11, none), (p13, .ldn s3 33, none), (p14, .lkp s12 s13 (.cells [.u8, .u8, .u8, .u8, .u8, .u8, .u8, .u8, .u8, .u8, .u8, .u8, .u8, .u8, .u8, .u8, .u8, .u8, .u8, .u8, .u8, .u8, .u8, .u8, .u8, .u8, .u8, .u8, .u8, .u8, .u8, .u8, .u32]) (.agg (lapp [(.int .u64 (.ofNat 0))] (lapp (zz (.int .u8 (.ofNat 0)) 32) [(.int .i64 (.ofNat 0)), (.bool false)]))) true, none)]⟩,
 o 10 none (.e (.st s6 s15 35)),
 o 11 d7 (.q (.mv s16))])
 (.seq (.reg [o 0 d17 (.q (.ldn s6 35)),
 o 1 d18 (.q (.mv s7)),
 o 2 none (.e (.st s4 s17 35)),
 o 3 d5 (.q (.mv s18))])
 .ret)))
 [.cn p4 35, .t p5]

noncomputable def tabA : T FnE := (.node (.node (.node (.node (.node .nil none (.node (.node .nil (some f79) .nil) (some f47) (.node .nil none (.node .nil (some f239) .nil)))) (some f7) (.node (.node (.node (.node .nil (some f135) .nil) (some f71) .nil) (some f39) .nil) (some f23) .nil)) none (.node .nil none (.node (.node (.node .nil (some f75) .nil) none (.node (.node .nil (some f171) .nil) (some f107) .nil)) none (.node (.node (.node .nil (some f155) .nil) none .nil) (some f59) (.node .nil (some f123) .nil))))) none (.node (.node .nil (some f9) (.node (.node .nil none (.node .nil (some f105) .nil)) (some f25) (.node (.node (.node .nil (some f153) .nil) none .nil) none (.node (.node .nil (some f185) .nil) none .nil)))) none (.node (.node (.node (.node (.node .nil (some f133) .nil) none .nil) none (.node .nil (some f101) .nil)) none (.node (.node .nil (some f85) .nil) none .nil)) (some f13) (.node .nil (some f29) (.node .nil none (.node .nil (some f125) .nil)))))) none (.node (.node (.node (.node (.node (.node .nil (some f64) .nil) none .nil) none .nil) none (.node (.node (.node (.node .nil (some f136) .nil) (some f72) .nil) (some f40) (.node (.node .nil (some f168) .nil) none .nil)) (some f24) (.node (.node (.node .nil (some f152) .nil) none .nil) none .nil))) none (.node (.node (.node .nil none (.node .nil (some f100) .nil)) none (.node .nil none (.node .nil (some f116) .nil))) none (.node (.node (.node .nil (some f76) .nil) none .nil) none (.node .nil (some f60) .nil)))) none (.node (.node (.node (.node (.node .nil (some f66) .nil) none .nil) none (.node (.node .nil (some f82) .nil) none (.node .nil (some f114) .nil))) none (.node .nil (some f26) (.node (.node (.node .nil (some f154) .nil) none .nil) (some f58) .nil))) none (.node .nil none (.node .nil none (.node .nil none (.node (.node .nil (some f190) .nil) none .nil)))))))
end Go.Proofs.YtknhohgnilamcaaGreatDoor.Ir
