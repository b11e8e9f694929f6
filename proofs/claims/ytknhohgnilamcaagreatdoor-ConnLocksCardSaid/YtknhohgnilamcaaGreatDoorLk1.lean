/-
  The functions of the road, for the machine. (Written by a program.)
-/
import Derived.Test.YtknhohgnilamcaaGreatDoorLk0
namespace Go.Proofs.YtknhohgnilamcaaGreatDoor.Ir
set_option linter.unusedVariables false
set_option maxRecDepth 100000
open Go Go.Proofs.YtknhohgnilamcaaGreatDoor
noncomputable def f3 : FnE := .code 108
 (.seq (.reg [o 0 d6 (.q (.mv (.v (.bool false))))])
 (.seq (.reg [o 0 d18 (.call p8 []),
 o 1 d7 (.q (.mv s18))])
 (.seq (.seq (.reg [o 0 d19 (.q (.mv s7)),
 o 1 d20 (.q (.not s19))])
 (.cnd s20 (.seq (.reg [o 0 d6 (.q (.mv (.v (.bool false))))])
 .ret) .skip))
 (.seq (.reg [o 0 d21 (.q (.mv s0)),
 o 1 d22 (.call p9 [s21, (.v (.int .i64 (.ofNat 20)))]),
 o 2 d0 (.q (.mv s22))])
 (.seq (.reg [o 0 d23 (.q (.mv s1)),
 o 1 d24 (.call p9 [s23, (.v (.int .i64 (.ofNat 20)))]),
 o 2 d25 (.q (.bin .add s24 (.v (.int .i64 (.ofNat 1))))),
 o 3 d1 (.q (.mv s25))])
 (.seq (.reg [o 0 d26 (.e (.bsl [(.int .u8 (.ofNat 0))] [(0, 1, (.v (.int .u8 (.ofNat 6))))] 1 1)),
 o 1 d8 (.q (.mv s26))])
 (.seq (.reg [o 0 d27 (.q (.bld (zz (.int .u8 (.ofNat 0)) 32) [(0, 1, (.v (.int .u8 (.ofNat 2))))])),
 o 1 d28 (.q (.bld (lapp (zz (.int .u8 (.ofNat 0)) 32) [(.int .u32 (.ofNat 0))]) [(0, 32, s27)])),
 o 2 d9 (.e (.alo (lapp (zz (.int .u8 (.ofNat 0)) 32) [(.int .u32 (.ofNat 0))]))),
 o 3 none (.e (.st s9 s28 33))])
 (.seq (.reg [o 0 d29 (.q (.bld [.nilm] [])),
 o 1 d30 (.e (.box s29 1)),
 o 2 d10 (.q (.mv s30))])
 (.seq (.seq (.rgd 0 [o 0 d31 (.q (.mv s10)),
 o 1 d32 (.q (.ldn s9 33)),
 o 2 d33 (.q (.mv s8)),
 ⟨3, d34, (.call p11 [s33]), none, [(p32, .ldn s9 33, none)]⟩,
 o 4 d35 (.q (.bld (lapp [(.int .u64 (.ofNat 0))] (lapp (zz (.int .u8 (.ofNat 0)) 32) [(.int .i64 (.ofNat 0)), (.bool false)])) [(0, 1, (.v (.int .u64 (.ofNat 9)))), (1, 32, s34), (33, 1, (.v (.int .i64 (.ofNat 3))))])),
 o 5 d36 (.call p10 [s31, s32, s35]),
 o 6 d37 (.q (.eqp (.iface true) true s36 (.v .nili)))])
 (.cnd s37 (.seq (.reg [o 0 d6 (.q (.mv (.v (.bool false))))])
 .ret) .skip))
 (.seq (.reg [o 0 d38 (.q (.mv s1)),
 o 1 d39 (.q (.bin .add (.v (.int .i64 (.ofNat 3))) s38)),
 o 2 d11 (.q (.mv s39))])
 (.seq (.reg [o 0 d12 (.q (.mv (.v .nils)))])
 (.seq (.seq (.reg [o 0 d13 (.q (.mv (.v (.int .i64 (.ofNat 0)))))])
 (.blk 0 (.loop (.seq (.seq (.reg [o 0 d40 (.q (.mv s13)),
 o 1 d41 (.q (.mv s11)),
 o 2 d42 (.q (.bin .lss s40 s41))])
 (.cnd s42 .skip (.exit 0)))
 (.seq (.blk 1 (.reg [o 0 d45 (.q (.mv s12)),
 o 1 d46 (.q (.mv s13)),
 o 2 d47 (.q (.bin .mul (.v (.int .i64 (.ofNat 512))) s46)),
 o 3 d48 (.q (.bin .add (.v (.int .i64 (.ofNat 10000))) s47)),
 o 4 d49 (.q (.cvi .u32 s48)),
 o 5 d50 (.e (.bsl [(.int .u32 (.ofNat 0))] [(0, 1, s49)] 1 1)),
 o 6 d51 (.e (.app s45 s50 1 4 false)),
 o 7 d12 (.q (.mv s51))]))
 (.reg [o 0 d43 (.q (.mv s13)),
 o 1 d44 (.q (.bin .add s43 (.v (.int .i64 (.ofNat 1))))),
 o 2 d13 (.q (.mv s44))]))))))
 (.seq (.reg [o 0 d52 (.q (.ldn s9 33)),
 o 1 d53 (.q (.mv s8)),
 o 2 d54 (.q (.mv s0)),
 o 3 d55 (.q (.cvi .u32 s54)),
 o 4 d56 (.q (.bld (lapp (zz (.int .u8 (.ofNat 0)) 32) [(.int .u32 (.ofNat 0)), .nils, (.int .u32 (.ofNat 0))]) [(0, 33, s52), (33, 1, s53), (34, 1, s55)])),
 o 5 d57 (.e (.bsl (lapp (zz (.int .u8 (.ofNat 0)) 32) [(.int .u32 (.ofNat 0)), .nils, (.int .u32 (.ofNat 0))]) [(0, 35, s56)] 1 35)),
 o 6 d58 (.q (.bld (lapp [(.int .u64 (.ofNat 0))] (zz (.int .u8 (.ofNat 0)) 32)) [(0, 1, (.v (.int .u64 (.ofNat 4))))])),
 o 7 d59 (.e (.bsl (lapp [(.int .u64 (.ofNat 0))] (zz (.int .u8 (.ofNat 0)) 32)) [(0, 33, s58)] 1 33)),
 o 8 d60 (.q (.bld [(.int .u32 (.ofNat 0)), .nils, .nils, (.int .u32 (.ofNat 0))] [(0, 1, (.v (.int .u32 (.ofNat 2)))), (1, 1, s57), (2, 1, s59)])),
 o 9 d14 (.e (.alo [(.int .u32 (.ofNat 0)), .nils, .nils, (.int .u32 (.ofNat 0))])),
 o 10 none (.e (.st s14 s60 4))])
 (.seq (.reg [o 0 d61 (.q (.mv s1)),
 o 1 d62 (.q (.mv s0)),
 o 2 d63 (.q (.bin .lss s61 s62)),
 o 3 d15 (.q (.mv s63))])
 (.seq (.seq (.reg [o 0 d64 (.q (.mv s2))])
 (.cnd s64 (.seq (.rgd 0 [o 0 d65 (.q (.fadr s14 1)),
 o 1 d66 (.q (.ld1 s65)),
 o 2 d67 (.q (.fadr s14 1)),
 o 3 d68 (.q (.ld1 s67)),
 o 4 d69 (.q (.iadr s68 (.v (.int .i64 (.ofNat 0))) 35)),
 o 5 d70 (.q (.fadr s69 34)),
 o 6 d71 (.q (.ld1 s70)),
 o 7 d72 (.q (.bin .or s71 (.v (.int .u32 (.ofNat 4194304))))),
 o 8 d73 (.q (.iadr s66 (.v (.int .i64 (.ofNat 0))) 35)),
 o 9 d74 (.q (.fadr s73 34)),
 o 10 none (.e (.st s74 s72 1))])
 (.reg [o 0 d75 (.q (.mv s11)),
 o 1 d76 (.q (.bin .sub s75 (.v (.int .i64 (.ofNat 1))))),
 o 2 d77 (.q (.bin .sub s76 (.v (.int .i64 (.ofNat 2))))),
 o 3 d78 (.q (.mv s0)),
 o 4 d79 (.q (.bin .lss s77 s78)),
 o 5 d15 (.q (.mv s79))])) .skip))
 (.seq (.reg [o 0 d81 (.q (.ldn s14 4)),
 o 1 d82 (.q (.mv s10)),
 o 2 d83 (.q (.mki 30 s82)),
 o 3 d84 (.q (.mv s11)),
 o 4 d85 (.q (.mv s12)),
 o 5 d86 (.call p12 [s81, s83, s84, s85, (.v (.int .i64 (.ofNat 0)))]),
 o 6 d80 (.q (.mv s86)),
 o 7 d87 (.q (.ext s80 0)),
 o 8 d88 (.q (.ext s80 1)),
 o 9 d16 (.q (.mv s87)),
 o 10 d17 (.q (.mv s88))])
 (.seq (.seq (.reg [o 0 d89 (.q (.mv s15))])
 (.cnd s89 (.seq (.reg [o 0 d90 (.q (.mv s7)),
 o 1 d91 (.q (.mv s90)),
 ⟨2, d92, (.q (.mv s17)), (some (p91, true)), []⟩,
 ⟨3, d93, (.call p13 [s92, (.v (.int .i64 (.ofNat 116)))]), (some (p91, true)), []⟩,
 o 4 d94 (.q (.pick s91 s93 (.v (.bool false)))),
 o 5 d95 (.q (.mv s94)),
 ⟨6, d96, (.q (.mv s16)), (some (p95, true)), []⟩,
 ⟨7, d97, (.q (.bin .eql s96 (.v (.int .u64 (.ofNat 0))))), (some (p95, true)), []⟩,
 o 8 d98 (.q (.pick s95 s97 (.v (.bool false)))),
 o 9 d6 (.q (.mv s98))])
 .ret) .skip))
 (.seq (.reg [o 0 d99 (.q (.mv s7)),
 o 1 d100 (.q (.mv s99)),
 ⟨2, d101, (.q (.mv s17)), (some (p100, true)), []⟩,
 ⟨3, d102, (.q (.eqp (.iface true) false s101 (.v .nili))), (some (p100, true)), []⟩,
 o 4 d103 (.q (.pick s100 s102 (.v (.bool false)))),
 o 5 d104 (.q (.mv s103)),
 ⟨6, d105, (.q (.mv s16)), (some (p104, true)), []⟩,
 ⟨7, d106, (.q (.bin .eql s105 (.v (.int .u64 (.ofNat 5))))), (some (p104, true)), []⟩,
 o 8 d107 (.q (.pick s104 s106 (.v (.bool false)))),
 o 9 d6 (.q (.mv s107))])
 .ret))))))))))))))))))
 [.t p6]

noncomputable def f8 : FnE := .code 17
 (.seq (.reg [o 0 d0 (.q (.mv (.v (.bool false))))])
 (.seq (.reg [o 0 d5 (.q (.bld [.nilm] [])),
 o 1 d6 (.e (.box s5 1)),
 o 2 d1 (.q (.mv s6))])
 (.seq (.reg [o 0 d8 (.q (.mv s1)),
 o 1 d9 (.call p28 []),
 o 2 d10 (.call p29 [(.v (.int .i64 (.ofNat 0)))]),
 o 3 d11 (.call p27 [s8, s9, (.v (.int .i64 (.ofNat 0))), (.v .nils), s10]),
 o 4 d7 (.q (.mv s11)),
 o 5 d12 (.q (.ext s7 0)),
 o 6 d13 (.q (.ext s7 1)),
 o 7 d14 (.q (.ext s7 2)),
 o 8 d2 (.q (.mv s12)),
 o 9 d3 (.q (.mv s13)),
 o 10 d4 (.q (.mv s14))])
 (.seq (.reg [o 0 d15 (.q (.mv s4)),
 o 1 d16 (.call p13 [s15, (.v (.int .i64 (.ofNat 102)))]),
 o 2 d0 (.q (.mv s16))])
 .ret))))
 [.t p0]

noncomputable def f9 : FnE := .code 15
 (.seq (.reg [o 0 d4 (.q (.mv (.v (.int .i64 (.ofNat 0)))))])
 (.seq (.reg [o 0 d6 (.q (.mv s0)),
 o 1 d7 (.q (.mv s1)),
 o 2 d8 (.q (.bin .rem s6 s7)),
 o 3 d5 (.q (.mv s8))])
 (.seq (.seq (.reg [o 0 d9 (.q (.mv s5)),
 o 1 d10 (.q (.bin .lss s9 (.v (.int .i64 (.ofNat 0)))))])
 (.cnd s10 (.reg [o 0 d11 (.q (.mv s5)),
 o 1 d12 (.q (.mv s1)),
 o 2 d13 (.q (.bin .add s11 s12)),
 o 3 d5 (.q (.mv s13))]) .skip))
 (.seq (.reg [o 0 d14 (.q (.mv s5)),
 o 1 d4 (.q (.mv s14))])
 .ret))))
 [.t p4]

noncomputable def f10 : FnE := .code 39
 (.seq (.reg [o 0 d4 (.e (.box s1 33)),
 o 1 d5 (.e (.box s2 35)),
 o 2 d6 (.q (.mv (.v .nili)))])
 (.seq (.seq (.reg [o 0 d9 (.q (.fadr s5 0)),
 o 1 d10 (.q (.ld1 s9)),
 o 2 d11 (.q (.bin .gtr s10 (.v (.int .u64 (.ofNat 2100000000000000)))))])
 (.cnd s11 (.seq (.reg [o 0 d12 (.q (.ld1 (.g p0))),
 o 1 d6 (.q (.mv s12))])
 .ret) .skip))
 (.seq (.seq (.rgd 0 [o 0 d14 (.q (.mv s0)),
 o 1 d15 (.q (.nck s14)),
 o 2 d16 (.q (.fadr s15 0)),
 o 3 d17 (.q (.ld1 s16)),
 o 4 d18 (.q (.ldn s4 33)),
 o 5 d19 (.q (.lkp s17 s18 (.cells [.u8, .u8, .u8, .u8, .u8, .u8, .u8, .u8, .u8, .u8, .u8, .u8, .u8, .u8, .u8, .u8, .u8, .u8, .u8, .u8, .u8, .u8, .u8, .u8, .u8, .u8, .u8, .u8, .u8, .u8, .u8, .u8, .u32]) (.agg (lapp [(.int .u64 (.ofNat 0))] (lapp (zz (.int .u8 (.ofNat 0)) 32) [(.int .i64 (.ofNat 0)), (.bool false)]))) true)),
 o 6 d13 (.q (.mv s19)),
 o 7 d20 (.q (.ext s13 0)),
 o 8 d21 (.q (.ext s13 1)),
 ⟨9, d7, (.e (.alo (lapp [(.int .u64 (.ofNat 0))] (lapp (zz (.int .u8 (.ofNat 0)) 32) [(.int .i64 (.ofNat 0)), (.bool false)])))), none, [(p17, .ld1 s16, none), (p18, .ldn s4 33, none), (p19, .lkp s17 s18 (.cells [.u8, .u8, .u8, .u8, .u8, .u8, .u8, .u8, .u8, .u8, .u8, .u8, .u8, .u8, .u8, .u8, .u8, .u8, .u8, .u8, .u8, .u8, .u8, .u8, .u8, .u8, .u8, .u8, .u8, .u8, .u8, .u8, .u32]) (.agg (lapp [(.int .u64 (.ofNat 0))] (lapp (zz (.int .u8 (.ofNat 0)) 32) [(.int .i64 (.ofNat 0)), (.bool false)]))) true, none)]⟩,
 o 10 none (.e (.st s7 s20 35)),
 o 11 d8 (.q (.mv s21))])
 (.seq (.reg [o 0 d22 (.q (.mv s8))])
 (.cnd s22 (.seq (.reg [o 0 d23 (.q (.ld1 (.g p1))),
 o 1 d6 (.q (.mv s23))])
 .ret) .skip)))
 (.seq (.seq (.reg [o 0 d24 (.q (.mv s0)),
 o 1 d25 (.q (.nck s24)),
 o 2 d26 (.q (.fadr s25 0)),
 o 3 d27 (.q (.ld1 s26)),
 o 4 d28 (.q (.eqp .map false s27 (.v .nilm)))])
 (.cnd s28 (.reg [o 0 d29 (.q (.mv s0)),
 o 1 d30 (.e (.mkm (.cells [.u8, .u8, .u8, .u8, .u8, .u8, .u8, .u8, .u8, .u8, .u8, .u8, .u8, .u8, .u8, .u8, .u8, .u8, .u8, .u8, .u8, .u8, .u8, .u8, .u8, .u8, .u8, .u8, .u8, .u8, .u8, .u8, .u32]))),
 o 2 d31 (.q (.nck s29)),
 o 3 d32 (.q (.fadr s31 0)),
 o 4 none (.e (.st s32 s30 1))]) .skip))
 (.seq (.rgd 0 [o 0 d33 (.q (.mv s0)),
 o 1 d34 (.q (.nck s33)),
 o 2 d35 (.q (.fadr s34 0)),
 o 3 d36 (.q (.ld1 s35)),
 o 4 d37 (.q (.ldn s4 33)),
 o 5 d38 (.q (.ldn s5 35)),
 o 6 none (.e (.mup s36 s37 s38 (.cells [.u8, .u8, .u8, .u8, .u8, .u8, .u8, .u8, .u8, .u8, .u8, .u8, .u8, .u8, .u8, .u8, .u8, .u8, .u8, .u8, .u8, .u8, .u8, .u8, .u8, .u8, .u8, .u8, .u8, .u8, .u8, .u8, .u32])))])
 (.seq (.reg [o 0 d6 (.q (.mv (.v .nili)))])
 .ret))))))
 [.t p6]

noncomputable def f11 : FnE := .code 282
 (.seq (.reg [o 0 d2 (.e (.alo (zz (.int .u8 (.ofNat 0)) 32)))])
 (.seq (.reg [o 0 d23 (.e (.bsl (zz (.int .u32 (.ofNat 0)) 8) [(0, 1, (.v (.int .u32 (.ofNat 1779033703)))), (1, 1, (.v (.int .u32 (.ofNat 3144134277)))), (2, 1, (.v (.int .u32 (.ofNat 1013904242)))), (3, 1, (.v (.int .u32 (.ofNat 2773480762)))), (4, 1, (.v (.int .u32 (.ofNat 1359893119)))), (5, 1, (.v (.int .u32 (.ofNat 2600822924)))), (6, 1, (.v (.int .u32 (.ofNat 528734635)))), (7, 1, (.v (.int .u32 (.ofNat 1541459225))))] 8 1)),
 o 1 d3 (.q (.mv s23))])
 (.seq (.reg [o 0 d24 (.q (.mv s0)),
 o 1 d25 (.call p30 [s24]),
 o 2 d26 (.e (.bsl [(.int .u8 (.ofNat 0))] [(0, 1, (.v (.int .u8 (.ofNat 128))))] 1 1)),
 o 3 d27 (.e (.app s25 s26 1 1 false)),
 o 4 d4 (.q (.mv s27))])
 (.seq (.blk 0 (.loop (.seq (.seq (.reg [o 0 d28 (.q (.mv s4)),
 o 1 d29 (.q (.lenv s28)),
 o 2 d30 (.q (.bin .rem s29 (.v (.int .i64 (.ofNat 64))))),
 o 3 d31 (.q (.bin .neq s30 (.v (.int .i64 (.ofNat 56)))))])
 (.cnd s31 .skip (.exit 0)))
 (.blk 1 (.reg [o 0 d32 (.q (.mv s4)),
 o 1 d33 (.e (.bsl [(.int .u8 (.ofNat 0))] [(0, 1, (.v (.int .u8 (.ofNat 0))))] 1 1)),
 o 2 d34 (.e (.app s32 s33 1 1 false)),
 o 3 d4 (.q (.mv s34))])))))
 (.seq (.reg [o 0 d35 (.q (.mv s0)),
 o 1 d36 (.q (.lenv s35)),
 o 2 d37 (.q (.cvi .u64 s36)),
 o 3 d38 (.q (.bin .mul (.v (.int .u64 (.ofNat 8))) s37)),
 o 4 d5 (.q (.mv s38))])
 (.seq (.seq (.reg [o 0 d6 (.q (.mv (.v (.int .i64 (.ofNat 7)))))])
 (.blk 2 (.loop (.seq (.seq (.reg [o 0 d39 (.q (.mv s6)),
 o 1 d40 (.q (.bin .geq s39 (.v (.int .i64 (.ofNat 0)))))])
 (.cnd s40 .skip (.exit 2)))
 (.seq (.blk 3 (.reg [o 0 d43 (.q (.mv s4)),
 o 1 d44 (.q (.mv s5)),
 o 2 d45 (.q (.mv s6)),
 o 3 d46 (.q (.bin .mul (.v (.int .i64 (.ofNat 8))) s45)),
 o 4 d47 (.q (.cvi .u64 s46)),
 o 5 d48 (.q (.shf false s44 s47)),
 o 6 d49 (.q (.cvi .u8 s48)),
 o 7 d50 (.e (.bsl [(.int .u8 (.ofNat 0))] [(0, 1, s49)] 1 1)),
 o 8 d51 (.e (.app s43 s50 1 1 false)),
 o 9 d4 (.q (.mv s51))]))
 (.reg [o 0 d41 (.q (.mv s6)),
 o 1 d42 (.q (.bin .sub s41 (.v (.int .i64 (.ofNat 1))))),
 o 2 d6 (.q (.mv s42))]))))))
 (.seq (.reg [o 0 d52 (.call p31 []),
 o 1 d7 (.q (.mv s52))])
 (.seq (.seq (.reg [o 0 d8 (.q (.mv (.v (.int .i64 (.ofNat 0)))))])
 (.blk 4 (.loop (.seq (.seq (.reg [o 0 d53 (.q (.mv s8)),
 o 1 d54 (.q (.mv s4)),
 o 2 d55 (.q (.lenv s54)),
 o 3 d56 (.q (.bin .lss s53 s55))])
 (.cnd s56 .skip (.exit 4)))
 (.seq (.blk 5 (.seq (.reg [o 0 d59 (.e (.mks (.v (.int .i64 (.ofNat 64))) (.v (.int .i64 (.ofNat 64))) [(.int .u32 (.ofNat 0))] 1 4)),
 o 1 d9 (.q (.mv s59))])
 (.seq (.seq (.reg [o 0 d10 (.q (.mv (.v (.int .i64 (.ofNat 0)))))])
 (.blk 6 (.loop (.seq (.seq (.reg [o 0 d60 (.q (.mv s10)),
 o 1 d61 (.q (.bin .lss s60 (.v (.int .i64 (.ofNat 64)))))])
 (.cnd s61 .skip (.exit 6)))
 (.seq (.blk 7 (.seq (.seq (.reg [o 0 d64 (.q (.mv s10)),
 o 1 d65 (.q (.bin .lss s64 (.v (.int .i64 (.ofNat 16)))))])
 (.cnd s65 (.seq (.reg [o 0 d66 (.q (.mv s8)),
 o 1 d67 (.q (.mv s10)),
 o 2 d68 (.q (.bin .mul (.v (.int .i64 (.ofNat 4))) s67)),
 o 3 d69 (.q (.bin .add s66 s68)),
 o 4 d11 (.q (.mv s69))])
 (.seq (.rgd 0 [o 0 d70 (.q (.mv s9)),
 o 1 d71 (.q (.mv s10)),
 o 2 d72 (.q (.mv s4)),
 o 3 d73 (.q (.mv s11)),
 o 4 d74 (.q (.iadr s72 s73 1)),
 o 5 d75 (.q (.ld1 s74)),
 o 6 d76 (.q (.cvi .u32 s75)),
 o 7 d77 (.q (.shf true s76 (.v (.int .u64 (.ofNat 24))))),
 o 8 d78 (.q (.mv s4)),
 o 9 d79 (.q (.mv s11)),
 o 10 d80 (.q (.bin .add s79 (.v (.int .i64 (.ofNat 1))))),
 o 11 d81 (.q (.iadr s78 s80 1)),
 o 12 d82 (.q (.ld1 s81)),
 o 13 d83 (.q (.cvi .u32 s82)),
 o 14 d84 (.q (.shf true s83 (.v (.int .u64 (.ofNat 16))))),
 o 15 d85 (.q (.bin .or s77 s84)),
 o 16 d86 (.q (.mv s4)),
 o 17 d87 (.q (.mv s11)),
 o 18 d88 (.q (.bin .add s87 (.v (.int .i64 (.ofNat 2))))),
 o 19 d89 (.q (.iadr s86 s88 1)),
 o 20 d90 (.q (.ld1 s89)),
 o 21 d91 (.q (.cvi .u32 s90)),
 o 22 d92 (.q (.shf true s91 (.v (.int .u64 (.ofNat 8))))),
 o 23 d93 (.q (.bin .or s85 s92)),
 o 24 d94 (.q (.mv s4)),
 o 25 d95 (.q (.mv s11)),
 o 26 d96 (.q (.bin .add s95 (.v (.int .i64 (.ofNat 3))))),
 o 27 d97 (.q (.iadr s94 s96 1)),
 o 28 d98 (.q (.ld1 s97)),
 o 29 d99 (.q (.cvi .u32 s98)),
 o 30 d100 (.q (.bin .or s93 s99)),
 o 31 d101 (.q (.iadr s70 s71 1)),
 o 32 none (.e (.st s101 s100 1))])
 (.exit 7))) .skip))
 (.seq (.reg [o 0 d102 (.q (.mv s9)),
 o 1 d103 (.q (.mv s10)),
 o 2 d104 (.q (.bin .sub s103 (.v (.int .i64 (.ofNat 15))))),
 o 3 d105 (.q (.iadr s102 s104 1)),
 o 4 d106 (.q (.ld1 s105)),
 o 5 d12 (.q (.mv s106))])
 (.seq (.reg [o 0 d107 (.q (.mv s9)),
 o 1 d108 (.q (.mv s10)),
 o 2 d109 (.q (.bin .sub s108 (.v (.int .i64 (.ofNat 2))))),
 o 3 d110 (.q (.iadr s107 s109 1)),
 o 4 d111 (.q (.ld1 s110)),
 o 5 d13 (.q (.mv s111))])
 (.rgd 0 [o 0 d112 (.q (.mv s9)),
 o 1 d113 (.q (.mv s10)),
 o 2 d114 (.q (.mv s9)),
 o 3 d115 (.q (.mv s10)),
 o 4 d116 (.q (.bin .sub s115 (.v (.int .i64 (.ofNat 16))))),
 o 5 d117 (.q (.iadr s114 s116 1)),
 o 6 d118 (.q (.ld1 s117)),
 o 7 d119 (.q (.mv s12)),
 o 9 d121 (.q (.mv s12)),
 o 12 d124 (.q (.mv s12)),
 o 13 d125 (.q (.shf false s124 (.v (.int .u64 (.ofNat 3))))),
 o 16 d128 (.q (.mv s9)),
 o 17 d129 (.q (.mv s10)),
 o 18 d130 (.q (.bin .sub s129 (.v (.int .i64 (.ofNat 7))))),
 o 19 d131 (.q (.iadr s128 s130 1)),
 o 20 d132 (.q (.ld1 s131)),
 o 22 d134 (.q (.mv s13)),
 o 24 d136 (.q (.mv s13)),
 o 27 d139 (.q (.mv s13)),
 o 28 d140 (.q (.shf false s139 (.v (.int .u64 (.ofNat 10))))),
 ⟨8, d120, (.call p32 [s119, (.v (.int .u64 (.ofNat 7)))]), none, [(p118, .ld1 s117, none), (p132, .ld1 s131, none)]⟩,
 ⟨10, d122, (.call p32 [s121, (.v (.int .u64 (.ofNat 18)))]), none, [(p118, .ld1 s117, none), (p132, .ld1 s131, none)]⟩,
 o 11 d123 (.q (.bin .xor s120 s122)),
 o 14 d126 (.q (.bin .xor s123 s125)),
 o 15 d127 (.q (.bin .add s118 s126)),
 o 21 d133 (.q (.bin .add s127 s132)),
 ⟨23, d135, (.call p32 [s134, (.v (.int .u64 (.ofNat 17)))]), none, [(p118, .ld1 s117, none), (p132, .ld1 s131, none)]⟩,
 ⟨25, d137, (.call p32 [s136, (.v (.int .u64 (.ofNat 19)))]), none, [(p118, .ld1 s117, none), (p132, .ld1 s131, none)]⟩,
 o 26 d138 (.q (.bin .xor s135 s137)),
 o 29 d141 (.q (.bin .xor s138 s140)),
 o 30 d142 (.q (.bin .add s133 s141)),
 o 31 d143 (.q (.iadr s112 s113 1)),
 o 32 none (.e (.st s143 s142 1))])))))
 (.reg [o 0 d62 (.q (.mv s10)),
 o 1 d63 (.q (.bin .add s62 (.v (.int .i64 (.ofNat 1))))),
 o 2 d10 (.q (.mv s63))]))))))
 (.seq (.reg [o 0 d144 (.e (.bsl [] [] 0 1)),
 o 1 d145 (.q (.mv s3)),
 o 2 d146 (.e (.app s144 s145 1 4 false)),
 o 3 d14 (.q (.mv s146))])
 (.seq (.seq (.reg [o 0 d15 (.q (.mv (.v (.int .i64 (.ofNat 0)))))])
 (.blk 8 (.loop (.seq (.seq (.reg [o 0 d147 (.q (.mv s15)),
 o 1 d148 (.q (.bin .lss s147 (.v (.int .i64 (.ofNat 64)))))])
 (.cnd s148 .skip (.exit 8)))
 (.seq (.blk 9 (.seq (.reg [o 0 d151 (.q (.mv s14)),
 o 1 d152 (.q (.iadr s151 (.v (.int .i64 (.ofNat 4))) 1)),
 o 2 d153 (.q (.ld1 s152)),
 o 3 d16 (.q (.mv s153))])
 (.seq (.reg [o 0 d154 (.q (.mv s14)),
 o 1 d155 (.q (.iadr s154 (.v (.int .i64 (.ofNat 0))) 1)),
 o 2 d156 (.q (.ld1 s155)),
 o 3 d17 (.q (.mv s156))])
 (.seq (.rgd 0 [o 0 d157 (.q (.mv s14)),
 o 1 d158 (.q (.iadr s157 (.v (.int .i64 (.ofNat 7))) 1)),
 o 2 d159 (.q (.ld1 s158)),
 o 3 d160 (.q (.mv s16)),
 o 5 d162 (.q (.mv s16)),
 o 8 d165 (.q (.mv s16)),
 o 12 d169 (.q (.mv s16)),
 o 13 d170 (.q (.mv s14)),
 o 14 d171 (.q (.iadr s170 (.v (.int .i64 (.ofNat 5))) 1)),
 o 15 d172 (.q (.ld1 s171)),
 o 16 d173 (.q (.bin .and s169 s172)),
 o 17 d174 (.q (.mv s16)),
 o 18 d175 (.q (.inv s174)),
 o 19 d176 (.q (.mv s14)),
 o 20 d177 (.q (.iadr s176 (.v (.int .i64 (.ofNat 6))) 1)),
 o 21 d178 (.q (.ld1 s177)),
 o 22 d179 (.q (.bin .and s175 s178)),
 o 23 d180 (.q (.bin .xor s173 s179)),
 o 25 d182 (.q (.mv s7)),
 o 26 d183 (.q (.mv s15)),
 o 27 d184 (.q (.iadr s182 s183 1)),
 o 28 d185 (.q (.ld1 s184)),
 o 30 d187 (.q (.mv s9)),
 o 31 d188 (.q (.mv s15)),
 o 32 d189 (.q (.iadr s187 s188 1)),
 o 33 d190 (.q (.ld1 s189)),
 ⟨4, d161, (.call p32 [s160, (.v (.int .u64 (.ofNat 6)))]), none, [(p159, .ld1 s158, none), (p172, .ld1 s171, none), (p178, .ld1 s177, none), (p185, .ld1 s184, none), (p190, .ld1 s189, none)]⟩,
 ⟨6, d163, (.call p32 [s162, (.v (.int .u64 (.ofNat 11)))]), none, [(p159, .ld1 s158, none), (p172, .ld1 s171, none), (p178, .ld1 s177, none), (p185, .ld1 s184, none), (p190, .ld1 s189, none)]⟩,
 o 7 d164 (.q (.bin .xor s161 s163)),
 ⟨9, d166, (.call p32 [s165, (.v (.int .u64 (.ofNat 25)))]), none, [(p159, .ld1 s158, none), (p172, .ld1 s171, none), (p178, .ld1 s177, none), (p185, .ld1 s184, none), (p190, .ld1 s189, none)]⟩,
 o 10 d167 (.q (.bin .xor s164 s166)),
 o 11 d168 (.q (.bin .add s159 s167)),
 o 24 d181 (.q (.bin .add s168 s180)),
 o 29 d186 (.q (.bin .add s181 s185)),
 o 34 d191 (.q (.bin .add s186 s190)),
 o 35 d18 (.q (.mv s191))])
 (.seq (.rgd 0 [o 0 d192 (.q (.mv s17)),
 o 2 d194 (.q (.mv s17)),
 o 5 d197 (.q (.mv s17)),
 o 8 d200 (.q (.mv s17)),
 o 9 d201 (.q (.mv s14)),
 o 10 d202 (.q (.iadr s201 (.v (.int .i64 (.ofNat 1))) 1)),
 o 11 d203 (.q (.ld1 s202)),
 o 12 d204 (.q (.bin .and s200 s203)),
 o 13 d205 (.q (.mv s17)),
 o 14 d206 (.q (.mv s14)),
 o 15 d207 (.q (.iadr s206 (.v (.int .i64 (.ofNat 2))) 1)),
 o 16 d208 (.q (.ld1 s207)),
 o 17 d209 (.q (.bin .and s205 s208)),
 o 18 d210 (.q (.bin .xor s204 s209)),
 o 19 d211 (.q (.mv s14)),
 o 20 d212 (.q (.iadr s211 (.v (.int .i64 (.ofNat 1))) 1)),
 o 21 d213 (.q (.ld1 s212)),
 o 22 d214 (.q (.mv s14)),
 o 23 d215 (.q (.iadr s214 (.v (.int .i64 (.ofNat 2))) 1)),
 o 24 d216 (.q (.ld1 s215)),
 o 25 d217 (.q (.bin .and s213 s216)),
 o 26 d218 (.q (.bin .xor s210 s217)),
 ⟨1, d193, (.call p32 [s192, (.v (.int .u64 (.ofNat 2)))]), none, [(p203, .ld1 s202, none), (p208, .ld1 s207, none), (p213, .ld1 s212, none), (p216, .ld1 s215, none)]⟩,
 ⟨3, d195, (.call p32 [s194, (.v (.int .u64 (.ofNat 13)))]), none, [(p203, .ld1 s202, none), (p208, .ld1 s207, none), (p213, .ld1 s212, none), (p216, .ld1 s215, none)]⟩,
 o 4 d196 (.q (.bin .xor s193 s195)),
 ⟨6, d198, (.call p32 [s197, (.v (.int .u64 (.ofNat 22)))]), none, [(p203, .ld1 s202, none), (p208, .ld1 s207, none), (p213, .ld1 s212, none), (p216, .ld1 s215, none)]⟩,
 o 7 d199 (.q (.bin .xor s196 s198)),
 o 27 d219 (.q (.bin .add s199 s218)),
 o 28 d19 (.q (.mv s219))])
 (.rgd 0 [o 0 d220 (.q (.mv s18)),
 o 1 d221 (.q (.mv s19)),
 o 2 d222 (.q (.bin .add s220 s221)),
 o 3 d223 (.q (.mv s14)),
 o 4 d224 (.q (.iadr s223 (.v (.int .i64 (.ofNat 0))) 1)),
 o 5 d225 (.q (.ld1 s224)),
 o 6 d226 (.q (.mv s14)),
 o 7 d227 (.q (.iadr s226 (.v (.int .i64 (.ofNat 1))) 1)),
 o 8 d228 (.q (.ld1 s227)),
 o 9 d229 (.q (.mv s14)),
 o 10 d230 (.q (.iadr s229 (.v (.int .i64 (.ofNat 2))) 1)),
 o 11 d231 (.q (.ld1 s230)),
 o 12 d232 (.q (.mv s14)),
 o 13 d233 (.q (.iadr s232 (.v (.int .i64 (.ofNat 3))) 1)),
 o 14 d234 (.q (.ld1 s233)),
 o 15 d235 (.q (.mv s18)),
 o 16 d236 (.q (.bin .add s234 s235)),
 o 17 d237 (.q (.mv s14)),
 o 18 d238 (.q (.iadr s237 (.v (.int .i64 (.ofNat 4))) 1)),
 o 19 d239 (.q (.ld1 s238)),
 o 20 d240 (.q (.mv s14)),
 o 21 d241 (.q (.iadr s240 (.v (.int .i64 (.ofNat 5))) 1)),
 o 22 d242 (.q (.ld1 s241)),
 o 23 d243 (.q (.mv s14)),
 o 24 d244 (.q (.iadr s243 (.v (.int .i64 (.ofNat 6))) 1)),
 o 25 d245 (.q (.ld1 s244)),
 o 26 d246 (.e (.bsl (zz (.int .u32 (.ofNat 0)) 8) [(0, 1, s222), (1, 1, s225), (2, 1, s228), (3, 1, s231), (4, 1, s236), (5, 1, s239), (6, 1, s242), (7, 1, s245)] 8 1)),
 o 27 d14 (.q (.mv s246))]))))))
 (.reg [o 0 d149 (.q (.mv s15)),
 o 1 d150 (.q (.bin .add s149 (.v (.int .i64 (.ofNat 1))))),
 o 2 d15 (.q (.mv s150))]))))))
 (.seq (.reg [o 0 d20 (.q (.mv (.v (.int .i64 (.ofNat 0)))))])
 (.blk 10 (.loop (.seq (.seq (.reg [o 0 d247 (.q (.mv s20)),
 o 1 d248 (.q (.bin .lss s247 (.v (.int .i64 (.ofNat 8)))))])
 (.cnd s248 .skip (.exit 10)))
 (.seq (.blk 11 (.rgd 0 [o 0 d251 (.q (.mv s3)),
 o 1 d252 (.q (.mv s20)),
 o 2 d253 (.q (.mv s3)),
 o 3 d254 (.q (.mv s20)),
 o 4 d255 (.q (.iadr s253 s254 1)),
 o 5 d256 (.q (.ld1 s255)),
 o 6 d257 (.q (.mv s14)),
 o 7 d258 (.q (.mv s20)),
 o 8 d259 (.q (.iadr s257 s258 1)),
 o 9 d260 (.q (.ld1 s259)),
 o 10 d261 (.q (.bin .add s256 s260)),
 o 11 d262 (.q (.iadr s251 s252 1)),
 o 12 none (.e (.st s262 s261 1))]))
 (.reg [o 0 d249 (.q (.mv s20)),
 o 1 d250 (.q (.bin .add s249 (.v (.int .i64 (.ofNat 1))))),
 o 2 d20 (.q (.mv s250))])))))))))))
 (.reg [o 0 d57 (.q (.mv s8)),
 o 1 d58 (.q (.bin .add s57 (.v (.int .i64 (.ofNat 64))))),
 o 2 d8 (.q (.mv s58))]))))))
 (.seq (.reg [o 0 d21 (.e (.alo (zz (.int .u8 (.ofNat 0)) 32)))])
 (.seq (.seq (.reg [o 0 d22 (.q (.mv (.v (.int .i64 (.ofNat 0)))))])
 (.blk 12 (.loop (.seq (.seq (.reg [o 0 d263 (.q (.mv s22)),
 o 1 d264 (.q (.bin .lss s263 (.v (.int .i64 (.ofNat 32)))))])
 (.cnd s264 .skip (.exit 12)))
 (.seq (.blk 13 (.reg [o 0 d267 (.q (.mv s22)),
 o 1 d268 (.q (.mv s3)),
 o 2 d269 (.q (.mv s22)),
 o 3 d270 (.q (.bin .quo s269 (.v (.int .i64 (.ofNat 4))))),
 o 4 d271 (.q (.iadr s268 s270 1)),
 o 5 d272 (.q (.ld1 s271)),
 o 6 d273 (.q (.mv s22)),
 o 7 d274 (.q (.bin .rem s273 (.v (.int .i64 (.ofNat 4))))),
 o 8 d275 (.q (.bin .mul (.v (.int .i64 (.ofNat 8))) s274)),
 o 9 d276 (.q (.bin .sub (.v (.int .i64 (.ofNat 24))) s275)),
 o 10 d277 (.q (.cvi .u64 s276)),
 o 11 d278 (.q (.shf false s272 s277)),
 o 12 d279 (.q (.cvi .u8 s278)),
 o 13 d280 (.q (.iada s21 s267 1 32)),
 o 14 none (.e (.st s280 s279 1))]))
 (.reg [o 0 d265 (.q (.mv s22)),
 o 1 d266 (.q (.bin .add s265 (.v (.int .i64 (.ofNat 1))))),
 o 2 d22 (.q (.mv s266))]))))))
 (.seq (.reg [o 0 d281 (.q (.ldn s21 32)),
 o 1 none (.e (.st s2 s281 32))])
 .ret)))))))))))
 [.cn p2 32]

noncomputable def f12 : FnE := .code 111
 (.seq (.reg [o 0 d5 (.e (.box s0 4)),
 o 1 d10 (.q (.mv (.v (.int .u64 (.ofNat 0))))),
 o 2 d11 (.q (.mv (.v .nili)))])
 (.seq (.seq (.reg [o 0 d23 (.q (.mv s2)),
 o 1 d24 (.q (.mv s3)),
 o 2 d25 (.call p33 [s23, s24]),
 o 3 d12 (.q (.mv s25))])
 (.seq (.reg [o 0 d26 (.q (.mv s12)),
 o 1 d27 (.q (.eqp (.iface true) true s26 (.v .nili)))])
 (.cnd s27 (.seq (.reg [o 0 d28 (.q (.mv s12)),
 o 1 d10 (.q (.mv (.v (.int .u64 (.ofNat 0))))),
 o 2 d11 (.q (.mv s28))])
 .ret) .skip)))
 (.seq (.reg [o 0 d13 (.q (.mv (.v .nils)))])
 (.seq (.reg [o 0 d14 (.q (.mv (.v .nils)))])
 (.seq (.reg [o 0 d15 (.q (.mv (.v .nils)))])
 (.seq (.seq (.reg [o 0 d29 (.q (.fadr s5 1)),
 o 1 d30 (.q (.ld1 s29)),
 o 2 d31 (.q (.lenv s30)),
 o 3 d32 (.q (.mv (.v (.int .i64 (.ofNat 0)))))])
 (.blk 0 (.loop (.seq (.reg [o 0 d33 (.q (.bin .lss s32 s31))])
 (.seq (.cnd s33 .skip (.exit 0))
 (.seq (.blk 1 (.seq (.reg [o 0 d34 (.q (.mv s32)),
 o 1 d35 (.q (.iadr s30 s32 35)),
 o 2 d36 (.q (.ldn s35 35)),
 o 3 d17 (.e (.alo (lapp (zz (.int .u8 (.ofNat 0)) 32) [(.int .u32 (.ofNat 0)), .nils, (.int .u32 (.ofNat 0))]))),
 o 4 d16 (.q (.mv s34)),
 o 5 none (.e (.st s17 s36 35))])
 (.seq (.reg [o 0 d38 (.q (.mv s1)),
 o 1 d39 (.q (.fadr s17 0)),
 o 2 d40 (.q (.ldn s39 33)),
 o 3 d41 (.inv s38 "Get" [s40]),
 o 4 d37 (.q (.mv s41)),
 o 5 d42 (.q (.ext s37 0)),
 o 6 d43 (.q (.ext s37 1)),
 o 7 d18 (.e (.alo (lapp [(.int .u64 (.ofNat 0))] (lapp (zz (.int .u8 (.ofNat 0)) 32) [(.int .i64 (.ofNat 0)), (.bool false)])))),
 o 8 none (.e (.st s18 s42 35)),
 o 9 d19 (.q (.mv s43))])
 (.seq (.blk 2 (.seq (.reg [o 0 d45 (.q (.mv s19)),
 o 1 d46 (.q (.not s45)),
 o 2 d44 (.q (.mv s46))])
 (.cnd s44 (.seq (.rgd 0 [o 0 d47 (.q (.mv s16)),
 o 1 d48 (.q (.ld1 (.g p2))),
 o 2 d49 (.q (.bld [(.int .i64 (.ofNat 0)), .nili] [(0, 1, s47), (1, 1, s48)])),
 o 5 d10 (.q (.mv (.v (.int .u64 (.ofNat 0))))),
 o 3 d50 (.e (.box s49 2)),
 o 4 d51 (.q (.mki 77 s50)),
 o 6 d11 (.q (.mv s51))])
 .ret) (.seq (.reg [o 0 d53 (.q (.ldn s18 35)),
 o 1 d54 (.q (.mv s2)),
 o 2 d55 (.q (.mv s4)),
 o 3 d56 (.call p34 [s53, s54, s55]),
 o 4 d57 (.q (.not s56)),
 o 5 d52 (.q (.mv s57))])
 (.cnd s52 (.seq (.rgd 0 [o 0 d58 (.q (.mv s16)),
 o 1 d59 (.q (.ld1 (.g p3))),
 o 2 d60 (.q (.bld [(.int .i64 (.ofNat 0)), .nili] [(0, 1, s58), (1, 1, s59)])),
 o 5 d10 (.q (.mv (.v (.int .u64 (.ofNat 0))))),
 o 3 d61 (.e (.box s60 2)),
 o 4 d62 (.q (.mki 77 s61)),
 o 6 d11 (.q (.mv s62))])
 .ret) .skip)))))
 (.rgd 2 [o 0 d63 (.q (.mv s13)),
 o 1 d64 (.q (.ldn s18 35)),
 o 4 d67 (.q (.mv s14)),
 o 5 d68 (.q (.fadr s18 33)),
 o 6 d69 (.q (.ld1 s68)),
 o 9 d72 (.q (.mv s15)),
 o 10 d73 (.q (.ldn s18 35)),
 o 11 d74 (.q (.mv s2)),
 o 12 d75 (.q (.mv s3)),
 ⟨2, d65, (.l (.bsl (lapp [(.int .u64 (.ofNat 0))] (lapp (zz (.int .u8 (.ofNat 0)) 32) [(.int .i64 (.ofNat 0)), (.bool false)])) [(0, 35, s64)] 1 35) 0), none, [(p69, .ld1 s68, none), (p73, .ldn s18 35, none)]⟩,
 ⟨3, d66, (.e (.app s63 s65 35 56 false)), none, [(p69, .ld1 s68, none), (p73, .ldn s18 35, none)]⟩,
 ⟨7, d70, (.l (.bsl [(.int .i64 (.ofNat 0))] [(0, 1, s69)] 1 1) 1), none, [(p64, .ldn s18 35, none), (p73, .ldn s18 35, none)]⟩,
 ⟨8, d71, (.e (.app s67 s70 1 8 false)), none, [(p73, .ldn s18 35, none)]⟩,
 o 13 d76 (.call p35 [s73, s74, s75]),
 o 14 d77 (.e (.bsl [(.int .u32 (.ofNat 0))] [(0, 1, s76)] 1 1)),
 o 15 d78 (.e (.app s72 s77 1 4 false)),
 o 16 d13 (.q (.mv s66)),
 o 17 d14 (.q (.mv s71)),
 o 18 d15 (.q (.mv s78))])))))
 (.reg [o 0 d79 (.q (.bin .add s32 (.v (.int .i64 (.ofNat 1))))),
 o 1 d32 (.q (.mv s79))])))))))
 (.seq (.reg [o 0 d81 (.q (.ldn s5 4)),
 o 1 d82 (.q (.mv s13)),
 o 2 d83 (.call p36 [s81, s82]),
 o 3 d80 (.q (.mv s83)),
 o 4 d84 (.q (.ext s80 0)),
 o 5 d85 (.q (.ext s80 1)),
 o 6 d20 (.q (.mv s84)),
 o 7 d21 (.q (.mv s85))])
 (.seq (.seq (.reg [o 0 d86 (.q (.mv s21)),
 o 1 d87 (.q (.eqp (.iface true) true s86 (.v .nili)))])
 (.cnd s87 (.seq (.reg [o 0 d88 (.q (.mv s21)),
 o 1 d10 (.q (.mv (.v (.int .u64 (.ofNat 0))))),
 o 2 d11 (.q (.mv s88))])
 .ret) .skip))
 (.seq (.reg [o 0 d89 (.q (.mv s3)),
 o 1 d90 (.q (.mv s3)),
 o 2 d91 (.q (.lenv s90)),
 o 3 d92 (.q (.bin .sub s91 (.v (.int .i64 (.ofNat 1))))),
 o 4 d93 (.q (.iadr s89 s92 1)),
 o 5 d94 (.q (.ld1 s93)),
 o 6 d22 (.q (.mv s94))])
 (.seq (.seq (.reg [o 0 d95 (.q (.ldn s5 4)),
 o 1 d96 (.q (.mv s2)),
 o 2 d97 (.q (.mv s22)),
 o 3 d98 (.call p37 [s95, s96, s97]),
 o 4 d99 (.q (.not s98)),
 o 5 d100 (.q (.mv s99)),
 ⟨6, d101, (.q (.ldn s5 4)), (some (p100, false)), []⟩,
 ⟨7, d102, (.q (.mv s14)), (some (p100, false)), []⟩,
 ⟨8, d103, (.q (.mv s15)), (some (p100, false)), []⟩,
 ⟨9, d104, (.q (.mv s2)), (some (p100, false)), []⟩,
 ⟨10, d105, (.q (.mv s22)), (some (p100, false)), []⟩,
 ⟨11, d106, (.call p38 [s101, s102, s103, s104, s105]), (some (p100, false)), []⟩,
 ⟨12, d107, (.q (.not s106)), (some (p100, false)), []⟩,
 o 13 d108 (.q (.pick s100 (.v (.bool true)) s107))])
 (.cnd s108 (.seq (.rgd 0 [o 0 d109 (.q (.ld1 (.g p4))),
 o 1 d10 (.q (.mv (.v (.int .u64 (.ofNat 0))))),
 o 2 d11 (.q (.mv s109))])
 .ret) .skip))
 (.seq (.reg [o 0 d110 (.q (.mv s20)),
 o 1 d10 (.q (.mv s110)),
 o 2 d11 (.q (.mv (.v .nili)))])
 .ret)))))))))))
 [.t p10, .t p11]

noncomputable def f13 : FnE := .code 9
 (.seq (.reg [o 0 d4 (.q (.mv (.v (.bool false))))])
 (.seq (.reg [o 0 d5 (.q (.mv s0)),
 o 1 d6 (.q (.mv s1)),
 o 2 d7 (.call p40 [s6]),
 o 3 d8 (.call p39 [s5, s7]),
 o 4 d4 (.q (.mv s8))])
 .ret))
 [.t p4]

noncomputable def f15 : FnE := .code 6
 (.seq (.reg [o 0 d1 (.e (.box s0 4)),
 o 1 d2 (.e (.alo (zz (.int .u8 (.ofNat 0)) 32)))])
 (.seq (.reg [o 0 d3 (.q (.ldn s1 4)),
 o 1 d4 (.call p43 [s3]),
 o 2 d5 (.call p42 [s4]),
 o 3 none (.e (.st s2 s5 32))])
 .ret))
 [.cn p2 32]

noncomputable def f27 : FnE := .code 104
 (.seq (.reg [o 0 d6 (.e (.box s1 69)),
 o 1 d9 (.e (.box s4 9)),
 o 2 d10 (.q (.mv (.v .nils))),
 o 3 d11 (.q (.mv (.v (.int .u64 (.ofNat 0))))),
 o 4 d12 (.q (.mv (.v .nili)))])
 (.seq (.seq (.reg [o 0 d20 (.q (.mv s2)),
 o 1 d21 (.q (.mv s3)),
 o 2 d22 (.call p33 [s20, s21]),
 o 3 d13 (.q (.mv s22))])
 (.seq (.reg [o 0 d23 (.q (.mv s13)),
 o 1 d24 (.q (.eqp (.iface true) true s23 (.v .nili)))])
 (.cnd s24 (.seq (.reg [o 0 d25 (.q (.mv s13)),
 o 1 d10 (.q (.mv (.v .nils))),
 o 2 d11 (.q (.mv (.v (.int .u64 (.ofNat 0))))),
 o 3 d12 (.q (.mv s25))])
 .ret) .skip)))
 (.seq (.seq (.reg [o 0 d26 (.q (.ldn s6 69)),
 o 1 d27 (.call p62 [s26]),
 o 2 d14 (.q (.mv s27))])
 (.seq (.reg [o 0 d28 (.q (.mv s14)),
 o 1 d29 (.q (.eqp (.iface true) true s28 (.v .nili)))])
 (.cnd s29 (.seq (.reg [o 0 d30 (.q (.mv s14)),
 o 1 d10 (.q (.mv (.v .nils))),
 o 2 d11 (.q (.mv (.v (.int .u64 (.ofNat 0))))),
 o 3 d12 (.q (.mv s30))])
 .ret) .skip)))
 (.seq (.blk 0 (.seq (.rgd 0 [o 0 d32 (.q (.fadr s6 0)),
 o 1 d33 (.q (.fadr s32 65)),
 o 2 d34 (.q (.ld1 s33)),
 o 3 d35 (.q (.mv s3)),
 o 4 d36 (.q (.mv s3)),
 o 5 d37 (.q (.lenv s36)),
 o 6 d38 (.q (.bin .sub s37 (.v (.int .i64 (.ofNat 1))))),
 o 7 d39 (.q (.iadr s35 s38 1)),
 o 8 d40 (.q (.ld1 s39)),
 o 9 d41 (.q (.bin .leq s34 s40)),
 o 10 d31 (.q (.mv s41))])
 (.cnd s31 (.seq (.rgd 0 [o 0 d42 (.q (.ld1 (.g p9))),
 o 1 d10 (.q (.mv (.v .nils))),
 o 2 d11 (.q (.mv (.v (.int .u64 (.ofNat 0))))),
 o 3 d12 (.q (.mv s42))])
 .ret) (.seq (.rgd 0 [o 0 d44 (.q (.fadr s6 68)),
 o 1 d45 (.q (.ld1 s44)),
 o 2 d46 (.q (.iadr s45 (.v (.int .i64 (.ofNat 0))) 4)),
 o 3 d47 (.q (.fadr s46 1)),
 o 4 d48 (.q (.ld1 s47)),
 o 5 d49 (.q (.iadr s48 (.v (.int .i64 (.ofNat 0))) 35)),
 o 6 d50 (.q (.fadr s49 33)),
 o 7 d51 (.q (.ld1 s50)),
 o 8 d52 (.q (.mv s2)),
 o 9 d53 (.q (.cvi .u32 s52)),
 ⟨10, d54, (.call p64 [(.v .nils), s53]), none, [(p45, .ld1 s44, none), (p48, .ld1 s47, none), (p51, .ld1 s50, none)]⟩,
 o 11 d55 (.call p63 [s51, s54]),
 o 12 d56 (.q (.not s55)),
 o 13 d43 (.q (.mv s56))])
 (.cnd s43 (.seq (.rgd 0 [o 0 d57 (.q (.ld1 (.g p10))),
 o 1 d10 (.q (.mv (.v .nils))),
 o 2 d11 (.q (.mv (.v (.int .u64 (.ofNat 0))))),
 o 3 d12 (.q (.mv s57))])
 .ret) .skip)))))
 (.seq (.reg [o 0 d59 (.q (.mv s0)),
 o 1 d60 (.q (.ldn s6 69)),
 o 2 d61 (.q (.mv s2)),
 o 3 d62 (.q (.mv s3)),
 o 4 d63 (.q (.ldn s9 9)),
 o 5 d64 (.call p65 [s59, s60, s61, s62, s63]),
 o 6 d58 (.q (.mv s64)),
 o 7 d65 (.q (.ext s58 0)),
 o 8 d66 (.q (.ext s58 1)),
 o 9 d15 (.q (.mv s65)),
 o 10 d16 (.q (.mv s66))])
 (.seq (.seq (.reg [o 0 d67 (.q (.mv s16)),
 o 1 d68 (.q (.eqp (.iface true) true s67 (.v .nili)))])
 (.cnd s68 (.seq (.reg [o 0 d69 (.q (.mv s16)),
 o 1 d10 (.q (.mv (.v .nils))),
 o 2 d11 (.q (.mv (.v (.int .u64 (.ofNat 0))))),
 o 3 d12 (.q (.mv s69))])
 .ret) .skip))
 (.seq (.seq (.reg [o 0 d71 (.q (.fadr s6 68)),
 o 1 d72 (.q (.ld1 s71)),
 o 2 d73 (.q (.iadr s72 (.v (.int .i64 (.ofNat 0))) 4)),
 o 3 d74 (.q (.ldn s73 4)),
 o 4 d75 (.call p66 [s74]),
 o 5 d70 (.q (.mv s75)),
 o 6 d76 (.q (.ext s70 0)),
 o 7 d77 (.q (.ext s70 1)),
 o 8 d17 (.q (.mv s76)),
 o 9 d18 (.q (.mv s77))])
 (.seq (.reg [o 0 d78 (.q (.mv s18)),
 o 1 d79 (.q (.not s78)),
 o 2 d80 (.q (.mv s79)),
 ⟨3, d81, (.q (.mv s17)), (some (p80, false)), []⟩,
 ⟨4, d82, (.q (.mv s2)), (some (p80, false)), []⟩,
 ⟨5, d83, (.q (.fadr s9 0)), (some (p80, false)), []⟩,
 ⟨6, d84, (.q (.ld1 s83)), (some (p80, false)), []⟩,
 ⟨7, d85, (.call p67 [s82, s84]), (some (p80, false)), []⟩,
 ⟨8, d86, (.q (.mv s15)), (some (p80, false)), []⟩,
 ⟨9, d87, (.q (.bin .add s85 s86)), (some (p80, false)), []⟩,
 ⟨10, d88, (.q (.bin .gtr s81 s87)), (some (p80, false)), []⟩,
 o 11 d89 (.q (.pick s80 (.v (.bool true)) s88))])
 (.cnd s89 (.seq (.rgd 0 [o 0 d90 (.q (.ld1 (.g p11))),
 o 1 d10 (.q (.mv (.v .nils))),
 o 2 d11 (.q (.mv (.v (.int .u64 (.ofNat 0))))),
 o 3 d12 (.q (.mv s90))])
 .ret) .skip)))
 (.seq (.reg [o 0 d92 (.q (.mv s0)),
 o 1 d93 (.q (.mv s2)),
 o 2 d94 (.q (.fadr s6 68)),
 o 3 d95 (.q (.ld1 s94)),
 o 4 d96 (.call p68 [s92, s93, s95]),
 o 5 d91 (.q (.mv s96)),
 o 6 d97 (.q (.ext s91 0)),
 o 7 d98 (.q (.ext s91 1)),
 o 8 d19 (.q (.mv s97)),
 o 9 d16 (.q (.mv s98))])
 (.seq (.seq (.reg [o 0 d99 (.q (.mv s16)),
 o 1 d100 (.q (.eqp (.iface true) true s99 (.v .nili)))])
 (.cnd s100 (.seq (.reg [o 0 d101 (.q (.mv s16)),
 o 1 d10 (.q (.mv (.v .nils))),
 o 2 d11 (.q (.mv (.v (.int .u64 (.ofNat 0))))),
 o 3 d12 (.q (.mv s101))])
 .ret) .skip))
 (.seq (.reg [o 0 d102 (.q (.mv s19)),
 o 1 d103 (.q (.mv s15)),
 o 2 d10 (.q (.mv s102)),
 o 3 d11 (.q (.mv s103)),
 o 4 d12 (.q (.mv (.v .nili)))])
 .ret))))))))))
 [.t p10, .t p11, .t p12]

noncomputable def f28 : FnE := .code 7
 (.seq (.reg [o 0 d0 (.e (.alo (lapp [(.int .u32 (.ofNat 0))] (lapp (zz (.int .u8 (.ofNat 0)) 32) [(.int .u8 (.ofNat 0)), (.int .u8 (.ofNat 0)), (.int .u8 (.ofNat 0)), (.int .u8 (.ofNat 0)), (.int .u8 (.ofNat 0)), (.int .u8 (.ofNat 0)), (.int .u8 (.ofNat 0)), (.int .u8 (.ofNat 0)), (.int .u8 (.ofNat 0)), (.int .u8 (.ofNat 0)), (.int .u8 (.ofNat 0)), (.int .u8 (.ofNat 0)), (.int .u8 (.ofNat 0)), (.int .u8 (.ofNat 0)), (.int .u8 (.ofNat 0)), (.int .u8 (.ofNat 0)), (.int .u8 (.ofNat 0)), (.int .u8 (.ofNat 0)), (.int .u8 (.ofNat 0)), (.int .u8 (.ofNat 0)), (.int .u8 (.ofNat 0)), (.int .u8 (.ofNat 0)), (.int .u8 (.ofNat 0)), (.int .u8 (.ofNat 0)), (.int .u8 (.ofNat 0)), (.int .u8 (.ofNat 0)), (.int .u8 (.ofNat 0)), (.int .u8 (.ofNat 0)), (.int .u8 (.ofNat 0)), (.int .u8 (.ofNat 0)), (.int .u8 (.ofNat 0)), (.int .u8 (.ofNat 0)), (.int .u32 (.ofNat 0)), (.int .u32 (.ofNat 0)), (.int .u32 (.ofNat 0)), .nils]))))])
 (.seq (.reg [o 0 d1 (.q (.bld (lapp [(.int .u32 (.ofNat 0))] (lapp (zz (.int .u8 (.ofNat 0)) 32) [(.int .u8 (.ofNat 0)), (.int .u8 (.ofNat 0)), (.int .u8 (.ofNat 0)), (.int .u8 (.ofNat 0)), (.int .u8 (.ofNat 0)), (.int .u8 (.ofNat 0)), (.int .u8 (.ofNat 0)), (.int .u8 (.ofNat 0)), (.int .u8 (.ofNat 0)), (.int .u8 (.ofNat 0)), (.int .u8 (.ofNat 0)), (.int .u8 (.ofNat 0)), (.int .u8 (.ofNat 0)), (.int .u8 (.ofNat 0)), (.int .u8 (.ofNat 0)), (.int .u8 (.ofNat 0)), (.int .u8 (.ofNat 0)), (.int .u8 (.ofNat 0)), (.int .u8 (.ofNat 0)), (.int .u8 (.ofNat 0)), (.int .u8 (.ofNat 0)), (.int .u8 (.ofNat 0)), (.int .u8 (.ofNat 0)), (.int .u8 (.ofNat 0)), (.int .u8 (.ofNat 0)), (.int .u8 (.ofNat 0)), (.int .u8 (.ofNat 0)), (.int .u8 (.ofNat 0)), (.int .u8 (.ofNat 0)), (.int .u8 (.ofNat 0)), (.int .u8 (.ofNat 0)), (.int .u8 (.ofNat 0)), (.int .u32 (.ofNat 0)), (.int .u32 (.ofNat 0)), (.int .u32 (.ofNat 0))])) [(0, 1, (.v (.int .u32 (.ofNat 1)))), (65, 1, (.v (.int .u32 (.ofNat 1000)))), (66, 1, (.v (.int .u32 (.ofNat 1))))])),
 o 1 d2 (.call p11 [(.v .nils)]),
 o 2 d3 (.call p59 [(.v (.int .i64 (.ofNat 0))), (.v (.int .u64 (.ofNat 0))), s2, (.v .nils)]),
 o 3 d4 (.e (.bsl [(.int .u32 (.ofNat 0)), .nils, .nils, (.int .u32 (.ofNat 0))] [(0, 4, s3)] 1 4)),
 o 4 d5 (.q (.bld (lapp [(.int .u32 (.ofNat 0))] (lapp (zz (.int .u8 (.ofNat 0)) 32) [(.int .u8 (.ofNat 0)), (.int .u8 (.ofNat 0)), (.int .u8 (.ofNat 0)), (.int .u8 (.ofNat 0)), (.int .u8 (.ofNat 0)), (.int .u8 (.ofNat 0)), (.int .u8 (.ofNat 0)), (.int .u8 (.ofNat 0)), (.int .u8 (.ofNat 0)), (.int .u8 (.ofNat 0)), (.int .u8 (.ofNat 0)), (.int .u8 (.ofNat 0)), (.int .u8 (.ofNat 0)), (.int .u8 (.ofNat 0)), (.int .u8 (.ofNat 0)), (.int .u8 (.ofNat 0)), (.int .u8 (.ofNat 0)), (.int .u8 (.ofNat 0)), (.int .u8 (.ofNat 0)), (.int .u8 (.ofNat 0)), (.int .u8 (.ofNat 0)), (.int .u8 (.ofNat 0)), (.int .u8 (.ofNat 0)), (.int .u8 (.ofNat 0)), (.int .u8 (.ofNat 0)), (.int .u8 (.ofNat 0)), (.int .u8 (.ofNat 0)), (.int .u8 (.ofNat 0)), (.int .u8 (.ofNat 0)), (.int .u8 (.ofNat 0)), (.int .u8 (.ofNat 0)), (.int .u8 (.ofNat 0)), (.int .u32 (.ofNat 0)), (.int .u32 (.ofNat 0)), (.int .u32 (.ofNat 0)), .nils])) [(0, 68, s1), (68, 1, s4)])),
 o 5 d6 (.call p69 [s5]),
 o 6 none (.e (.st s0 s6 69))])
 .ret))
 [.cn p0 69]

noncomputable def f29 : FnE := .code 34
 (.seq (.reg [o 0 d2 (.e (.alo (zz (.int .i64 (.ofNat 0)) 9)))])
 (.seq (.reg [o 0 d4 (.q (.bld (zz (.int .i64 (.ofNat 0)) 9) [(0, 1, (.v (.int .i64 (.ofNat 5)))), (1, 1, (.v (.int .i64 (.ofNat 1)))), (2, 1, (.v (.int .i64 (.ofNat 3000)))), (3, 1, (.v (.int .i64 (.ofNat 2000)))), (4, 1, (.v (.int .i64 (.ofNat 200)))), (5, 1, (.v (.int .i64 (.ofNat 5)))), (6, 1, (.v (.int .i64 (.ofNat 2000)))), (7, 1, (.v (.int .i64 (.ofNat 5)))), (8, 1, (.v (.int .i64 (.ofNat 2000))))])),
 o 1 d3 (.e (.alo (zz (.int .i64 (.ofNat 0)) 9))),
 o 2 none (.e (.st s3 s4 9))])
 (.seq (.seq (.reg [o 0 d5 (.q (.mv s0)),
 o 1 d6 (.call p9 [s5, (.v (.int .i64 (.ofNat 6)))])])
 (.blk 0 (.seq (.reg [o 0 d8 (.q (.bin .eql s6 (.v (.int .i64 (.ofNat 1))))),
 o 1 d7 (.q (.mv s8))])
 (.cnd s7 (.seq (.reg [o 0 d9 (.q (.fadr s3 1)),
 o 1 none (.e (.st s9 (.v (.int .i64 (.ofNat 0))) 1))])
 (.reg [o 0 d10 (.q (.fadr s3 2)),
 o 1 none (.e (.st s10 (.v (.int .i64 (.ofNat 700))) 1))])) (.seq (.reg [o 0 d12 (.q (.bin .eql s6 (.v (.int .i64 (.ofNat 2))))),
 o 1 d11 (.q (.mv s12))])
 (.cnd s11 (.seq (.reg [o 0 d13 (.q (.fadr s3 1)),
 o 1 none (.e (.st s13 (.v (.int .i64 (.ofNat 2))) 1))])
 (.seq (.reg [o 0 d14 (.q (.fadr s3 3)),
 o 1 none (.e (.st s14 (.v (.int .i64 (.ofNat 300))) 1))])
 (.reg [o 0 d15 (.q (.fadr s3 4)),
 o 1 none (.e (.st s15 (.v (.int .i64 (.ofNat 4))) 1))]))) (.seq (.reg [o 0 d17 (.q (.bin .eql s6 (.v (.int .i64 (.ofNat 3))))),
 o 1 d16 (.q (.mv s17))])
 (.cnd s16 (.seq (.reg [o 0 d18 (.q (.fadr s3 5)),
 o 1 none (.e (.st s18 (.v (.int .i64 (.ofNat 2))) 1))])
 (.reg [o 0 d19 (.q (.fadr s3 7)),
 o 1 none (.e (.st s19 (.v (.int .i64 (.ofNat 3))) 1))])) (.seq (.reg [o 0 d21 (.q (.bin .eql s6 (.v (.int .i64 (.ofNat 4))))),
 o 1 d20 (.q (.mv s21))])
 (.cnd s20 (.seq (.reg [o 0 d22 (.q (.fadr s3 6)),
 o 1 none (.e (.st s22 (.v (.int .i64 (.ofNat 400))) 1))])
 (.reg [o 0 d23 (.q (.fadr s3 8)),
 o 1 none (.e (.st s23 (.v (.int .i64 (.ofNat 500))) 1))])) (.seq (.reg [o 0 d25 (.q (.bin .eql s6 (.v (.int .i64 (.ofNat 5))))),
 o 1 d24 (.q (.mv s25))])
 (.cnd s24 (.seq (.reg [o 0 d26 (.q (.fadr s3 1)),
 o 1 none (.e (.st s26 (.v (.int .i64 (.ofNat 0))) 1))])
 (.seq (.reg [o 0 d27 (.q (.fadr s3 2)),
 o 1 none (.e (.st s27 (.v (.int .i64 (.ofNat 1048576))) 1))])
 (.seq (.reg [o 0 d28 (.q (.fadr s3 5)),
 o 1 none (.e (.st s28 (.v (.int .i64 (.ofNat 50))) 1))])
 (.seq (.reg [o 0 d29 (.q (.fadr s3 7)),
 o 1 none (.e (.st s29 (.v (.int .i64 (.ofNat 50))) 1))])
 (.seq (.reg [o 0 d30 (.q (.fadr s3 6)),
 o 1 none (.e (.st s30 (.v (.int .i64 (.ofNat 1048576))) 1))])
 (.seq (.reg [o 0 d31 (.q (.fadr s3 8)),
 o 1 none (.e (.st s31 (.v (.int .i64 (.ofNat 1048576))) 1))])
 (.reg [o 0 d32 (.q (.fadr s3 3)),
 o 1 none (.e (.st s32 (.v (.int .i64 (.ofNat 1048576))) 1))]))))))) .skip))))))))))))
 (.seq (.reg [o 0 d33 (.q (.ldn s3 9)),
 o 1 none (.e (.st s2 s33 9))])
 .ret))))
 [.cn p2 9]

noncomputable def f30 : FnE := .code 22
 (.seq (.reg [o 0 d2 (.q (.mv (.v .nils)))])
 (.seq (.reg [o 0 d5 (.q (.mv s0)),
 o 1 d6 (.q (.lenv s5)),
 o 2 d7 (.e (.mks (.v (.int .i64 (.ofNat 0))) s6 [(.int .u8 (.ofNat 0))] 1 1)),
 o 3 d3 (.q (.mv s7))])
 (.seq (.seq (.reg [o 0 d4 (.q (.mv (.v (.int .i64 (.ofNat 0)))))])
 (.blk 0 (.loop (.seq (.seq (.reg [o 0 d8 (.q (.mv s4)),
 o 1 d9 (.q (.mv s0)),
 o 2 d10 (.q (.lenv s9)),
 o 3 d11 (.q (.bin .lss s8 s10))])
 (.cnd s11 .skip (.exit 0)))
 (.seq (.blk 1 (.reg [o 0 d14 (.q (.mv s3)),
 o 1 d15 (.q (.mv s0)),
 o 2 d16 (.q (.mv s4)),
 o 3 d17 (.q (.iadr s15 s16 1)),
 o 4 d18 (.q (.ld1 s17)),
 o 5 d19 (.e (.bsl [(.int .u8 (.ofNat 0))] [(0, 1, s18)] 1 1)),
 o 6 d20 (.e (.app s14 s19 1 1 false)),
 o 7 d3 (.q (.mv s20))]))
 (.reg [o 0 d12 (.q (.mv s4)),
 o 1 d13 (.q (.bin .add s12 (.v (.int .i64 (.ofNat 1))))),
 o 2 d4 (.q (.mv s13))]))))))
 (.seq (.reg [o 0 d21 (.q (.mv s3)),
 o 1 d2 (.q (.mv s21))])
 .ret))))
 [.t p2]

noncomputable def f31 : FnE := .code 2
 (.seq (.reg [o 0 d0 (.q (.mv (.v .nils)))])
 (.seq (.reg [o 0 d1 (.e (.bsl (zz (.int .u32 (.ofNat 0)) 64) [(0, 1, (.v (.int .u32 (.ofNat 1116352408)))), (1, 1, (.v (.int .u32 (.ofNat 1899447441)))), (2, 1, (.v (.int .u32 (.ofNat 3049323471)))), (3, 1, (.v (.int .u32 (.ofNat 3921009573)))), (4, 1, (.v (.int .u32 (.ofNat 961987163)))), (5, 1, (.v (.int .u32 (.ofNat 1508970993)))), (6, 1, (.v (.int .u32 (.ofNat 2453635748)))), (7, 1, (.v (.int .u32 (.ofNat 2870763221)))), (8, 1, (.v (.int .u32 (.ofNat 3624381080)))), (9, 1, (.v (.int .u32 (.ofNat 310598401)))), (10, 1, (.v (.int .u32 (.ofNat 607225278)))), (11, 1, (.v (.int .u32 (.ofNat 1426881987)))), (12, 1, (.v (.int .u32 (.ofNat 1925078388)))), (13, 1, (.v (.int .u32 (.ofNat 2162078206)))), (14, 1, (.v (.int .u32 (.ofNat 2614888103)))), (15, 1, (.v (.int .u32 (.ofNat 3248222580)))), (16, 1, (.v (.int .u32 (.ofNat 3835390401)))), (17, 1, (.v (.int .u32 (.ofNat 4022224774)))), (18, 1, (.v (.int .u32 (.ofNat 264347078)))), (19, 1, (.v (.int .u32 (.ofNat 604807628)))), (20, 1, (.v (.int .u32 (.ofNat 770255983)))), (21, 1, (.v (.int .u32 (.ofNat 1249150122)))), (22, 1, (.v (.int .u32 (.ofNat 1555081692)))), (23, 1, (.v (.int .u32 (.ofNat 1996064986)))), (24, 1, (.v (.int .u32 (.ofNat 2554220882)))), (25, 1, (.v (.int .u32 (.ofNat 2821834349)))), (26, 1, (.v (.int .u32 (.ofNat 2952996808)))), (27, 1, (.v (.int .u32 (.ofNat 3210313671)))), (28, 1, (.v (.int .u32 (.ofNat 3336571891)))), (29, 1, (.v (.int .u32 (.ofNat 3584528711)))), (30, 1, (.v (.int .u32 (.ofNat 113926993)))), (31, 1, (.v (.int .u32 (.ofNat 338241895)))), (32, 1, (.v (.int .u32 (.ofNat 666307205)))), (33, 1, (.v (.int .u32 (.ofNat 773529912)))), (34, 1, (.v (.int .u32 (.ofNat 1294757372)))), (35, 1, (.v (.int .u32 (.ofNat 1396182291)))), (36, 1, (.v (.int .u32 (.ofNat 1695183700)))), (37, 1, (.v (.int .u32 (.ofNat 1986661051)))), (38, 1, (.v (.int .u32 (.ofNat 2177026350)))), (39, 1, (.v (.int .u32 (.ofNat 2456956037)))), (40, 1, (.v (.int .u32 (.ofNat 2730485921)))), (41, 1, (.v (.int .u32 (.ofNat 2820302411)))), (42, 1, (.v (.int .u32 (.ofNat 3259730800)))), (43, 1, (.v (.int .u32 (.ofNat 3345764771)))), (44, 1, (.v (.int .u32 (.ofNat 3516065817)))), (45, 1, (.v (.int .u32 (.ofNat 3600352804)))), (46, 1, (.v (.int .u32 (.ofNat 4094571909)))), (47, 1, (.v (.int .u32 (.ofNat 275423344)))), (48, 1, (.v (.int .u32 (.ofNat 430227734)))), (49, 1, (.v (.int .u32 (.ofNat 506948616)))), (50, 1, (.v (.int .u32 (.ofNat 659060556)))), (51, 1, (.v (.int .u32 (.ofNat 883997877)))), (52, 1, (.v (.int .u32 (.ofNat 958139571)))), (53, 1, (.v (.int .u32 (.ofNat 1322822218)))), (54, 1, (.v (.int .u32 (.ofNat 1537002063)))), (55, 1, (.v (.int .u32 (.ofNat 1747873779)))), (56, 1, (.v (.int .u32 (.ofNat 1955562222)))), (57, 1, (.v (.int .u32 (.ofNat 2024104815)))), (58, 1, (.v (.int .u32 (.ofNat 2227730452)))), (59, 1, (.v (.int .u32 (.ofNat 2361852424)))), (60, 1, (.v (.int .u32 (.ofNat 2428436474)))), (61, 1, (.v (.int .u32 (.ofNat 2756734187)))), (62, 1, (.v (.int .u32 (.ofNat 3204031479)))), (63, 1, (.v (.int .u32 (.ofNat 3329325298))))] 64 1)),
 o 1 d0 (.q (.mv s1))])
 .ret))
 [.t p0]

noncomputable def f32 : FnE := .code 13
 (.seq (.reg [o 0 d4 (.q (.mv (.v (.int .u32 (.ofNat 0)))))])
 (.seq (.reg [o 0 d5 (.q (.mv s0)),
 o 1 d6 (.q (.mv s1)),
 o 2 d7 (.q (.shf false s5 s6)),
 o 3 d8 (.q (.mv s0)),
 o 4 d9 (.q (.mv s1)),
 o 5 d10 (.q (.bin .sub (.v (.int .u64 (.ofNat 32))) s9)),
 o 6 d11 (.q (.shf true s8 s10)),
 o 7 d12 (.q (.bin .or s7 s11)),
 o 8 d4 (.q (.mv s12))])
 .ret))
 [.t p4]

noncomputable def f33 : FnE := .code 14
 (.seq (.reg [o 0 d4 (.q (.mv (.v .nili)))])
 (.seq (.seq (.reg [o 0 d5 (.q (.mv s0)),
 o 1 d6 (.q (.bin .lss s5 (.v (.int .i64 (.ofNat 1))))),
 o 2 d7 (.q (.mv s6)),
 ⟨3, d8, (.q (.mv s1)), (some (p7, false)), []⟩,
 ⟨4, d9, (.q (.lenv s8)), (some (p7, false)), []⟩,
 ⟨5, d10, (.q (.mv s0)), (some (p7, false)), []⟩,
 ⟨6, d11, (.q (.bin .neq s9 s10)), (some (p7, false)), []⟩,
 o 7 d12 (.q (.pick s7 (.v (.bool true)) s11))])
 (.cnd s12 (.seq (.reg [o 0 d13 (.q (.ld1 (.g p7))),
 o 1 d4 (.q (.mv s13))])
 .ret) .skip))
 (.seq (.reg [o 0 d4 (.q (.mv (.v .nili)))])
 .ret)))
 [.t p4]

noncomputable def f34 : FnE := .code 18
 (.seq (.reg [o 0 d3 (.e (.box s0 35)),
 o 1 d6 (.q (.mv (.v (.bool false))))])
 (.seq (.reg [o 0 d7 (.q (.fadr s3 34)),
 o 1 d8 (.q (.ld1 s7)),
 o 2 d9 (.q (.not s8)),
 o 3 d10 (.q (.mv s9)),
 ⟨4, d11, (.q (.fadr s3 33)), (some (p10, false)), []⟩,
 ⟨5, d12, (.q (.ld1 s11)), (some (p10, false)), []⟩,
 ⟨6, d13, (.q (.mv s2)), (some (p10, false)), []⟩,
 ⟨7, d14, (.q (.bin .add s12 s13)), (some (p10, false)), []⟩,
 ⟨8, d15, (.q (.mv s1)), (some (p10, false)), []⟩,
 ⟨9, d16, (.q (.bin .leq s14 s15)), (some (p10, false)), []⟩,
 o 10 d17 (.q (.pick s10 (.v (.bool true)) s16)),
 o 11 d6 (.q (.mv s17))])
 .ret))
 [.t p6]

noncomputable def f35 : FnE := .code 24
 (.seq (.reg [o 0 d3 (.e (.box s0 35)),
 o 1 d6 (.q (.mv (.v (.int .u32 (.ofNat 0)))))])
 (.seq (.seq (.reg [o 0 d7 (.q (.fadr s3 33)),
 o 1 d8 (.q (.ld1 s7)),
 o 2 d9 (.q (.mv s1)),
 o 3 d10 (.q (.bin .geq s8 s9))])
 (.cnd s10 (.seq (.reg [o 0 d11 (.q (.mv s2)),
 o 1 d12 (.q (.mv s2)),
 o 2 d13 (.q (.lenv s12)),
 o 3 d14 (.q (.bin .sub s13 (.v (.int .i64 (.ofNat 1))))),
 o 4 d15 (.q (.iadr s11 s14 1)),
 o 5 d16 (.q (.ld1 s15)),
 o 6 d6 (.q (.mv s16))])
 .ret) .skip))
 (.seq (.reg [o 0 d17 (.q (.mv s2)),
 o 1 d18 (.q (.fadr s3 33)),
 o 2 d19 (.q (.ld1 s18)),
 o 3 d20 (.q (.bin .sub s19 (.v (.int .i64 (.ofNat 1))))),
 o 4 d21 (.q (.mnx true s20 (.v (.int .i64 (.ofNat 0))))),
 o 5 d22 (.q (.iadr s17 s21 1)),
 o 6 d23 (.q (.ld1 s22)),
 o 7 d6 (.q (.mv s23))])
 .ret)))
 [.t p6]

noncomputable def f36 : FnE := .code 77
 (.seq (.reg [o 0 d2 (.e (.box s0 4)),
 o 1 d4 (.q (.mv (.v (.int .u64 (.ofNat 0))))),
 o 2 d5 (.q (.mv (.v .nili)))])
 (.seq (.seq (.reg [o 0 d13 (.q (.mv s1)),
 o 1 d14 (.q (.lenv s13)),
 o 2 d15 (.q (.fadr s2 1)),
 o 3 d16 (.q (.ld1 s15)),
 o 4 d17 (.q (.lenv s16)),
 o 5 d18 (.q (.bin .neq s14 s17))])
 (.cnd s18 (.seq (.rgd 0 [o 0 d19 (.q (.ld1 (.g p7))),
 o 1 d4 (.q (.mv (.v (.int .u64 (.ofNat 0))))),
 o 2 d5 (.q (.mv s19))])
 .ret) .skip))
 (.seq (.reg [o 0 d6 (.q (.mv (.v .nils)))])
 (.seq (.seq (.reg [o 0 d20 (.q (.fadr s2 1)),
 o 1 d21 (.q (.ld1 s20)),
 o 2 d22 (.q (.lenv s21)),
 o 3 d23 (.q (.mv (.v (.int .i64 (.ofNat 0)))))])
 (.blk 0 (.loop (.seq (.reg [o 0 d24 (.q (.bin .lss s23 s22))])
 (.seq (.cnd s24 .skip (.exit 0))
 (.seq (.blk 1 (.seq (.reg [o 0 d25 (.q (.mv s23)),
 o 1 d26 (.q (.iadr s21 s23 35)),
 o 2 d27 (.q (.ldn s26 35)),
 o 3 d8 (.e (.alo (lapp (zz (.int .u8 (.ofNat 0)) 32) [(.int .u32 (.ofNat 0)), .nils, (.int .u32 (.ofNat 0))]))),
 o 4 d7 (.q (.mv s25)),
 o 5 none (.e (.st s8 s27 35))])
 (.seq (.seq (.rgd 0 [o 0 d28 (.q (.fadr s8 33)),
 o 1 d29 (.q (.ld1 s28)),
 o 2 d30 (.q (.mv s1)),
 o 3 d31 (.q (.mv s7)),
 o 4 d32 (.q (.iadr s30 s31 35)),
 o 5 d33 (.q (.fadr s32 1)),
 o 6 d34 (.q (.ldn s33 32)),
 o 7 d35 (.call p70 [s29, s34]),
 o 8 d36 (.q (.not s35))])
 (.cnd s36 (.seq (.rgd 0 [o 0 d37 (.q (.mv s7)),
 o 1 d38 (.q (.ld1 (.g p12))),
 o 2 d39 (.q (.bld [(.int .i64 (.ofNat 0)), .nili] [(0, 1, s37), (1, 1, s38)])),
 o 5 d4 (.q (.mv (.v (.int .u64 (.ofNat 0))))),
 o 3 d40 (.e (.box s39 2)),
 o 4 d41 (.q (.mki 77 s40)),
 o 6 d5 (.q (.mv s41))])
 .ret) .skip))
 (.reg [o 0 d42 (.q (.mv s6)),
 o 1 d43 (.q (.mv s1)),
 o 2 d44 (.q (.mv s7)),
 o 3 d45 (.q (.iadr s43 s44 35)),
 o 4 d46 (.q (.fadr s45 0)),
 o 5 d47 (.q (.ld1 s46)),
 o 6 d48 (.e (.bsl [(.int .u64 (.ofNat 0))] [(0, 1, s47)] 1 1)),
 o 7 d49 (.e (.app s42 s48 1 8 false)),
 o 8 d6 (.q (.mv s49))]))))
 (.reg [o 0 d50 (.q (.bin .add s23 (.v (.int .i64 (.ofNat 1))))),
 o 1 d23 (.q (.mv s50))])))))))
 (.seq (.reg [o 0 d52 (.q (.mv s6)),
 o 1 d53 (.call p71 [s52]),
 o 2 d51 (.q (.mv s53)),
 o 3 d54 (.q (.ext s51 0)),
 o 4 d55 (.q (.ext s51 1)),
 o 5 d9 (.q (.mv s54)),
 o 6 d10 (.q (.mv s55))])
 (.seq (.reg [o 0 d57 (.q (.ldn s2 4)),
 o 1 d58 (.call p66 [s57]),
 o 2 d56 (.q (.mv s58)),
 o 3 d59 (.q (.ext s56 0)),
 o 4 d60 (.q (.ext s56 1)),
 o 5 d11 (.q (.mv s59)),
 o 6 d12 (.q (.mv s60))])
 (.seq (.blk 2 (.seq (.reg [o 0 d62 (.q (.mv s10)),
 o 1 d63 (.q (.not s62)),
 o 2 d64 (.q (.mv s63)),
 ⟨3, d65, (.q (.mv s12)), (some (p64, false)), []⟩,
 ⟨4, d66, (.q (.not s65)), (some (p64, false)), []⟩,
 o 5 d67 (.q (.pick s64 (.v (.bool true)) s66)),
 o 6 d61 (.q (.mv s67))])
 (.cnd s61 (.seq (.rgd 0 [o 0 d68 (.q (.ld1 (.g p0))),
 o 1 d4 (.q (.mv (.v (.int .u64 (.ofNat 0))))),
 o 2 d5 (.q (.mv s68))])
 .ret) (.seq (.reg [o 0 d70 (.q (.mv s9)),
 o 1 d71 (.q (.mv s11)),
 o 2 d72 (.q (.bin .lss s70 s71)),
 o 3 d69 (.q (.mv s72))])
 (.cnd s69 (.seq (.rgd 0 [o 0 d73 (.q (.ld1 (.g p13))),
 o 1 d4 (.q (.mv (.v (.int .u64 (.ofNat 0))))),
 o 2 d5 (.q (.mv s73))])
 .ret) .skip)))))
 (.seq (.reg [o 0 d74 (.q (.mv s9)),
 o 1 d75 (.q (.mv s11)),
 o 2 d76 (.q (.bin .sub s74 s75)),
 o 3 d4 (.q (.mv s76)),
 o 4 d5 (.q (.mv (.v .nili)))])
 .ret))))))))
 [.t p4, .t p5]

noncomputable def f37 : FnE := .code 36
 (.seq (.reg [o 0 d3 (.e (.box s0 4)),
 o 1 d6 (.q (.mv (.v (.bool false))))])
 (.seq (.blk 0 (.seq (.reg [o 0 d8 (.q (.fadr s3 3)),
 o 1 d9 (.q (.ld1 s8)),
 o 2 d10 (.q (.bin .eql s9 (.v (.int .u32 (.ofNat 0))))),
 o 3 d7 (.q (.mv s10))])
 (.cnd s7 (.seq (.reg [o 0 d6 (.q (.mv (.v (.bool true))))])
 .ret) (.seq (.reg [o 0 d12 (.q (.fadr s3 3)),
 o 1 d13 (.q (.ld1 s12)),
 o 2 d14 (.q (.bin .lss s13 (.v (.int .u32 (.ofNat 500000000))))),
 o 3 d15 (.q (.mv s14)),
 ⟨4, d16, (.q (.fadr s3 3)), (some (p15, true)), []⟩,
 ⟨5, d17, (.q (.ld1 s16)), (some (p15, true)), []⟩,
 ⟨6, d18, (.q (.cvi .i64 s17)), (some (p15, true)), []⟩,
 ⟨7, d19, (.q (.mv s1)), (some (p15, true)), []⟩,
 ⟨8, d20, (.q (.bin .lss s18 s19)), (some (p15, true)), []⟩,
 o 9 d21 (.q (.pick s15 s20 (.v (.bool false)))),
 o 10 d11 (.q (.mv s21))])
 (.cnd s11 (.seq (.reg [o 0 d6 (.q (.mv (.v (.bool true))))])
 .ret) (.seq (.reg [o 0 d23 (.q (.fadr s3 3)),
 o 1 d24 (.q (.ld1 s23)),
 o 2 d25 (.q (.bin .geq s24 (.v (.int .u32 (.ofNat 500000000))))),
 o 3 d26 (.q (.mv s25)),
 ⟨4, d27, (.q (.fadr s3 3)), (some (p26, true)), []⟩,
 ⟨5, d28, (.q (.ld1 s27)), (some (p26, true)), []⟩,
 ⟨6, d29, (.q (.mv s2)), (some (p26, true)), []⟩,
 ⟨7, d30, (.q (.bin .lss s28 s29)), (some (p26, true)), []⟩,
 o 8 d31 (.q (.pick s26 s30 (.v (.bool false)))),
 o 9 d22 (.q (.mv s31))])
 (.cnd s22 (.seq (.reg [o 0 d6 (.q (.mv (.v (.bool true))))])
 .ret) .skip)))))))
 (.seq (.reg [o 0 d32 (.q (.fadr s3 1)),
 o 1 d33 (.q (.ld1 s32)),
 o 2 d34 (.call p72 [s33, (.f 73)]),
 o 3 d35 (.q (.not s34)),
 o 4 d6 (.q (.mv s35))])
 .ret)))
 [.t p6]

noncomputable def f38 : FnE := .code 34
 (.seq (.reg [o 0 d5 (.e (.box s0 4)),
 o 1 d10 (.q (.mv (.v (.bool false))))])
 (.seq (.reg [o 0 d15 (.q (.ldn s5 4)),
 o 1 d16 (.q (.mv s1)),
 o 2 d17 (.q (.mv s2)),
 o 3 d18 (.call p74 [s15, s16, s17]),
 o 4 d14 (.q (.mv s18)),
 o 5 d19 (.q (.ext s14 0)),
 o 6 d20 (.q (.ext s14 1)),
 o 7 d21 (.q (.ext s14 2)),
 o 8 d11 (.q (.mv s19)),
 o 9 d12 (.q (.mv s20)),
 o 10 d13 (.q (.mv s21))])
 (.seq (.reg [o 0 d22 (.q (.mv s13)),
 o 1 d23 (.q (.mv s22)),
 ⟨2, d24, (.q (.mv s3)), (some (p23, true)), []⟩,
 ⟨3, d25, (.q (.mv s11)), (some (p23, true)), []⟩,
 ⟨4, d26, (.q (.bin .gtr s24 s25)), (some (p23, true)), []⟩,
 o 5 d27 (.q (.pick s23 s26 (.v (.bool false)))),
 o 6 d28 (.q (.mv s27)),
 ⟨7, d29, (.q (.mv s4)), (some (p28, true)), []⟩,
 ⟨8, d30, (.q (.cvi .i64 s29)), (some (p28, true)), []⟩,
 ⟨9, d31, (.q (.mv s12)), (some (p28, true)), []⟩,
 ⟨10, d32, (.q (.bin .gtr s30 s31)), (some (p28, true)), []⟩,
 o 11 d33 (.q (.pick s28 s32 (.v (.bool false)))),
 o 12 d10 (.q (.mv s33))])
 .ret)))
 [.t p10]

noncomputable def f39 : FnE := .code 9
 (.seq (.reg [o 0 d3 (.e (.box s1 5)),
 o 1 d4 (.q (.mv (.v (.bool false))))])
 (.seq (.rgd 0 [o 0 d5 (.q (.mv s0)),
 o 2 d7 (.q (.ldn s3 5)),
 ⟨1, d6, (.call p76 [s5]), none, [(p7, .ldn s3 5, none)]⟩,
 o 3 d8 (.call p75 [s6, s7]),
 o 4 d4 (.q (.mv s8))])
 .ret))
 [.t p4]

noncomputable def f40 : FnE := .code 5
 (.seq (.reg [o 0 d2 (.e (.alo [(.int .i64 (.ofNat 0)), (.bool false), (.int .i64 (.ofNat 0)), (.bool false), (.int .i64 (.ofNat 0))]))])
 (.seq (.reg [o 0 d3 (.q (.mv s0)),
 o 1 d4 (.q (.bld [(.int .i64 (.ofNat 0)), (.bool false), (.int .i64 (.ofNat 0)), (.bool false), (.int .i64 (.ofNat 0))] [(0, 1, s3)])),
 o 2 none (.e (.st s2 s4 5))])
 .ret))
 [.cn p2 5]

noncomputable def f42 : FnE := .code 8
 (.seq (.reg [o 0 d2 (.e (.alo (zz (.int .u8 (.ofNat 0)) 32)))])
 (.seq (.reg [o 0 d4 (.q (.mv s0)),
 o 1 d5 (.call p11 [s4]),
 o 2 d3 (.e (.alo (zz (.int .u8 (.ofNat 0)) 32))),
 o 3 none (.e (.st s3 s5 32))])
 (.seq (.reg [o 0 d6 (.q (.slca s3 none none 1 32)),
 o 1 d7 (.call p11 [s6]),
 o 2 none (.e (.st s2 s7 32))])
 .ret)))
 [.cn p2 32]

noncomputable def f43 : FnE := .code 81
 (.seq (.reg [o 0 d1 (.e (.box s0 4)),
 o 1 d2 (.q (.mv (.v .nils)))])
 (.seq (.rgd 0 [o 0 d7 (.q (.fadr s1 0)),
 o 1 d8 (.q (.ld1 s7)),
 o 3 d10 (.q (.fadr s1 1)),
 o 4 d11 (.q (.ld1 s10)),
 o 5 d12 (.q (.lenv s11)),
 o 6 d13 (.q (.cvi .u64 s12)),
 ⟨2, d9, (.call p79 [(.v .nils), s8]), none, [(p11, .ld1 s10, none)]⟩,
 o 7 d14 (.call p78 [s9, s13]),
 o 8 d3 (.q (.mv s14))])
 (.seq (.seq (.reg [o 0 d4 (.q (.mv (.v (.int .i64 (.ofNat 0)))))])
 (.blk 0 (.loop (.seq (.seq (.reg [o 0 d15 (.q (.mv s4)),
 o 1 d16 (.q (.fadr s1 1)),
 o 2 d17 (.q (.ld1 s16)),
 o 3 d18 (.q (.lenv s17)),
 o 4 d19 (.q (.bin .lss s15 s18))])
 (.cnd s19 .skip (.exit 0)))
 (.seq (.blk 1 (.seq (.reg [o 0 d22 (.q (.fadr s1 1)),
 o 1 d23 (.q (.ld1 s22)),
 o 2 d24 (.q (.mv s4)),
 o 3 d25 (.q (.iadr s23 s24 35)),
 o 4 d26 (.q (.ldn s25 35)),
 o 5 d5 (.e (.alo (lapp (zz (.int .u8 (.ofNat 0)) 32) [(.int .u32 (.ofNat 0)), .nils, (.int .u32 (.ofNat 0))]))),
 o 6 none (.e (.st s5 s26 35))])
 (.seq (.reg [o 0 d27 (.q (.mv s3)),
 o 1 d28 (.q (.fadr s5 0)),
 o 2 d29 (.q (.fadr s28 0)),
 o 3 d30 (.q (.slca s29 none none 1 32)),
 o 4 d31 (.e (.app s27 s30 1 1 false)),
 o 5 d3 (.q (.mv s31))])
 (.seq (.rgd 0 [o 0 d32 (.q (.mv s3)),
 o 1 d33 (.q (.fadr s5 0)),
 o 2 d34 (.q (.fadr s33 32)),
 o 3 d35 (.q (.ld1 s34)),
 o 5 d37 (.q (.fadr s5 33)),
 o 6 d38 (.q (.ld1 s37)),
 o 7 d39 (.q (.lenv s38)),
 o 8 d40 (.q (.cvi .u64 s39)),
 ⟨4, d36, (.call p79 [s32, s35]), none, [(p38, .ld1 s37, none)]⟩,
 o 9 d41 (.call p78 [s36, s40]),
 o 10 d3 (.q (.mv s41))])
 (.rgd 0 [o 0 d42 (.q (.mv s3)),
 o 1 d43 (.q (.fadr s5 33)),
 o 2 d44 (.q (.ld1 s43)),
 o 4 d46 (.q (.fadr s5 34)),
 o 5 d47 (.q (.ld1 s46)),
 ⟨3, d45, (.e (.app s42 s44 1 1 false)), none, [(p47, .ld1 s46, none)]⟩,
 o 6 d48 (.call p79 [s45, s47]),
 o 7 d3 (.q (.mv s48))])))))
 (.reg [o 0 d20 (.q (.mv s4)),
 o 1 d21 (.q (.bin .add s20 (.v (.int .i64 (.ofNat 1))))),
 o 2 d4 (.q (.mv s21))]))))))
 (.seq (.reg [o 0 d49 (.q (.mv s3)),
 o 1 d50 (.q (.fadr s1 2)),
 o 2 d51 (.q (.ld1 s50)),
 o 3 d52 (.q (.lenv s51)),
 o 4 d53 (.q (.cvi .u64 s52)),
 o 5 d54 (.call p78 [s49, s53]),
 o 6 d3 (.q (.mv s54))])
 (.seq (.seq (.reg [o 0 d6 (.q (.mv (.v (.int .i64 (.ofNat 0)))))])
 (.blk 2 (.loop (.seq (.seq (.reg [o 0 d55 (.q (.mv s6)),
 o 1 d56 (.q (.fadr s1 2)),
 o 2 d57 (.q (.ld1 s56)),
 o 3 d58 (.q (.lenv s57)),
 o 4 d59 (.q (.bin .lss s55 s58))])
 (.cnd s59 .skip (.exit 2)))
 (.seq (.blk 3 (.rgd 0 [o 0 d62 (.q (.mv s3)),
 o 1 d63 (.q (.fadr s1 2)),
 o 2 d64 (.q (.ld1 s63)),
 o 3 d65 (.q (.mv s6)),
 o 4 d66 (.q (.iadr s64 s65 33)),
 o 5 d67 (.q (.fadr s66 0)),
 o 6 d68 (.q (.ld1 s67)),
 o 8 d70 (.q (.fadr s1 2)),
 o 9 d71 (.q (.ld1 s70)),
 o 10 d72 (.q (.mv s6)),
 o 11 d73 (.q (.iadr s71 s72 33)),
 o 12 d74 (.q (.fadr s73 1)),
 o 13 d75 (.q (.slca s74 none none 1 32)),
 ⟨7, d69, (.call p80 [s62, s68]), none, [(p71, .ld1 s70, none), (p75, .slca s74 none none 1 32, none)]⟩,
 o 14 d76 (.e (.app s69 s75 1 1 false)),
 o 15 d3 (.q (.mv s76))]))
 (.reg [o 0 d60 (.q (.mv s6)),
 o 1 d61 (.q (.bin .add s60 (.v (.int .i64 (.ofNat 1))))),
 o 2 d6 (.q (.mv s61))]))))))
 (.seq (.reg [o 0 d77 (.q (.mv s3)),
 o 1 d78 (.q (.fadr s1 3)),
 o 2 d79 (.q (.ld1 s78)),
 o 3 d80 (.call p79 [s77, s79]),
 o 4 d2 (.q (.mv s80))])
 .ret))))))
 [.t p2]

noncomputable def f59 : FnE := .code 24
 (.seq (.reg [o 0 d6 (.e (.box s2 32)),
 o 1 d8 (.e (.alo [(.int .u32 (.ofNat 0)), .nils, .nils, (.int .u32 (.ofNat 0))]))])
 (.seq (.reg [o 0 d10 (.q (.mv s0)),
 o 1 d11 (.q (.cvi .u32 s10)),
 o 2 d12 (.call p79 [(.v .nils), s11]),
 o 3 d13 (.q (.mv s3)),
 o 4 d14 (.e (.app s12 s13 1 1 false)),
 o 5 d9 (.q (.mv s14))])
 (.seq (.rgd 2 [o 1 d16 (.q (.mv s9)),
 o 4 d19 (.q (.mv s1)),
 o 5 d20 (.q (.ldn s6 32)),
 o 6 d21 (.q (.bld (lapp [(.int .u64 (.ofNat 0))] (zz (.int .u8 (.ofNat 0)) 32)) [(0, 1, s19), (1, 32, s20)])),
 ⟨0, d15, (.call p105 []), none, [(p20, .ldn s6 32, none)]⟩,
 o 2 d17 (.q (.bld (lapp (zz (.int .u8 (.ofNat 0)) 32) [(.int .u32 (.ofNat 0)), .nils, (.int .u32 (.ofNat 0))]) [(0, 33, s15), (33, 1, s16), (34, 1, (.v (.int .u32 (.ofNat 4294967295))))])),
 ⟨3, d18, (.l (.bsl (lapp (zz (.int .u8 (.ofNat 0)) 32) [(.int .u32 (.ofNat 0)), .nils, (.int .u32 (.ofNat 0))]) [(0, 35, s17)] 1 35) 0), none, [(p20, .ldn s6 32, none)]⟩,
 o 7 d22 (.l (.bsl (lapp [(.int .u64 (.ofNat 0))] (zz (.int .u8 (.ofNat 0)) 32)) [(0, 33, s21)] 1 33) 1),
 o 8 d23 (.q (.bld [(.int .u32 (.ofNat 0)), .nils, .nils, (.int .u32 (.ofNat 0))] [(0, 1, (.v (.int .u32 (.ofNat 1)))), (1, 1, s18), (2, 1, s22)])),
 o 9 none (.e (.st s8 s23 4))])
 .ret)))
 [.cn p8 4]

noncomputable def f60 : FnE := .code 27
 (.seq (.reg [o 0 d0 (.q (.mv (.v .nils)))])
 (.seq (.reg [o 0 d1 (.q (.ld1 (.g p14))),
 o 1 d2 (.q (.ld1 (.g p7))),
 o 2 d3 (.q (.ld1 (.g p15))),
 o 3 d4 (.q (.ld1 (.g p16))),
 o 4 d5 (.q (.ld1 (.g p0))),
 o 5 d6 (.q (.ld1 (.g p1))),
 o 6 d7 (.q (.ld1 (.g p10))),
 o 7 d8 (.q (.ld1 (.g p17))),
 o 8 d9 (.q (.ld1 (.g p5))),
 o 9 d10 (.q (.ld1 (.g p18))),
 o 10 d11 (.q (.ld1 (.g p19))),
 o 11 d12 (.q (.ld1 (.g p9))),
 o 12 d13 (.q (.ld1 (.g p2))),
 o 13 d14 (.q (.ld1 (.g p12))),
 o 14 d15 (.q (.ld1 (.g p3))),
 o 15 d16 (.q (.ld1 (.g p4))),
 o 16 d17 (.q (.ld1 (.g p13))),
 o 17 d18 (.q (.ld1 (.g p11))),
 o 18 d19 (.q (.ld1 (.g p6))),
 o 19 d20 (.q (.ld1 (.g p8))),
 o 20 d21 (.q (.ld1 (.g p20))),
 o 21 d22 (.q (.ld1 (.g p21))),
 o 22 d23 (.q (.ld1 (.g p22))),
 o 23 d24 (.q (.ld1 (.g p23))),
 o 24 d25 (.q (.ld1 (.g p24))),
 o 25 d26 (.e (.bsl (zz .nili 25) [(0, 1, s1), (1, 1, s2), (2, 1, s3), (3, 1, s4), (4, 1, s5), (5, 1, s6), (6, 1, s7), (7, 1, s8), (8, 1, s9), (9, 1, s10), (10, 1, s11), (11, 1, s12), (12, 1, s13), (13, 1, s14), (14, 1, s15), (15, 1, s16), (16, 1, s17), (17, 1, s18), (18, 1, s19), (19, 1, s20), (20, 1, s21), (21, 1, s22), (22, 1, s23), (23, 1, s24), (24, 1, s25)] 25 1)),
 o 26 d0 (.q (.mv s26))])
 .ret))
 [.t p0]

noncomputable def f66 : FnE := .code 9
 (.seq (.reg [o 0 d1 (.e (.box s0 4)),
 o 1 d2 (.q (.mv (.v (.int .u64 (.ofNat 0))))),
 o 2 d3 (.q (.mv (.v (.bool false))))])
 (.seq (.reg [o 0 d4 (.q (.ldn s1 4)),
 o 1 d5 (.call p116 [s4]),
 o 2 d6 (.call p71 [s5]),
 o 3 d7 (.q (.ext s6 0)),
 o 4 d8 (.q (.ext s6 1)),
 o 5 d2 (.q (.mv s7)),
 o 6 d3 (.q (.mv s8))])
 .ret))
 [.t p2, .t p3]

noncomputable def f69 : FnE := .code 10
 (.seq (.reg [o 0 d1 (.e (.box s0 69)),
 o 1 d2 (.e (.alo (lapp [(.int .u32 (.ofNat 0))] (lapp (zz (.int .u8 (.ofNat 0)) 32) [(.int .u8 (.ofNat 0)), (.int .u8 (.ofNat 0)), (.int .u8 (.ofNat 0)), (.int .u8 (.ofNat 0)), (.int .u8 (.ofNat 0)), (.int .u8 (.ofNat 0)), (.int .u8 (.ofNat 0)), (.int .u8 (.ofNat 0)), (.int .u8 (.ofNat 0)), (.int .u8 (.ofNat 0)), (.int .u8 (.ofNat 0)), (.int .u8 (.ofNat 0)), (.int .u8 (.ofNat 0)), (.int .u8 (.ofNat 0)), (.int .u8 (.ofNat 0)), (.int .u8 (.ofNat 0)), (.int .u8 (.ofNat 0)), (.int .u8 (.ofNat 0)), (.int .u8 (.ofNat 0)), (.int .u8 (.ofNat 0)), (.int .u8 (.ofNat 0)), (.int .u8 (.ofNat 0)), (.int .u8 (.ofNat 0)), (.int .u8 (.ofNat 0)), (.int .u8 (.ofNat 0)), (.int .u8 (.ofNat 0)), (.int .u8 (.ofNat 0)), (.int .u8 (.ofNat 0)), (.int .u8 (.ofNat 0)), (.int .u8 (.ofNat 0)), (.int .u8 (.ofNat 0)), (.int .u8 (.ofNat 0)), (.int .u32 (.ofNat 0)), (.int .u32 (.ofNat 0)), (.int .u32 (.ofNat 0)), .nils]))))])
 (.seq (.reg [o 0 d3 (.q (.fadr s1 68)),
 o 1 d4 (.q (.ld1 s3)),
 o 2 d5 (.call p121 [s4]),
 o 3 d6 (.call p120 [s5]),
 o 4 d7 (.q (.fadr s1 0)),
 o 5 d8 (.q (.fadr s7 33)),
 o 6 none (.e (.st s8 s6 32))])
 (.seq (.reg [o 0 d9 (.q (.ldn s1 69)),
 o 1 none (.e (.st s2 s9 69))])
 .ret)))
 [.cn p2 69]

noncomputable def f70 : FnE := .code 14
 (.seq (.reg [o 0 d3 (.e (.box s1 32)),
 o 1 d4 (.q (.mv (.v (.bool false))))])
 (.seq (.rgd 0 [o 0 d5 (.q (.mv s0)),
 o 1 d6 (.q (.lenv s5)),
 o 2 d7 (.q (.bin .leq s6 (.v (.int .i64 (.ofNat 80))))),
 o 3 d8 (.q (.mv s7)),
 ⟨4, d9, (.q (.mv s0)), (some (p8, true)), []⟩,
 ⟨6, d11, (.q (.ldn s3 32)), (some (p8, true)), []⟩,
 ⟨5, d10, (.call p122 [s9]), (some (p8, true)), [(p11, .ldn s3 32, (some (p8, true)))]⟩,
 ⟨7, d12, (.q (.eqa false (kk .u8 32) s10 s11)), (some (p8, true)), []⟩,
 o 8 d13 (.q (.pick s8 s12 (.v (.bool false)))),
 o 9 d4 (.q (.mv s13))])
 .ret))
 [.t p4]

noncomputable def f71 : FnE := .code 22
 (.seq (.reg [o 0 d2 (.q (.mv (.v (.int .u64 (.ofNat 0))))),
 o 1 d3 (.q (.mv (.v (.bool false))))])
 (.seq (.reg [o 0 d4 (.q (.mv (.v (.int .u64 (.ofNat 0)))))])
 (.seq (.seq (.reg [o 0 d7 (.q (.mv s0)),
 o 1 d8 (.q (.lenv s7)),
 o 2 d9 (.q (.mv (.v (.int .i64 (.ofNat 0)))))])
 (.blk 0 (.loop (.seq (.reg [o 0 d10 (.q (.bin .lss s9 s8))])
 (.seq (.cnd s10 .skip (.exit 0))
 (.seq (.blk 1 (.seq (.reg [o 0 d11 (.q (.iadr s7 s9 1)),
 o 1 d12 (.q (.ld1 s11)),
 o 2 d6 (.q (.mv s12))])
 (.seq (.seq (.reg [o 0 d13 (.q (.mv s6)),
 o 1 d14 (.q (.mv s4)),
 o 2 d15 (.q (.bin .sub (.v (.int .u64 (.ofNat 2100000000000000))) s14)),
 o 3 d16 (.q (.bin .gtr s13 s15))])
 (.cnd s16 (.seq (.reg [o 0 d2 (.q (.mv (.v (.int .u64 (.ofNat 0))))),
 o 1 d3 (.q (.mv (.v (.bool false))))])
 .ret) .skip))
 (.reg [o 0 d17 (.q (.mv s4)),
 o 1 d18 (.q (.mv s6)),
 o 2 d19 (.q (.bin .add s17 s18)),
 o 3 d4 (.q (.mv s19))]))))
 (.reg [o 0 d20 (.q (.bin .add s9 (.v (.int .i64 (.ofNat 1))))),
 o 1 d9 (.q (.mv s20))])))))))
 (.seq (.reg [o 0 d21 (.q (.mv s4)),
 o 1 d2 (.q (.mv s21)),
 o 2 d3 (.q (.mv (.v (.bool true))))])
 .ret))))
 [.t p2, .t p3]

noncomputable def f74 : FnE := .code 78
 (.seq (.reg [o 0 d3 (.e (.box s0 4)),
 o 1 d6 (.q (.mv (.v (.int .i64 (.ofNat 0))))),
 o 2 d7 (.q (.mv (.v (.int .i64 (.ofNat 0))))),
 o 3 d8 (.q (.mv (.v (.bool false))))])
 (.seq (.seq (.reg [o 0 d14 (.q (.mv s1)),
 o 1 d15 (.q (.lenv s14)),
 o 2 d16 (.q (.fadr s3 1)),
 o 3 d17 (.q (.ld1 s16)),
 o 4 d18 (.q (.lenv s17)),
 o 5 d19 (.q (.bin .neq s15 s18)),
 o 6 d20 (.q (.mv s19)),
 ⟨7, d21, (.q (.mv s2)), (some (p20, false)), []⟩,
 ⟨8, d22, (.q (.lenv s21)), (some (p20, false)), []⟩,
 ⟨9, d23, (.q (.fadr s3 1)), (some (p20, false)), []⟩,
 ⟨10, d24, (.q (.ld1 s23)), (some (p20, false)), []⟩,
 ⟨11, d25, (.q (.lenv s24)), (some (p20, false)), []⟩,
 ⟨12, d26, (.q (.bin .neq s22 s25)), (some (p20, false)), []⟩,
 o 13 d27 (.q (.pick s20 (.v (.bool true)) s26))])
 (.cnd s27 (.seq (.reg [o 0 d6 (.q (.mv (.v (.int .i64 (.ofNat 0))))),
 o 1 d7 (.q (.mv (.v (.int .i64 (.ofNat 0))))),
 o 2 d8 (.q (.mv (.v (.bool false))))])
 .ret) .skip))
 (.seq (.reg [o 0 d9 (.q (.mv (.v (.int .i64 (.negSucc 0))))),
 o 1 d10 (.q (.mv (.v (.int .i64 (.negSucc 0)))))])
 (.seq (.seq (.reg [o 0 d28 (.q (.fadr s3 0)),
 o 1 d29 (.q (.ld1 s28)),
 o 2 d30 (.q (.bin .lss s29 (.v (.int .u32 (.ofNat 2)))))])
 (.cnd s30 (.seq (.reg [o 0 d31 (.q (.mv s9)),
 o 1 d32 (.q (.mv s10)),
 o 2 d6 (.q (.mv s31)),
 o 3 d7 (.q (.mv s32)),
 o 4 d8 (.q (.mv (.v (.bool true))))])
 .ret) .skip))
 (.seq (.seq (.reg [o 0 d33 (.q (.fadr s3 1)),
 o 1 d34 (.q (.ld1 s33)),
 o 2 d35 (.q (.lenv s34)),
 o 3 d36 (.q (.mv (.v (.int .i64 (.ofNat 0)))))])
 (.blk 0 (.loop (.seq (.reg [o 0 d37 (.q (.bin .lss s36 s35))])
 (.seq (.cnd s37 .skip (.exit 0))
 (.seq (.blk 1 (.seq (.reg [o 0 d38 (.q (.mv s36)),
 o 1 d39 (.q (.iadr s34 s36 35)),
 o 2 d40 (.q (.ldn s39 35)),
 o 3 d12 (.e (.alo (lapp (zz (.int .u8 (.ofNat 0)) 32) [(.int .u32 (.ofNat 0)), .nils, (.int .u32 (.ofNat 0))]))),
 o 4 d11 (.q (.mv s38)),
 o 5 none (.e (.st s12 s40 35))])
 (.seq (.reg [o 0 d41 (.q (.fadr s12 34)),
 o 1 d42 (.q (.ld1 s41)),
 o 2 d43 (.q (.bin .and s42 (.v (.int .u32 (.ofNat 65535))))),
 o 3 d44 (.q (.cvi .i64 s43)),
 o 4 d13 (.q (.mv s44))])
 (.blk 2 (.seq (.reg [o 0 d55 (.q (.fadr s12 34)),
 o 1 d56 (.q (.ld1 s55)),
 o 2 d57 (.q (.bin .and s56 (.v (.int .u32 (.ofNat 2147483648))))),
 o 3 d58 (.q (.bin .neq s57 (.v (.int .u32 (.ofNat 0))))),
 o 4 d54 (.q (.mv s58))])
 (.cnd s54 .skip (.seq (.reg [o 0 d60 (.q (.fadr s12 34)),
 o 1 d61 (.q (.ld1 s60)),
 o 2 d62 (.q (.bin .and s61 (.v (.int .u32 (.ofNat 4194304))))),
 o 3 d63 (.q (.bin .neq s62 (.v (.int .u32 (.ofNat 0))))),
 o 4 d59 (.q (.mv s63))])
 (.cnd s59 (.reg [o 0 d64 (.q (.mv s10)),
 o 1 d65 (.q (.mv s2)),
 o 2 d66 (.q (.mv s11)),
 o 3 d67 (.q (.iadr s65 s66 1)),
 o 4 d68 (.q (.ld1 s67)),
 o 5 d69 (.q (.cvi .i64 s68)),
 o 6 d70 (.q (.mv s13)),
 o 7 d71 (.q (.bin .mul (.v (.int .i64 (.ofNat 512))) s70)),
 o 8 d72 (.q (.bin .add s69 s71)),
 o 9 d73 (.q (.bin .sub s72 (.v (.int .i64 (.ofNat 1))))),
 o 10 d74 (.q (.mnx true s64 s73)),
 o 11 d10 (.q (.mv s74))]) (.reg [o 0 d45 (.q (.mv s9)),
 o 1 d46 (.q (.mv s1)),
 o 2 d47 (.q (.mv s11)),
 o 3 d48 (.q (.iadr s46 s47 1)),
 o 4 d49 (.q (.ld1 s48)),
 o 5 d50 (.q (.mv s13)),
 o 6 d51 (.q (.bin .add s49 s50)),
 o 7 d52 (.q (.bin .sub s51 (.v (.int .i64 (.ofNat 1))))),
 o 8 d53 (.q (.mnx true s45 s52)),
 o 9 d9 (.q (.mv s53))])))))))))
 (.reg [o 0 d75 (.q (.bin .add s36 (.v (.int .i64 (.ofNat 1))))),
 o 1 d36 (.q (.mv s75))])))))))
 (.seq (.reg [o 0 d76 (.q (.mv s9)),
 o 1 d77 (.q (.mv s10)),
 o 2 d6 (.q (.mv s76)),
 o 3 d7 (.q (.mv s77)),
 o 4 d8 (.q (.mv (.v (.bool true))))])
 .ret))))))
 [.t p6, .t p7, .t p8]

noncomputable def f75 : FnE := .code 38
 (.seq (.reg [o 0 d2 (.e (.box s0 5)),
 o 1 d3 (.e (.box s1 5)),
 o 2 d4 (.q (.mv (.v (.bool false))))])
 (.seq (.reg [o 0 d5 (.q (.fadr s2 0)),
 o 1 d6 (.q (.ld1 s5)),
 o 2 d7 (.q (.fadr s3 0)),
 o 3 d8 (.q (.ld1 s7)),
 o 4 d9 (.q (.bin .eql s6 s8)),
 o 5 d10 (.q (.mv s9)),
 ⟨6, d11, (.q (.fadr s2 1)), (some (p10, true)), []⟩,
 ⟨7, d12, (.q (.ld1 s11)), (some (p10, true)), []⟩,
 ⟨8, d13, (.q (.fadr s3 1)), (some (p10, true)), []⟩,
 ⟨9, d14, (.q (.ld1 s13)), (some (p10, true)), []⟩,
 ⟨10, d15, (.q (.cmpb false s12 s14)), (some (p10, true)), []⟩,
 o 11 d16 (.q (.pick s10 s15 (.v (.bool false)))),
 o 12 d17 (.q (.mv s16)),
 ⟨13, d18, (.q (.fadr s2 2)), (some (p17, true)), []⟩,
 ⟨14, d19, (.q (.ld1 s18)), (some (p17, true)), []⟩,
 ⟨15, d20, (.q (.fadr s3 2)), (some (p17, true)), []⟩,
 ⟨16, d21, (.q (.ld1 s20)), (some (p17, true)), []⟩,
 ⟨17, d22, (.q (.bin .eql s19 s21)), (some (p17, true)), []⟩,
 o 18 d23 (.q (.pick s17 s22 (.v (.bool false)))),
 o 19 d24 (.q (.mv s23)),
 ⟨20, d25, (.q (.fadr s2 3)), (some (p24, true)), []⟩,
 ⟨21, d26, (.q (.ld1 s25)), (some (p24, true)), []⟩,
 ⟨22, d27, (.q (.fadr s3 3)), (some (p24, true)), []⟩,
 ⟨23, d28, (.q (.ld1 s27)), (some (p24, true)), []⟩,
 ⟨24, d29, (.q (.cmpb false s26 s28)), (some (p24, true)), []⟩,
 o 25 d30 (.q (.pick s24 s29 (.v (.bool false)))),
 o 26 d31 (.q (.mv s30)),
 ⟨27, d32, (.q (.fadr s2 4)), (some (p31, true)), []⟩,
 ⟨28, d33, (.q (.ld1 s32)), (some (p31, true)), []⟩,
 ⟨29, d34, (.q (.fadr s3 4)), (some (p31, true)), []⟩,
 ⟨30, d35, (.q (.ld1 s34)), (some (p31, true)), []⟩,
 ⟨31, d36, (.q (.bin .eql s33 s35)), (some (p31, true)), []⟩,
 o 32 d37 (.q (.pick s31 s36 (.v (.bool false)))),
 o 33 d4 (.q (.mv s37))])
 .ret))
 [.t p4]

noncomputable def f76 : FnE := .code 75
 (.seq (.reg [o 0 d2 (.e (.alo [(.int .i64 (.ofNat 0)), (.bool false), (.int .i64 (.ofNat 0)), (.bool false), (.int .i64 (.ofNat 0))]))])
 (.seq (.seq (.reg [o 0 d7 (.q (.mv s0)),
 o 1 d8 (.q (.eqp (.iface true) false s7 (.v .nili)))])
 (.cnd s8 (.seq (.reg [o 0 d9 (.call p124 []),
 o 1 none (.e (.st s2 s9 5))])
 .ret) .skip))
 (.seq (.reg [o 0 d11 (.q (.mv s0)),
 o 1 d12 (.q (.tas s11 77 .nilp true)),
 o 2 d10 (.q (.mv s12)),
 o 3 d13 (.q (.ext s10 0)),
 o 4 d14 (.q (.ext s10 1)),
 o 5 d3 (.q (.mv s13)),
 o 6 d4 (.q (.mv s14))])
 (.seq (.seq (.reg [o 0 d15 (.q (.mv s4)),
 o 1 d16 (.q (.not s15))])
 (.cnd s16 (.seq (.reg [o 0 d17 (.q (.mv s0)),
 o 1 d18 (.call p125 [s17]),
 o 2 d19 (.call p40 [s18]),
 o 3 none (.e (.st s2 s19 5))])
 .ret) .skip))
 (.seq (.seq (.reg [o 0 d20 (.q (.mv s3)),
 o 1 d21 (.q (.eqp .ptr false s20 (.v .nilp))),
 o 2 d22 (.q (.mv s21)),
 ⟨3, d23, (.q (.mv s3)), (some (p22, false)), []⟩,
 ⟨4, d24, (.q (.nck s23)), (some (p22, false)), []⟩,
 ⟨5, d25, (.q (.fadr s24 1)), (some (p22, false)), []⟩,
 ⟨6, d26, (.q (.ld1 s25)), (some (p22, false)), []⟩,
 ⟨7, d27, (.q (.eqp (.iface true) false s26 (.v .nili))), (some (p22, false)), []⟩,
 o 8 d28 (.q (.pick s22 (.v (.bool true)) s27))])
 (.cnd s28 (.seq (.reg [o 0 d29 (.call p40 [(.v (.int .i64 (.negSucc 0)))]),
 o 1 none (.e (.st s2 s29 5))])
 .ret) .skip))
 (.seq (.reg [o 0 d31 (.q (.mv s3)),
 o 1 d32 (.q (.nck s31)),
 o 2 d33 (.q (.fadr s32 1)),
 o 3 d34 (.q (.ld1 s33)),
 o 4 d35 (.q (.tas s34 77 .nilp true)),
 o 5 d30 (.q (.mv s35)),
 o 6 d36 (.q (.ext s30 0)),
 o 7 d37 (.q (.ext s30 1)),
 o 8 d5 (.q (.mv s36)),
 o 9 d6 (.q (.mv s37))])
 (.seq (.seq (.reg [o 0 d38 (.q (.mv s6)),
 o 1 d39 (.q (.not s38))])
 (.cnd s39 (.seq (.rgd 0 [o 0 d40 (.q (.mv s3)),
 o 1 d41 (.q (.nck s40)),
 o 2 d42 (.q (.fadr s41 1)),
 o 3 d43 (.q (.ld1 s42)),
 o 5 d45 (.q (.mv s3)),
 o 6 d46 (.q (.nck s45)),
 o 7 d47 (.q (.fadr s46 0)),
 o 8 d48 (.q (.ld1 s47)),
 ⟨4, d44, (.call p125 [s43]), none, [(p48, .ld1 s47, none)]⟩,
 o 9 d49 (.call p126 [s44, s48]),
 o 10 none (.e (.st s2 s49 5))])
 .ret) .skip))
 (.seq (.seq (.reg [o 0 d50 (.q (.mv s5)),
 o 1 d51 (.q (.eqp .ptr false s50 (.v .nilp))),
 o 2 d52 (.q (.mv s51)),
 ⟨3, d53, (.q (.mv s5)), (some (p52, false)), []⟩,
 ⟨4, d54, (.q (.nck s53)), (some (p52, false)), []⟩,
 ⟨5, d55, (.q (.fadr s54 1)), (some (p52, false)), []⟩,
 ⟨6, d56, (.q (.ld1 s55)), (some (p52, false)), []⟩,
 ⟨7, d57, (.q (.eqp (.iface true) false s56 (.v .nili))), (some (p52, false)), []⟩,
 o 8 d58 (.q (.pick s52 (.v (.bool true)) s57))])
 (.cnd s58 (.seq (.reg [o 0 d59 (.call p40 [(.v (.int .i64 (.negSucc 0)))]),
 o 1 none (.e (.st s2 s59 5))])
 .ret) .skip))
 (.seq (.rgd 0 [o 0 d60 (.q (.mv s5)),
 o 1 d61 (.q (.nck s60)),
 o 2 d62 (.q (.fadr s61 1)),
 o 3 d63 (.q (.ld1 s62)),
 o 5 d65 (.q (.mv s5)),
 o 6 d66 (.q (.nck s65)),
 o 7 d67 (.q (.fadr s66 0)),
 o 8 d68 (.q (.ld1 s67)),
 o 10 d70 (.q (.mv s3)),
 o 11 d71 (.q (.nck s70)),
 o 12 d72 (.q (.fadr s71 0)),
 o 13 d73 (.q (.ld1 s72)),
 ⟨4, d64, (.call p125 [s63]), none, [(p68, .ld1 s67, none), (p73, .ld1 s72, none)]⟩,
 ⟨9, d69, (.call p126 [s64, s68]), none, [(p73, .ld1 s72, none)]⟩,
 o 14 d74 (.call p127 [s69, s73]),
 o 15 none (.e (.st s2 s74 5))])
 .ret)))))))))
 [.cn p2 5]

noncomputable def f78 : FnE := .code 33
 (.seq (.reg [o 0 d4 (.q (.mv (.v .nils)))])
 (.seq (.seq (.reg [o 0 d5 (.q (.mv s1)),
 o 1 d6 (.call p132 [s5])])
 (.blk 0 (.seq (.reg [o 0 d8 (.q (.bin .eql s6 (.v (.int .i64 (.ofNat 1))))),
 o 1 d7 (.q (.mv s8))])
 (.cnd s7 (.seq (.reg [o 0 d9 (.q (.mv s0)),
 o 1 d10 (.q (.mv s1)),
 o 2 d11 (.q (.cvi .u8 s10)),
 o 3 d12 (.e (.bsl [(.int .u8 (.ofNat 0))] [(0, 1, s11)] 1 1)),
 o 4 d13 (.e (.app s9 s12 1 1 false)),
 o 5 d4 (.q (.mv s13))])
 .ret) (.seq (.reg [o 0 d15 (.q (.bin .eql s6 (.v (.int .i64 (.ofNat 3))))),
 o 1 d14 (.q (.mv s15))])
 (.cnd s14 (.seq (.reg [o 0 d16 (.q (.mv s0)),
 o 1 d17 (.e (.bsl [(.int .u8 (.ofNat 0))] [(0, 1, (.v (.int .u8 (.ofNat 253))))] 1 1)),
 o 2 d18 (.e (.app s16 s17 1 1 false)),
 o 3 d19 (.q (.mv s1)),
 o 4 d20 (.call p133 [s18, s19, (.v (.int .i64 (.ofNat 2)))]),
 o 5 d4 (.q (.mv s20))])
 .ret) (.seq (.reg [o 0 d22 (.q (.bin .eql s6 (.v (.int .i64 (.ofNat 5))))),
 o 1 d21 (.q (.mv s22))])
 (.cnd s21 (.seq (.reg [o 0 d23 (.q (.mv s0)),
 o 1 d24 (.e (.bsl [(.int .u8 (.ofNat 0))] [(0, 1, (.v (.int .u8 (.ofNat 254))))] 1 1)),
 o 2 d25 (.e (.app s23 s24 1 1 false)),
 o 3 d26 (.q (.mv s1)),
 o 4 d27 (.call p133 [s25, s26, (.v (.int .i64 (.ofNat 4)))]),
 o 5 d4 (.q (.mv s27))])
 .ret) .skip))))))))
 (.seq (.reg [o 0 d28 (.q (.mv s0)),
 o 1 d29 (.e (.bsl [(.int .u8 (.ofNat 0))] [(0, 1, (.v (.int .u8 (.ofNat 255))))] 1 1)),
 o 2 d30 (.e (.app s28 s29 1 1 false)),
 o 3 d31 (.q (.mv s1)),
 o 4 d32 (.call p133 [s30, s31, (.v (.int .i64 (.ofNat 8)))]),
 o 5 d4 (.q (.mv s32))])
 .ret)))
 [.t p4]

noncomputable def f79 : FnE := .code 9
 (.seq (.reg [o 0 d4 (.q (.mv (.v .nils)))])
 (.seq (.reg [o 0 d5 (.q (.mv s0)),
 o 1 d6 (.q (.mv s1)),
 o 2 d7 (.q (.cvi .u64 s6)),
 o 3 d8 (.call p133 [s5, s7, (.v (.int .i64 (.ofNat 4)))]),
 o 4 d4 (.q (.mv s8))])
 .ret))
 [.t p4]

noncomputable def f80 : FnE := .code 8
 (.seq (.reg [o 0 d4 (.q (.mv (.v .nils)))])
 (.seq (.reg [o 0 d5 (.q (.mv s0)),
 o 1 d6 (.q (.mv s1)),
 o 2 d7 (.call p133 [s5, s6, (.v (.int .i64 (.ofNat 8)))]),
 o 3 d4 (.q (.mv s7))])
 .ret))
 [.t p4]

noncomputable def f85 : FnE := .code 8
 (.seq (.reg [o 0 d2 (.q (.mv (.v .nils)))])
 (.seq (.seq (.reg [o 0 d3 (.q (.mv s0)),
 o 1 d4 (.q (.eqp .slice false s3 (.v .nils)))])
 (.cnd s4 (.seq (.reg [o 0 d2 (.q (.mv (.v .nils)))])
 .ret) .skip))
 (.seq (.reg [o 0 d5 (.e (.bsl [] [] 0 1)),
 o 1 d6 (.q (.mv s0)),
 o 2 d7 (.e (.app s5 s6 1 1 false)),
 o 3 d2 (.q (.mv s7))])
 .ret)))
 [.t p2]

noncomputable def f105 : FnE := .code 2
 (.seq (.reg [o 0 d0 (.e (.alo (lapp (zz (.int .u8 (.ofNat 0)) 32) [(.int .u32 (.ofNat 0))])))])
 (.seq (.reg [o 0 d1 (.q (.bld (lapp (zz (.int .u8 (.ofNat 0)) 32) [(.int .u32 (.ofNat 0))]) [(32, 1, (.v (.int .u32 (.ofNat 4294967295))))])),
 o 1 none (.e (.st s0 s1 33))])
 .ret))
 [.cn p0 33]

noncomputable def f116 : FnE := .code 20
 (.seq (.reg [o 0 d1 (.e (.box s0 4)),
 o 1 d2 (.q (.mv (.v .nils)))])
 (.seq (.reg [o 0 d3 (.q (.mv (.v .nils)))])
 (.seq (.seq (.reg [o 0 d6 (.q (.fadr s1 2)),
 o 1 d7 (.q (.ld1 s6)),
 o 2 d8 (.q (.lenv s7)),
 o 3 d9 (.q (.mv (.v (.int .i64 (.ofNat 0)))))])
 (.blk 0 (.loop (.seq (.reg [o 0 d10 (.q (.bin .lss s9 s8))])
 (.seq (.cnd s10 .skip (.exit 0))
 (.seq (.blk 1 (.seq (.reg [o 0 d11 (.q (.iadr s7 s9 33)),
 o 1 d12 (.q (.ldn s11 33)),
 o 2 d5 (.e (.alo (lapp [(.int .u64 (.ofNat 0))] (zz (.int .u8 (.ofNat 0)) 32)))),
 o 3 none (.e (.st s5 s12 33))])
 (.reg [o 0 d13 (.q (.mv s3)),
 o 1 d14 (.q (.fadr s5 0)),
 o 2 d15 (.q (.ld1 s14)),
 o 3 d16 (.e (.bsl [(.int .u64 (.ofNat 0))] [(0, 1, s15)] 1 1)),
 o 4 d17 (.e (.app s13 s16 1 8 false)),
 o 5 d3 (.q (.mv s17))])))
 (.reg [o 0 d18 (.q (.bin .add s9 (.v (.int .i64 (.ofNat 1))))),
 o 1 d9 (.q (.mv s18))])))))))
 (.seq (.reg [o 0 d19 (.q (.mv s3)),
 o 1 d2 (.q (.mv s19))])
 .ret))))
 [.t p2]

noncomputable def f120 : FnE := .code 15
 (.seq (.reg [o 0 d2 (.e (.alo (zz (.int .u8 (.ofNat 0)) 32)))])
 (.seq (.seq (.reg [o 0 d3 (.q (.mv s0)),
 o 1 d4 (.q (.lenv s3)),
 o 2 d5 (.q (.bin .eql s4 (.v (.int .i64 (.ofNat 0)))))])
 (.cnd s5 (.seq (.reg [o 0 d6 (.q (.bld (zz (.int .u8 (.ofNat 0)) 32) [])),
 o 1 none (.e (.st s2 s6 32))])
 .ret) .skip))
 (.seq (.blk 0 (.loop (.seq (.seq (.reg [o 0 d7 (.q (.mv s0)),
 o 1 d8 (.q (.lenv s7)),
 o 2 d9 (.q (.bin .gtr s8 (.v (.int .i64 (.ofNat 1)))))])
 (.cnd s9 .skip (.exit 0)))
 (.blk 1 (.reg [o 0 d10 (.q (.mv s0)),
 o 1 d11 (.call p167 [s10]),
 o 2 d0 (.q (.mv s11))])))))
 (.seq (.reg [o 0 d12 (.q (.mv s0)),
 o 1 d13 (.q (.iadr s12 (.v (.int .i64 (.ofNat 0))) 32)),
 o 2 d14 (.q (.ldn s13 32)),
 o 3 none (.e (.st s2 s14 32))])
 .ret))))
 [.cn p2 32]

noncomputable def f121 : FnE := .code 20
 (.seq (.reg [o 0 d2 (.q (.mv (.v .nils)))])
 (.seq (.reg [o 0 d3 (.q (.mv (.v .nils)))])
 (.seq (.seq (.reg [o 0 d4 (.q (.mv (.v (.int .i64 (.ofNat 0)))))])
 (.blk 0 (.loop (.seq (.seq (.reg [o 0 d5 (.q (.mv s4)),
 o 1 d6 (.q (.mv s0)),
 o 2 d7 (.q (.lenv s6)),
 o 3 d8 (.q (.bin .lss s5 s7))])
 (.cnd s8 .skip (.exit 0)))
 (.seq (.blk 1 (.reg [o 0 d11 (.q (.mv s3)),
 o 1 d12 (.q (.mv s0)),
 o 2 d13 (.q (.mv s4)),
 o 3 d14 (.q (.iadr s12 s13 4)),
 o 4 d15 (.q (.ldn s14 4)),
 o 5 d16 (.call p15 [s15]),
 o 6 d17 (.e (.bsl (zz (.int .u8 (.ofNat 0)) 32) [(0, 32, s16)] 1 32)),
 o 7 d18 (.e (.app s11 s17 32 32 false)),
 o 8 d3 (.q (.mv s18))]))
 (.reg [o 0 d9 (.q (.mv s4)),
 o 1 d10 (.q (.bin .add s9 (.v (.int .i64 (.ofNat 1))))),
 o 2 d4 (.q (.mv s10))]))))))
 (.seq (.reg [o 0 d19 (.q (.mv s3)),
 o 1 d2 (.q (.mv s19))])
 .ret))))
 [.t p2]

noncomputable def f122 : FnE := .code 5
 (.seq (.reg [o 0 d2 (.e (.alo (zz (.int .u8 (.ofNat 0)) 32)))])
 (.seq (.reg [o 0 d3 (.q (.mv s0)),
 o 1 d4 (.call p134 [s3]),
 o 2 none (.e (.st s2 s4 32))])
 .ret))
 [.cn p2 32]

noncomputable def f125 : FnE := .code 20
 (.seq (.reg [o 0 d2 (.q (.mv (.v (.int .i64 (.ofNat 0)))))])
 (.seq (.reg [o 0 d5 (.call p60 []),
 o 1 d3 (.q (.mv s5))])
 (.seq (.seq (.reg [o 0 d4 (.q (.mv (.v (.int .i64 (.ofNat 0)))))])
 (.blk 0 (.loop (.seq (.seq (.reg [o 0 d6 (.q (.mv s4)),
 o 1 d7 (.q (.mv s3)),
 o 2 d8 (.q (.lenv s7)),
 o 3 d9 (.q (.bin .lss s6 s8))])
 (.cnd s9 .skip (.exit 0)))
 (.seq (.blk 1 (.seq (.reg [o 0 d12 (.q (.mv s0)),
 o 1 d13 (.q (.mv s3)),
 o 2 d14 (.q (.mv s4)),
 o 3 d15 (.q (.iadr s13 s14 1)),
 o 4 d16 (.q (.ld1 s15)),
 o 5 d17 (.call p168 [s12, s16])])
 (.cnd s17 (.seq (.reg [o 0 d18 (.q (.mv s4)),
 o 1 d19 (.q (.bin .add (.v (.int .i64 (.ofNat 101))) s18)),
 o 2 d2 (.q (.mv s19))])
 .ret) .skip)))
 (.reg [o 0 d10 (.q (.mv s4)),
 o 1 d11 (.q (.bin .add s10 (.v (.int .i64 (.ofNat 1))))),
 o 2 d4 (.q (.mv s11))]))))))
 (.seq (.reg [o 0 d2 (.q (.mv (.v (.int .i64 (.negSucc 0)))))])
 .ret))))
 [.t p2]

noncomputable def f132 : FnE := .code 12
 (.seq (.reg [o 0 d2 (.q (.mv (.v (.int .i64 (.ofNat 0)))))])
 (.seq (.blk 0 (.seq (.reg [o 0 d4 (.q (.mv s0)),
 o 1 d5 (.q (.bin .lss s4 (.v (.int .u64 (.ofNat 253))))),
 o 2 d3 (.q (.mv s5))])
 (.cnd s3 (.seq (.reg [o 0 d2 (.q (.mv (.v (.int .i64 (.ofNat 1)))))])
 .ret) (.seq (.reg [o 0 d7 (.q (.mv s0)),
 o 1 d8 (.q (.bin .lss s7 (.v (.int .u64 (.ofNat 65536))))),
 o 2 d6 (.q (.mv s8))])
 (.cnd s6 (.seq (.reg [o 0 d2 (.q (.mv (.v (.int .i64 (.ofNat 3)))))])
 .ret) (.seq (.reg [o 0 d10 (.q (.mv s0)),
 o 1 d11 (.q (.bin .lss s10 (.v (.int .u64 (.ofNat 4294967296))))),
 o 2 d9 (.q (.mv s11))])
 (.cnd s9 (.seq (.reg [o 0 d2 (.q (.mv (.v (.int .i64 (.ofNat 5)))))])
 .ret) .skip)))))))
 (.seq (.reg [o 0 d2 (.q (.mv (.v (.int .i64 (.ofNat 9)))))])
 .ret)))
 [.t p2]

noncomputable def f133 : FnE := .code 23
 (.seq (.reg [o 0 d6 (.q (.mv (.v .nils)))])
 (.seq (.seq (.reg [o 0 d7 (.q (.mv (.v (.int .i64 (.ofNat 0)))))])
 (.blk 0 (.loop (.seq (.seq (.reg [o 0 d8 (.q (.mv s7)),
 o 1 d9 (.q (.mv s2)),
 o 2 d10 (.q (.bin .lss s8 s9))])
 (.cnd s10 .skip (.exit 0)))
 (.seq (.blk 1 (.reg [o 0 d13 (.q (.mv s0)),
 o 1 d14 (.q (.mv s1)),
 o 2 d15 (.q (.mv s7)),
 o 3 d16 (.q (.bin .mul (.v (.int .i64 (.ofNat 8))) s15)),
 o 4 d17 (.q (.cvi .u64 s16)),
 o 5 d18 (.q (.shf false s14 s17)),
 o 6 d19 (.q (.cvi .u8 s18)),
 o 7 d20 (.e (.bsl [(.int .u8 (.ofNat 0))] [(0, 1, s19)] 1 1)),
 o 8 d21 (.e (.app s13 s20 1 1 false)),
 o 9 d0 (.q (.mv s21))]))
 (.reg [o 0 d11 (.q (.mv s7)),
 o 1 d12 (.q (.bin .add s11 (.v (.int .i64 (.ofNat 1))))),
 o 2 d7 (.q (.mv s12))]))))))
 (.seq (.reg [o 0 d22 (.q (.mv s0)),
 o 1 d6 (.q (.mv s22))])
 .ret)))
 [.t p6]

noncomputable def f134 : FnE := .code 7
 (.seq (.reg [o 0 d2 (.e (.alo (zz (.int .u8 (.ofNat 0)) 32)))])
 (.seq (.reg [o 0 d3 (.e (.alo [(.int .u32 (.ofNat 0)), (.int .u32 (.ofNat 0)), (.int .u32 (.ofNat 0)), (.int .u32 (.ofNat 0)), (.int .u32 (.ofNat 0)), (.int .u32 (.ofNat 0)), (.int .u32 (.ofNat 0)), (.int .u32 (.ofNat 0)), .nils, (.int .i64 (.ofNat 0))]))])
 (.seq (.reg [o 0 d4 (.q (.mv s0)),
 o 1 d5 (.call p169 [s3, s4])])
 (.seq (.reg [o 0 d6 (.call p170 [s3]),
 o 1 none (.e (.st s2 s6 32))])
 .ret))))
 [.cn p2 32]

noncomputable def f168 : FnE := .code 20
 (.seq (.reg [o 0 d4 (.q (.mv (.v (.bool false))))])
 (.seq (.seq (.reg [o 0 d5 (.q (.mv s0)),
 o 1 d6 (.q (.eqp (.iface true) false s5 (.v .nili))),
 o 2 d7 (.q (.mv s6)),
 ⟨3, d8, (.q (.mv s1)), (some (p7, false)), []⟩,
 ⟨4, d9, (.q (.eqp (.iface true) false s8 (.v .nili))), (some (p7, false)), []⟩,
 o 5 d10 (.q (.pick s7 (.v (.bool true)) s9))])
 (.cnd s10 (.seq (.reg [o 0 d11 (.q (.mv s0)),
 o 1 d12 (.q (.eqp (.iface true) false s11 (.v .nili))),
 o 2 d13 (.q (.mv s12)),
 ⟨3, d14, (.q (.mv s1)), (some (p13, true)), []⟩,
 ⟨4, d15, (.q (.eqp (.iface true) false s14 (.v .nili))), (some (p13, true)), []⟩,
 o 5 d16 (.q (.pick s13 s15 (.v (.bool false)))),
 o 6 d4 (.q (.mv s16))])
 .ret) .skip))
 (.seq (.reg [o 0 d17 (.q (.mv s0)),
 o 1 d18 (.q (.mv s1)),
 o 2 d19 (.q (.eqp (.iface false) false s17 s18)),
 o 3 d4 (.q (.mv s19))])
 .ret)))
 [.t p4]

noncomputable def f169 : FnE := .code 60
 (.seq (.reg [o 0 d6 (.q (.mv s0)),
 o 1 d7 (.call p192 [s6]),
 o 2 d4 (.e (.alo (zz (.int .u32 (.ofNat 0)) 8))),
 o 3 none (.e (.st s4 s7 8))])
 (.seq (.reg [o 0 d8 (.q (.mv s0)),
 o 1 d9 (.q (.nck s8)),
 o 2 d10 (.q (.fadr s9 9)),
 o 3 d11 (.q (.ld1 s10)),
 o 4 d12 (.q (.mv s1)),
 o 5 d13 (.q (.lenv s12)),
 o 6 d14 (.q (.bin .add s11 s13)),
 o 7 d15 (.q (.nck s8)),
 o 8 d16 (.q (.fadr s15 9)),
 o 9 none (.e (.st s16 s14 1))])
 (.seq (.reg [o 0 d17 (.q (.mv s0)),
 o 1 d18 (.q (.mv s0)),
 o 2 d19 (.q (.nck s18)),
 o 3 d20 (.q (.fadr s19 8)),
 o 4 d21 (.q (.ld1 s20)),
 o 5 d22 (.q (.mv s1)),
 o 6 d23 (.e (.app s21 s22 1 1 false)),
 o 7 d24 (.q (.nck s17)),
 o 8 d25 (.q (.fadr s24 8)),
 o 9 none (.e (.st s25 s23 1))])
 (.seq (.reg [o 0 d5 (.q (.mv (.v (.int .i64 (.ofNat 0)))))])
 (.seq (.blk 0 (.loop (.seq (.seq (.reg [o 0 d26 (.q (.mv s5)),
 o 1 d27 (.q (.bin .add s26 (.v (.int .i64 (.ofNat 64))))),
 o 2 d28 (.q (.mv s0)),
 o 3 d29 (.q (.nck s28)),
 o 4 d30 (.q (.fadr s29 8)),
 o 5 d31 (.q (.ld1 s30)),
 o 6 d32 (.q (.lenv s31)),
 o 7 d33 (.q (.bin .leq s27 s32))])
 (.cnd s33 .skip (.exit 0)))
 (.seq (.blk 1 (.rgd 0 [o 0 d36 (.q (.ldn s4 8)),
 o 1 d37 (.q (.mv s0)),
 o 2 d38 (.q (.nck s37)),
 o 3 d39 (.q (.fadr s38 8)),
 o 4 d40 (.q (.ld1 s39)),
 o 5 d41 (.q (.mv s5)),
 o 6 d42 (.q (.mv s5)),
 o 7 d43 (.q (.bin .add s42 (.v (.int .i64 (.ofNat 64))))),
 o 8 d44 (.q (.slc s40 (some s41) (some s43) 1)),
 o 9 d45 (.call p193 [s36, s44]),
 o 10 none (.e (.st s4 s45 8))]))
 (.reg [o 0 d34 (.q (.mv s5)),
 o 1 d35 (.q (.bin .add s34 (.v (.int .i64 (.ofNat 64))))),
 o 2 d5 (.q (.mv s35))])))))
 (.rgd 0 [o 0 d46 (.q (.mv s0)),
 o 1 d47 (.q (.mv s0)),
 o 2 d48 (.q (.ldn s4 8)),
 o 3 d49 (.q (.mv s0)),
 o 4 d50 (.q (.nck s49)),
 o 5 d51 (.q (.fadr s50 8)),
 o 6 d52 (.q (.ld1 s51)),
 o 7 d53 (.q (.mv s5)),
 o 8 d54 (.q (.slc s52 (some s53) none 1)),
 ⟨9, d55, (.call p85 [s54]), none, [(p48, .ldn s4 8, none)]⟩,
 o 10 d56 (.q (.nck s46)),
 o 11 d57 (.q (.fadr s56 0)),
 o 12 none (.e (.st s57 s48 8)),
 o 13 d58 (.q (.nck s47)),
 o 14 d59 (.q (.fadr s58 8)),
 o 15 none (.e (.st s59 s55 1))]))))))
 []

noncomputable def f170 : FnE := .code 79
 (.seq (.reg [o 0 d2 (.e (.alo (zz (.int .u8 (.ofNat 0)) 32)))])
 (.seq (.reg [o 0 d11 (.q (.mv s0)),
 o 1 d12 (.q (.nck s11)),
 o 2 d13 (.q (.fadr s12 8)),
 o 3 d14 (.q (.ld1 s13)),
 o 4 d15 (.call p85 [s14]),
 o 5 d16 (.e (.bsl [(.int .u8 (.ofNat 0))] [(0, 1, (.v (.int .u8 (.ofNat 128))))] 1 1)),
 o 6 d17 (.e (.app s15 s16 1 1 false)),
 o 7 d3 (.q (.mv s17))])
 (.seq (.blk 0 (.loop (.seq (.seq (.reg [o 0 d18 (.q (.mv s3)),
 o 1 d19 (.q (.lenv s18)),
 o 2 d20 (.q (.bin .rem s19 (.v (.int .i64 (.ofNat 64))))),
 o 3 d21 (.q (.bin .neq s20 (.v (.int .i64 (.ofNat 56)))))])
 (.cnd s21 .skip (.exit 0)))
 (.blk 1 (.reg [o 0 d22 (.q (.mv s3)),
 o 1 d23 (.e (.bsl [(.int .u8 (.ofNat 0))] [(0, 1, (.v (.int .u8 (.ofNat 0))))] 1 1)),
 o 2 d24 (.e (.app s22 s23 1 1 false)),
 o 3 d3 (.q (.mv s24))])))))
 (.seq (.seq (.reg [o 0 d4 (.q (.mv (.v (.int .i64 (.ofNat 7)))))])
 (.blk 2 (.loop (.seq (.seq (.reg [o 0 d25 (.q (.mv s4)),
 o 1 d26 (.q (.bin .geq s25 (.v (.int .i64 (.ofNat 0)))))])
 (.cnd s26 .skip (.exit 2)))
 (.seq (.blk 3 (.reg [o 0 d29 (.q (.mv s3)),
 o 1 d30 (.q (.mv s0)),
 o 2 d31 (.q (.nck s30)),
 o 3 d32 (.q (.fadr s31 9)),
 o 4 d33 (.q (.ld1 s32)),
 o 5 d34 (.q (.cvi .u64 s33)),
 o 6 d35 (.q (.shf true s34 (.v (.int .u64 (.ofNat 3))))),
 o 7 d36 (.q (.mv s4)),
 o 8 d37 (.q (.bin .mul (.v (.int .i64 (.ofNat 8))) s36)),
 o 9 d38 (.q (.shf false s35 s37)),
 o 10 d39 (.q (.cvi .u8 s38)),
 o 11 d40 (.e (.bsl [(.int .u8 (.ofNat 0))] [(0, 1, s39)] 1 1)),
 o 12 d41 (.e (.app s29 s40 1 1 false)),
 o 13 d3 (.q (.mv s41))]))
 (.reg [o 0 d27 (.q (.mv s4)),
 o 1 d28 (.q (.bin .sub s27 (.v (.int .i64 (.ofNat 1))))),
 o 2 d4 (.q (.mv s28))]))))))
 (.seq (.reg [o 0 d42 (.q (.mv s0)),
 o 1 d43 (.call p192 [s42]),
 o 2 d5 (.e (.alo (zz (.int .u32 (.ofNat 0)) 8))),
 o 3 none (.e (.st s5 s43 8))])
 (.seq (.seq (.reg [o 0 d6 (.q (.mv (.v (.int .i64 (.ofNat 0)))))])
 (.blk 4 (.loop (.seq (.seq (.reg [o 0 d44 (.q (.mv s6)),
 o 1 d45 (.q (.mv s3)),
 o 2 d46 (.q (.lenv s45)),
 o 3 d47 (.q (.bin .lss s44 s46))])
 (.cnd s47 .skip (.exit 4)))
 (.seq (.blk 5 (.rgd 0 [o 0 d50 (.q (.ldn s5 8)),
 o 1 d51 (.q (.mv s3)),
 o 2 d52 (.q (.mv s6)),
 o 3 d53 (.q (.mv s6)),
 o 4 d54 (.q (.bin .add s53 (.v (.int .i64 (.ofNat 64))))),
 o 5 d55 (.q (.slc s51 (some s52) (some s54) 1)),
 o 6 d56 (.call p193 [s50, s55]),
 o 7 none (.e (.st s5 s56 8))]))
 (.reg [o 0 d48 (.q (.mv s6)),
 o 1 d49 (.q (.bin .add s48 (.v (.int .i64 (.ofNat 64))))),
 o 2 d6 (.q (.mv s49))]))))))
 (.seq (.reg [o 0 d7 (.e (.alo (zz (.int .u8 (.ofNat 0)) 32)))])
 (.seq (.seq (.reg [o 0 d57 (.q (.ldn s5 8)),
 o 1 d58 (.q (.mv (.v (.int .i64 (.ofNat 0)))))])
 (.blk 6 (.loop (.seq (.reg [o 0 d59 (.q (.bin .lss s58 (.v (.int .i64 (.ofNat 8)))))])
 (.seq (.cnd s59 .skip (.exit 6))
 (.seq (.blk 7 (.seq (.reg [o 0 d60 (.q (.mv s58)),
 o 1 d61 (.q (.idxa s57 s58 1 8 false)),
 o 2 d8 (.q (.mv s60)),
 o 3 d9 (.q (.mv s61))])
 (.seq (.reg [o 0 d62 (.q (.mv (.v (.int .i64 (.ofNat 0)))))])
 (.blk 8 (.loop (.seq (.reg [o 0 d63 (.q (.bin .lss s62 (.v (.int .i64 (.ofNat 4)))))])
 (.seq (.cnd s63 .skip (.exit 8))
 (.seq (.blk 9 (.seq (.reg [o 0 d64 (.q (.mv s62)),
 o 1 d10 (.q (.mv s64))])
 (.reg [o 0 d65 (.q (.mv s8)),
 o 1 d66 (.q (.bin .mul (.v (.int .i64 (.ofNat 4))) s65)),
 o 2 d67 (.q (.mv s10)),
 o 3 d68 (.q (.bin .add s66 s67)),
 o 4 d69 (.q (.mv s9)),
 o 5 d70 (.q (.mv s10)),
 o 6 d71 (.q (.bin .mul (.v (.int .i64 (.ofNat 8))) s70)),
 o 7 d72 (.q (.bin .sub (.v (.int .i64 (.ofNat 24))) s71)),
 o 8 d73 (.q (.shf false s69 s72)),
 o 9 d74 (.q (.cvi .u8 s73)),
 o 10 d75 (.q (.iada s7 s68 1 32)),
 o 11 none (.e (.st s75 s74 1))])))
 (.reg [o 0 d76 (.q (.bin .add s62 (.v (.int .i64 (.ofNat 1))))),
 o 1 d62 (.q (.mv s76))])))))))))
 (.reg [o 0 d77 (.q (.bin .add s58 (.v (.int .i64 (.ofNat 1))))),
 o 1 d58 (.q (.mv s77))])))))))
 (.seq (.reg [o 0 d78 (.q (.ldn s7 32)),
 o 1 none (.e (.st s2 s78 32))])
 .ret)))))))))
 [.cn p2 32]

noncomputable def f190 : FnE := .code 19
 (.seq (.reg [o 0 d3 (.e (.box s1 33)),
 o 1 d4 (.e (.alo (lapp [(.int .u64 (.ofNat 0))] (lapp (zz (.int .u8 (.ofNat 0)) 32) [(.int .i64 (.ofNat 0)), (.bool false)])))),
 o 2 d5 (.q (.mv (.v (.bool false))))])
 (.seq (.rgd 0 [o 0 d9 (.q (.mv s0)),
 o 1 d10 (.q (.nck s9)),
 o 2 d11 (.q (.fadr s10 0)),
 o 3 d12 (.q (.ld1 s11)),
 o 4 d13 (.q (.ldn s3 33)),
 o 5 d14 (.q (.lkp s12 s13 (.cells [.u8, .u8, .u8, .u8, .u8, .u8, .u8, .u8, .u8, .u8, .u8, .u8, .u8, .u8, .u8, .u8, .u8, .u8, .u8, .u8, .u8, .u8, .u8, .u8, .u8, .u8, .u8, .u8, .u8, .u8, .u8, .u8, .u32]) (.agg (lapp [(.int .u64 (.ofNat 0))] (lapp (zz (.int .u8 (.ofNat 0)) 32) [(.int .i64 (.ofNat 0)), (.bool false)]))) true)),
 o 6 d8 (.q (.mv s14)),
 o 7 d15 (.q (.ext s8 0)),
 o 8 d16 (.q (.ext s8 1)),
 ⟨9, d6, (.e (.alo (lapp [(.int .u64 (.ofNat 0))] (lapp (zz (.int .u8 (.ofNat 0)) 32) [(.int .i64 (.ofNat 0)), (.bool false)])))), none, [(p12, .ld1 s11, none), (p13, .ldn s3 33, none), (p14, .lkp s12 s13 (.cells [.u8, .u8, .u8, .u8, .u8, .u8, .u8, .u8, .u8, .u8, .u8, .u8, .u8, .u8, .u8, .u8, .u8, .u8, .u8, .u8, .u8, .u8, .u8, .u8, .u8, .u8, .u8, .u8, .u8, .u8, .u8, .u8, .u32]) (.agg (lapp [(.int .u64 (.ofNat 0))] (lapp (zz (.int .u8 (.ofNat 0)) 32) [(.int .i64 (.ofNat 0)), (.bool false)]))) true, none)]⟩,
 o 10 none (.e (.st s6 s15 35)),
 o 11 d7 (.q (.mv s16))])
 (.seq (.reg [o 0 d17 (.q (.ldn s6 35)),
 o 1 d18 (.q (.mv s7)),
 o 2 none (.e (.st s4 s17 35)),
 o 3 d5 (.q (.mv s18))])
 .ret)))
 [.cn p4 35, .t p5]

noncomputable def f192 : FnE := .code 13
 (.seq (.reg [o 0 d2 (.e (.alo (zz (.int .u32 (.ofNat 0)) 8)))])
 (.seq (.seq (.reg [o 0 d3 (.q (.mv s0)),
 o 1 d4 (.q (.nck s3)),
 o 2 d5 (.q (.fadr s4 9)),
 o 3 d6 (.q (.ld1 s5)),
 o 4 d7 (.q (.bin .lss s6 (.v (.int .i64 (.ofNat 64)))))])
 (.cnd s7 (.seq (.reg [o 0 d8 (.call p208 []),
 o 1 none (.e (.st s2 s8 8))])
 .ret) .skip))
 (.seq (.reg [o 0 d9 (.q (.mv s0)),
 o 1 d10 (.q (.nck s9)),
 o 2 d11 (.q (.fadr s10 0)),
 o 3 d12 (.q (.ldn s11 8)),
 o 4 none (.e (.st s2 s12 8))])
 .ret)))
 [.cn p2 8]

noncomputable def f193 : FnE := .code 111
 (.seq (.reg [o 0 d2 (.e (.box s0 8)),
 o 1 d4 (.e (.alo (zz (.int .u32 (.ofNat 0)) 8)))])
 (.seq (.reg [o 0 d14 (.q (.mv s1)),
 o 1 d15 (.call p209 [s14]),
 o 2 d16 (.call p210 []),
 o 3 d5 (.e (.alo (zz (.int .u32 (.ofNat 0)) 64))),
 o 4 d6 (.e (.alo (zz (.int .u32 (.ofNat 0)) 64))),
 o 5 none (.e (.st s5 s15 64)),
 o 6 none (.e (.st s6 s16 64))])
 (.seq (.reg [o 0 d17 (.q (.ldn s2 8)),
 o 1 d7 (.e (.alo (zz (.int .u32 (.ofNat 0)) 8))),
 o 2 none (.e (.st s7 s17 8))])
 (.seq (.seq (.reg [o 0 d18 (.q (.mv (.v (.int .i64 (.ofNat 0)))))])
 (.blk 0 (.loop (.seq (.reg [o 0 d19 (.q (.bin .lss s18 (.v (.int .i64 (.ofNat 64)))))])
 (.seq (.cnd s19 .skip (.exit 0))
 (.seq (.blk 1 (.seq (.reg [o 0 d20 (.q (.mv s18)),
 o 1 d8 (.q (.mv s20))])
 (.seq (.rgd 0 [o 0 d21 (.q (.iada s7 (.v (.int .i64 (.ofNat 0))) 1 8)),
 o 1 d22 (.q (.ld1 s21)),
 o 2 d23 (.q (.iada s7 (.v (.int .i64 (.ofNat 4))) 1 8)),
 o 3 d24 (.q (.ld1 s23)),
 o 4 d9 (.q (.mv s22)),
 o 5 d10 (.q (.mv s24))])
 (.seq (.rgd 0 [o 0 d25 (.q (.iada s7 (.v (.int .i64 (.ofNat 7))) 1 8)),
 o 1 d26 (.q (.ld1 s25)),
 o 2 d27 (.q (.mv s10)),
 o 4 d29 (.q (.mv s10)),
 o 7 d32 (.q (.mv s10)),
 o 11 d36 (.q (.mv s10)),
 o 12 d37 (.q (.iada s7 (.v (.int .i64 (.ofNat 5))) 1 8)),
 o 13 d38 (.q (.ld1 s37)),
 o 14 d39 (.q (.bin .and s36 s38)),
 o 15 d40 (.q (.mv s10)),
 o 16 d41 (.q (.inv s40)),
 o 17 d42 (.q (.iada s7 (.v (.int .i64 (.ofNat 6))) 1 8)),
 o 18 d43 (.q (.ld1 s42)),
 o 19 d44 (.q (.bin .and s41 s43)),
 o 20 d45 (.q (.bin .xor s39 s44)),
 o 22 d47 (.q (.mv s8)),
 o 23 d48 (.q (.iada s6 s47 1 64)),
 o 24 d49 (.q (.ld1 s48)),
 o 26 d51 (.q (.mv s8)),
 o 27 d52 (.q (.iada s5 s51 1 64)),
 o 28 d53 (.q (.ld1 s52)),
 ⟨3, d28, (.call p211 [s27, (.v (.int .i64 (.ofNat 6)))]), none, [(p26, .ld1 s25, none), (p38, .ld1 s37, none), (p43, .ld1 s42, none), (p49, .ld1 s48, none), (p53, .ld1 s52, none)]⟩,
 ⟨5, d30, (.call p211 [s29, (.v (.int .i64 (.ofNat 11)))]), none, [(p26, .ld1 s25, none), (p38, .ld1 s37, none), (p43, .ld1 s42, none), (p49, .ld1 s48, none), (p53, .ld1 s52, none)]⟩,
 o 6 d31 (.q (.bin .xor s28 s30)),
 ⟨8, d33, (.call p211 [s32, (.v (.int .i64 (.ofNat 25)))]), none, [(p26, .ld1 s25, none), (p38, .ld1 s37, none), (p43, .ld1 s42, none), (p49, .ld1 s48, none), (p53, .ld1 s52, none)]⟩,
 o 9 d34 (.q (.bin .xor s31 s33)),
 o 10 d35 (.q (.bin .add s26 s34)),
 o 21 d46 (.q (.bin .add s35 s45)),
 o 25 d50 (.q (.bin .add s46 s49)),
 o 29 d54 (.q (.bin .add s50 s53)),
 o 30 d11 (.q (.mv s54))])
 (.seq (.rgd 0 [o 0 d55 (.q (.mv s9)),
 o 2 d57 (.q (.mv s9)),
 o 5 d60 (.q (.mv s9)),
 o 8 d63 (.q (.mv s9)),
 o 9 d64 (.q (.iada s7 (.v (.int .i64 (.ofNat 1))) 1 8)),
 o 10 d65 (.q (.ld1 s64)),
 o 11 d66 (.q (.bin .and s63 s65)),
 o 12 d67 (.q (.mv s9)),
 o 13 d68 (.q (.iada s7 (.v (.int .i64 (.ofNat 2))) 1 8)),
 o 14 d69 (.q (.ld1 s68)),
 o 15 d70 (.q (.bin .and s67 s69)),
 o 16 d71 (.q (.bin .xor s66 s70)),
 o 17 d72 (.q (.iada s7 (.v (.int .i64 (.ofNat 1))) 1 8)),
 o 18 d73 (.q (.ld1 s72)),
 o 19 d74 (.q (.iada s7 (.v (.int .i64 (.ofNat 2))) 1 8)),
 o 20 d75 (.q (.ld1 s74)),
 o 21 d76 (.q (.bin .and s73 s75)),
 o 22 d77 (.q (.bin .xor s71 s76)),
 ⟨1, d56, (.call p211 [s55, (.v (.int .i64 (.ofNat 2)))]), none, [(p65, .ld1 s64, none), (p69, .ld1 s68, none), (p73, .ld1 s72, none), (p75, .ld1 s74, none)]⟩,
 ⟨3, d58, (.call p211 [s57, (.v (.int .i64 (.ofNat 13)))]), none, [(p65, .ld1 s64, none), (p69, .ld1 s68, none), (p73, .ld1 s72, none), (p75, .ld1 s74, none)]⟩,
 o 4 d59 (.q (.bin .xor s56 s58)),
 ⟨6, d61, (.call p211 [s60, (.v (.int .i64 (.ofNat 22)))]), none, [(p65, .ld1 s64, none), (p69, .ld1 s68, none), (p73, .ld1 s72, none), (p75, .ld1 s74, none)]⟩,
 o 7 d62 (.q (.bin .xor s59 s61)),
 o 23 d78 (.q (.bin .add s62 s77)),
 o 24 d12 (.q (.mv s78))])
 (.reg [o 0 d79 (.q (.mv s11)),
 o 1 d80 (.q (.mv s12)),
 o 2 d81 (.q (.bin .add s79 s80)),
 o 3 d82 (.q (.mv s9)),
 o 4 d83 (.q (.iada s7 (.v (.int .i64 (.ofNat 1))) 1 8)),
 o 5 d84 (.q (.ld1 s83)),
 o 6 d85 (.q (.iada s7 (.v (.int .i64 (.ofNat 2))) 1 8)),
 o 7 d86 (.q (.ld1 s85)),
 o 8 d87 (.q (.iada s7 (.v (.int .i64 (.ofNat 3))) 1 8)),
 o 9 d88 (.q (.ld1 s87)),
 o 10 d89 (.q (.mv s11)),
 o 11 d90 (.q (.bin .add s88 s89)),
 o 12 d91 (.q (.mv s10)),
 o 13 d92 (.q (.iada s7 (.v (.int .i64 (.ofNat 5))) 1 8)),
 o 14 d93 (.q (.ld1 s92)),
 o 15 d94 (.q (.iada s7 (.v (.int .i64 (.ofNat 6))) 1 8)),
 o 16 d95 (.q (.ld1 s94)),
 o 17 d96 (.q (.bld (zz (.int .u32 (.ofNat 0)) 8) [(0, 1, s81), (1, 1, s82), (2, 1, s84), (3, 1, s86), (4, 1, s90), (5, 1, s91), (6, 1, s93), (7, 1, s95)])),
 o 18 none (.e (.st s7 s96 8))]))))))
 (.reg [o 0 d97 (.q (.bin .add s18 (.v (.int .i64 (.ofNat 1))))),
 o 1 d18 (.q (.mv s97))])))))))
 (.seq (.seq (.reg [o 0 d98 (.q (.mv (.v (.int .i64 (.ofNat 0)))))])
 (.blk 2 (.loop (.seq (.reg [o 0 d99 (.q (.bin .lss s98 (.v (.int .i64 (.ofNat 8)))))])
 (.seq (.cnd s99 .skip (.exit 2))
 (.seq (.blk 3 (.seq (.reg [o 0 d100 (.q (.mv s98)),
 o 1 d13 (.q (.mv s100))])
 (.rgd 0 [o 0 d101 (.q (.mv s13)),
 o 1 d102 (.q (.iada s2 s101 1 8)),
 o 2 d103 (.q (.ld1 s102)),
 o 3 d104 (.q (.mv s13)),
 o 4 d105 (.q (.iada s7 s104 1 8)),
 o 5 d106 (.q (.ld1 s105)),
 o 6 d107 (.q (.bin .add s103 s106)),
 o 7 d108 (.q (.iada s2 s101 1 8)),
 o 8 none (.e (.st s108 s107 1))])))
 (.reg [o 0 d109 (.q (.bin .add s98 (.v (.int .i64 (.ofNat 1))))),
 o 1 d98 (.q (.mv s109))])))))))
 (.seq (.reg [o 0 d110 (.q (.ldn s2 8)),
 o 1 none (.e (.st s4 s110 8))])
 .ret))))))
 [.cn p4 8]

noncomputable def f208 : FnE := .code 2
 (.seq (.reg [o 0 d0 (.e (.alo (zz (.int .u32 (.ofNat 0)) 8)))])
 (.seq (.reg [o 0 d1 (.q (.bld (zz (.int .u32 (.ofNat 0)) 8) [(0, 1, (.v (.int .u32 (.ofNat 1779033703)))), (1, 1, (.v (.int .u32 (.ofNat 3144134277)))), (2, 1, (.v (.int .u32 (.ofNat 1013904242)))), (3, 1, (.v (.int .u32 (.ofNat 2773480762)))), (4, 1, (.v (.int .u32 (.ofNat 1359893119)))), (5, 1, (.v (.int .u32 (.ofNat 2600822924)))), (6, 1, (.v (.int .u32 (.ofNat 528734635)))), (7, 1, (.v (.int .u32 (.ofNat 1541459225))))])),
 o 1 none (.e (.st s0 s1 8))])
 .ret))
 [.cn p0 8]

noncomputable def f209 : FnE := .code 80
 (.seq (.reg [o 0 d2 (.e (.alo (zz (.int .u32 (.ofNat 0)) 64)))])
 (.seq (.reg [o 0 d3 (.e (.alo (zz (.int .u32 (.ofNat 0)) 64)))])
 (.seq (.seq (.reg [o 0 d8 (.q (.mv (.v (.int .i64 (.ofNat 0)))))])
 (.blk 0 (.loop (.seq (.reg [o 0 d9 (.q (.bin .lss s8 (.v (.int .i64 (.ofNat 64)))))])
 (.seq (.cnd s9 .skip (.exit 0))
 (.seq (.blk 1 (.seq (.reg [o 0 d10 (.q (.mv s8)),
 o 1 d4 (.q (.mv s10))])
 (.seq (.seq (.reg [o 0 d11 (.q (.mv s4)),
 o 1 d12 (.q (.bin .lss s11 (.v (.int .i64 (.ofNat 16)))))])
 (.cnd s12 (.seq (.reg [o 0 d13 (.q (.mv s0)),
 o 1 d14 (.q (.mv s4)),
 o 2 d15 (.q (.bin .mul (.v (.int .i64 (.ofNat 4))) s14)),
 o 3 d16 (.q (.slc s13 (some s15) none 1)),
 o 4 d5 (.q (.mv s16))])
 (.seq (.rgd 0 [o 0 d17 (.q (.mv s4)),
 o 1 d18 (.q (.mv s5)),
 o 2 d19 (.q (.iadr s18 (.v (.int .i64 (.ofNat 0))) 1)),
 o 3 d20 (.q (.ld1 s19)),
 o 4 d21 (.q (.cvi .u32 s20)),
 o 5 d22 (.q (.shf true s21 (.v (.int .u64 (.ofNat 24))))),
 o 6 d23 (.q (.mv s5)),
 o 7 d24 (.q (.iadr s23 (.v (.int .i64 (.ofNat 1))) 1)),
 o 8 d25 (.q (.ld1 s24)),
 o 9 d26 (.q (.cvi .u32 s25)),
 o 10 d27 (.q (.shf true s26 (.v (.int .u64 (.ofNat 16))))),
 o 11 d28 (.q (.bin .or s22 s27)),
 o 12 d29 (.q (.mv s5)),
 o 13 d30 (.q (.iadr s29 (.v (.int .i64 (.ofNat 2))) 1)),
 o 14 d31 (.q (.ld1 s30)),
 o 15 d32 (.q (.cvi .u32 s31)),
 o 16 d33 (.q (.shf true s32 (.v (.int .u64 (.ofNat 8))))),
 o 17 d34 (.q (.bin .or s28 s33)),
 o 18 d35 (.q (.mv s5)),
 o 19 d36 (.q (.iadr s35 (.v (.int .i64 (.ofNat 3))) 1)),
 o 20 d37 (.q (.ld1 s36)),
 o 21 d38 (.q (.cvi .u32 s37)),
 o 22 d39 (.q (.bin .or s34 s38)),
 o 23 d40 (.q (.iada s3 s17 1 64)),
 o 24 none (.e (.st s40 s39 1))])
 (.exit 1))) .skip))
 (.seq (.rgd 0 [o 0 d41 (.q (.mv s4)),
 o 1 d42 (.q (.bin .sub s41 (.v (.int .i64 (.ofNat 2))))),
 o 2 d43 (.q (.iada s3 s42 1 64)),
 o 3 d44 (.q (.ld1 s43)),
 o 4 d45 (.q (.mv s4)),
 o 5 d46 (.q (.bin .sub s45 (.v (.int .i64 (.ofNat 15))))),
 o 6 d47 (.q (.iada s3 s46 1 64)),
 o 7 d48 (.q (.ld1 s47)),
 o 8 d6 (.q (.mv s44)),
 o 9 d7 (.q (.mv s48))])
 (.rgd 0 [o 0 d49 (.q (.mv s4)),
 o 1 d50 (.q (.mv s6)),
 o 3 d52 (.q (.mv s6)),
 o 6 d55 (.q (.mv s6)),
 o 7 d56 (.q (.shf false s55 (.v (.int .u64 (.ofNat 10))))),
 o 9 d58 (.q (.mv s4)),
 o 10 d59 (.q (.bin .sub s58 (.v (.int .i64 (.ofNat 7))))),
 o 11 d60 (.q (.iada s3 s59 1 64)),
 o 12 d61 (.q (.ld1 s60)),
 o 14 d63 (.q (.mv s7)),
 o 16 d65 (.q (.mv s7)),
 o 19 d68 (.q (.mv s7)),
 o 20 d69 (.q (.shf false s68 (.v (.int .u64 (.ofNat 3))))),
 o 23 d72 (.q (.mv s4)),
 o 24 d73 (.q (.bin .sub s72 (.v (.int .i64 (.ofNat 16))))),
 o 25 d74 (.q (.iada s3 s73 1 64)),
 o 26 d75 (.q (.ld1 s74)),
 ⟨2, d51, (.call p211 [s50, (.v (.int .i64 (.ofNat 17)))]), none, [(p61, .ld1 s60, none), (p75, .ld1 s74, none)]⟩,
 ⟨4, d53, (.call p211 [s52, (.v (.int .i64 (.ofNat 19)))]), none, [(p61, .ld1 s60, none), (p75, .ld1 s74, none)]⟩,
 o 5 d54 (.q (.bin .xor s51 s53)),
 o 8 d57 (.q (.bin .xor s54 s56)),
 o 13 d62 (.q (.bin .add s57 s61)),
 ⟨15, d64, (.call p211 [s63, (.v (.int .i64 (.ofNat 7)))]), none, [(p61, .ld1 s60, none), (p75, .ld1 s74, none)]⟩,
 ⟨17, d66, (.call p211 [s65, (.v (.int .i64 (.ofNat 18)))]), none, [(p61, .ld1 s60, none), (p75, .ld1 s74, none)]⟩,
 o 18 d67 (.q (.bin .xor s64 s66)),
 o 21 d70 (.q (.bin .xor s67 s69)),
 o 22 d71 (.q (.bin .add s62 s70)),
 o 27 d76 (.q (.bin .add s71 s75)),
 o 28 d77 (.q (.iada s3 s49 1 64)),
 o 29 none (.e (.st s77 s76 1))])))))
 (.reg [o 0 d78 (.q (.bin .add s8 (.v (.int .i64 (.ofNat 1))))),
 o 1 d8 (.q (.mv s78))])))))))
 (.seq (.reg [o 0 d79 (.q (.ldn s3 64)),
 o 1 none (.e (.st s2 s79 64))])
 .ret))))
 [.cn p2 64]

noncomputable def f210 : FnE := .code 2
 (.seq (.reg [o 0 d0 (.e (.alo (zz (.int .u32 (.ofNat 0)) 64)))])
 (.seq (.reg [o 0 d1 (.q (.bld (zz (.int .u32 (.ofNat 0)) 64) [(0, 1, (.v (.int .u32 (.ofNat 1116352408)))), (1, 1, (.v (.int .u32 (.ofNat 1899447441)))), (2, 1, (.v (.int .u32 (.ofNat 3049323471)))), (3, 1, (.v (.int .u32 (.ofNat 3921009573)))), (4, 1, (.v (.int .u32 (.ofNat 961987163)))), (5, 1, (.v (.int .u32 (.ofNat 1508970993)))), (6, 1, (.v (.int .u32 (.ofNat 2453635748)))), (7, 1, (.v (.int .u32 (.ofNat 2870763221)))), (8, 1, (.v (.int .u32 (.ofNat 3624381080)))), (9, 1, (.v (.int .u32 (.ofNat 310598401)))), (10, 1, (.v (.int .u32 (.ofNat 607225278)))), (11, 1, (.v (.int .u32 (.ofNat 1426881987)))), (12, 1, (.v (.int .u32 (.ofNat 1925078388)))), (13, 1, (.v (.int .u32 (.ofNat 2162078206)))), (14, 1, (.v (.int .u32 (.ofNat 2614888103)))), (15, 1, (.v (.int .u32 (.ofNat 3248222580)))), (16, 1, (.v (.int .u32 (.ofNat 3835390401)))), (17, 1, (.v (.int .u32 (.ofNat 4022224774)))), (18, 1, (.v (.int .u32 (.ofNat 264347078)))), (19, 1, (.v (.int .u32 (.ofNat 604807628)))), (20, 1, (.v (.int .u32 (.ofNat 770255983)))), (21, 1, (.v (.int .u32 (.ofNat 1249150122)))), (22, 1, (.v (.int .u32 (.ofNat 1555081692)))), (23, 1, (.v (.int .u32 (.ofNat 1996064986)))), (24, 1, (.v (.int .u32 (.ofNat 2554220882)))), (25, 1, (.v (.int .u32 (.ofNat 2821834349)))), (26, 1, (.v (.int .u32 (.ofNat 2952996808)))), (27, 1, (.v (.int .u32 (.ofNat 3210313671)))), (28, 1, (.v (.int .u32 (.ofNat 3336571891)))), (29, 1, (.v (.int .u32 (.ofNat 3584528711)))), (30, 1, (.v (.int .u32 (.ofNat 113926993)))), (31, 1, (.v (.int .u32 (.ofNat 338241895)))), (32, 1, (.v (.int .u32 (.ofNat 666307205)))), (33, 1, (.v (.int .u32 (.ofNat 773529912)))), (34, 1, (.v (.int .u32 (.ofNat 1294757372)))), (35, 1, (.v (.int .u32 (.ofNat 1396182291)))), (36, 1, (.v (.int .u32 (.ofNat 1695183700)))), (37, 1, (.v (.int .u32 (.ofNat 1986661051)))), (38, 1, (.v (.int .u32 (.ofNat 2177026350)))), (39, 1, (.v (.int .u32 (.ofNat 2456956037)))), (40, 1, (.v (.int .u32 (.ofNat 2730485921)))), (41, 1, (.v (.int .u32 (.ofNat 2820302411)))), (42, 1, (.v (.int .u32 (.ofNat 3259730800)))), (43, 1, (.v (.int .u32 (.ofNat 3345764771)))), (44, 1, (.v (.int .u32 (.ofNat 3516065817)))), (45, 1, (.v (.int .u32 (.ofNat 3600352804)))), (46, 1, (.v (.int .u32 (.ofNat 4094571909)))), (47, 1, (.v (.int .u32 (.ofNat 275423344)))), (48, 1, (.v (.int .u32 (.ofNat 430227734)))), (49, 1, (.v (.int .u32 (.ofNat 506948616)))), (50, 1, (.v (.int .u32 (.ofNat 659060556)))), (51, 1, (.v (.int .u32 (.ofNat 883997877)))), (52, 1, (.v (.int .u32 (.ofNat 958139571)))), (53, 1, (.v (.int .u32 (.ofNat 1322822218)))), (54, 1, (.v (.int .u32 (.ofNat 1537002063)))), (55, 1, (.v (.int .u32 (.ofNat 1747873779)))), (56, 1, (.v (.int .u32 (.ofNat 1955562222)))), (57, 1, (.v (.int .u32 (.ofNat 2024104815)))), (58, 1, (.v (.int .u32 (.ofNat 2227730452)))), (59, 1, (.v (.int .u32 (.ofNat 2361852424)))), (60, 1, (.v (.int .u32 (.ofNat 2428436474)))), (61, 1, (.v (.int .u32 (.ofNat 2756734187)))), (62, 1, (.v (.int .u32 (.ofNat 3204031479)))), (63, 1, (.v (.int .u32 (.ofNat 3329325298))))])),
 o 1 none (.e (.st s0 s1 64))])
 .ret))
 [.cn p0 64]

noncomputable def f211 : FnE := .code 9
 (.seq (.reg [o 0 d4 (.q (.mv (.v (.int .u32 (.ofNat 0)))))])
 (.seq (.reg [o 0 d5 (.q (.mv s0)),
 o 1 d6 (.q (.mv s1)),
 o 2 d7 (.q (.neg s6)),
 o 3 d8 (.call p218 [s5, s7]),
 o 4 d4 (.q (.mv s8))])
 .ret))
 [.t p4]

noncomputable def f218 : FnE := .code 17
 (.seq (.reg [o 0 d4 (.q (.mv (.v (.int .u32 (.ofNat 0)))))])
 (.seq (.reg [o 0 d6 (.q (.mv s1)),
 o 1 d7 (.q (.cvi .u64 s6)),
 o 2 d8 (.q (.bin .and s7 (.v (.int .u64 (.ofNat 31))))),
 o 3 d5 (.q (.mv s8))])
 (.seq (.reg [o 0 d9 (.q (.mv s0)),
 o 1 d10 (.q (.mv s5)),
 o 2 d11 (.q (.shf true s9 s10)),
 o 3 d12 (.q (.mv s0)),
 o 4 d13 (.q (.mv s5)),
 o 5 d14 (.q (.bin .sub (.v (.int .u64 (.ofNat 32))) s13)),
 o 6 d15 (.q (.shf false s12 s14)),
 o 7 d16 (.q (.bin .or s11 s15)),
 o 8 d4 (.q (.mv s16))])
 .ret)))
 [.t p4]

noncomputable def tabA : T FnE := (.node (.node (.node (.node (.node (.node .nil (some f31) .nil) (some f15) (.node (.node .nil (some f79) .nil) none .nil)) none (.node (.node (.node .nil (some f71) .nil) (some f39) .nil) none .nil)) (some f3) (.node (.node (.node .nil (some f35) .nil) none (.node (.node .nil none (.node .nil (some f211) .nil)) none .nil)) (some f11) (.node (.node (.node .nil (some f75) .nil) (some f43) .nil) (some f27) (.node .nil (some f59) .nil)))) none (.node (.node (.node (.node (.node .nil none (.node .nil (some f193) .nil)) (some f33) .nil) none (.node (.node .nil none (.node .nil (some f209) .nil)) none .nil)) (some f9) (.node (.node .nil none (.node (.node .nil (some f169) .nil) (some f105) .nil)) none (.node .nil none (.node .nil (some f121) .nil)))) none (.node (.node (.node (.node (.node .nil (some f133) .nil) (some f69) .nil) (some f37) .nil) none (.node (.node .nil (some f85) .nil) none .nil)) (some f13) (.node .nil (some f29) (.node .nil none (.node .nil (some f125) .nil)))))) none (.node (.node (.node (.node (.node (.node .nil none (.node .nil (some f192) .nil)) (some f32) .nil) none (.node (.node .nil (some f80) (.node .nil (some f208) .nil)) none .nil)) (some f8) (.node (.node .nil (some f40) (.node (.node .nil (some f168) .nil) none .nil)) none (.node .nil none (.node .nil (some f120) .nil)))) none (.node (.node (.node (.node (.node .nil (some f132) .nil) none .nil) (some f36) .nil) none (.node .nil none (.node .nil (some f116) .nil))) (some f12) (.node (.node (.node .nil (some f76) .nil) none .nil) (some f28) (.node .nil (some f60) .nil)))) none (.node (.node (.node (.node (.node .nil (some f66) .nil) (some f34) .nil) none (.node (.node .nil none (.node .nil (some f210) .nil)) none .nil)) (some f10) (.node (.node (.node .nil (some f74) .nil) (some f42) (.node (.node .nil (some f170) .nil) none .nil)) none (.node (.node .nil none (.node .nil (some f218) .nil)) none (.node .nil (some f122) .nil)))) none (.node (.node (.node (.node (.node .nil (some f134) .nil) (some f70) .nil) (some f38) .nil) none .nil) none (.node (.node (.node .nil (some f78) .nil) none .nil) (some f30) (.node .nil none (.node (.node .nil (some f190) .nil) none .nil)))))))
end Go.Proofs.YtknhohgnilamcaaGreatDoor.Ir
