/-
  The functions of the road, for the machine. (Written by a program.)
-/
import Derived.Test.YtbikpdgeldhkoaaDoorVc0
namespace Go.Proofs.YtbikpdgeldhkoaaDoor.Ir
set_option linter.unusedVariables false
set_option maxRecDepth 100000
open Go Go.Proofs.YtbikpdgeldhkoaaDoor
noncomputable def f3 : FnE := .code 190
 (.seq (.reg [o 0 d6 (.q (.mv (.v (.bool false))))])
 (.seq (.reg [o 0 d24 (.call p7 []),
 o 1 d7 (.q (.mv s24))])
 (.seq (.seq (.reg [o 0 d25 (.q (.mv s7)),
 o 1 d26 (.q (.not s25))])
 (.cnd s26 (.seq (.reg [o 0 d6 (.q (.mv (.v (.bool false))))])
 .ret) .skip))
 (.seq (.seq (.reg [o 0 d27 (.q (.mv s0)),
 o 1 d28 (.q (.bin .lss s27 (.v (.int .i64 (.ofNat 0)))))])
 (.cnd s28 (.reg [o 0 d29 (.q (.mv s0)),
 o 1 d30 (.q (.bin .add s29 (.v (.int .i64 (.ofNat 1))))),
 o 2 d31 (.q (.neg s30)),
 o 3 d0 (.q (.mv s31))]) .skip))
 (.seq (.reg [o 0 d32 (.q (.mv s0)),
 o 1 d33 (.q (.bin .rem s32 (.v (.int .i64 (.ofNat 20))))),
 o 2 d34 (.q (.bin .add s33 (.v (.int .i64 (.ofNat 1))))),
 o 3 d0 (.q (.mv s34))])
 (.seq (.seq (.reg [o 0 d35 (.q (.mv s2)),
 o 1 d36 (.q (.bin .lss s35 (.v (.int .i64 (.ofNat 0)))))])
 (.cnd s36 (.reg [o 0 d37 (.q (.mv s2)),
 o 1 d38 (.q (.bin .add s37 (.v (.int .i64 (.ofNat 1))))),
 o 2 d39 (.q (.neg s38)),
 o 3 d2 (.q (.mv s39))]) .skip))
 (.seq (.reg [o 0 d40 (.q (.mv s2)),
 o 1 d41 (.q (.mv s0)),
 o 2 d42 (.q (.bin .rem s40 s41)),
 o 3 d2 (.q (.mv s42))])
 (.seq (.reg [o 0 d43 (.q (.bld (zz (.int .u8 (.ofNat 0)) 32) [(0, 1, (.v (.int .u8 (.ofNat 9))))])),
 o 1 d44 (.q (.bld (lapp (zz (.int .u8 (.ofNat 0)) 32) [(.int .u32 (.ofNat 0))]) [(0, 32, s43), (32, 1, (.v (.int .u32 (.ofNat 4))))])),
 o 2 d8 (.e (.alo (lapp (zz (.int .u8 (.ofNat 0)) 32) [(.int .u32 (.ofNat 0))]))),
 o 3 none (.e (.st s8 s44 33))])
 (.seq (.reg [o 0 d45 (.q (.bld [.nilm] [])),
 o 1 d46 (.e (.box s45 1)),
 o 2 d9 (.q (.mv s46))])
 (.seq (.seq (.reg [o 0 d47 (.q (.mv s9)),
 o 1 d48 (.q (.ldn s8 33)),
 o 2 d49 (.q (.mv s1)),
 o 3 d50 (.q (.bin .rem s49 (.v (.int .u64 (.ofNat 1000))))),
 o 4 d51 (.q (.bld (lapp [(.int .u64 (.ofNat 0))] (lapp (zz (.int .u8 (.ofNat 0)) 32) [(.int .i64 (.ofNat 0)), (.bool false)])) [(0, 1, s50)])),
 o 5 d52 (.call p8 [s47, s48, s51]),
 o 6 d53 (.q (.eqp (.iface true) true s52 (.v .nili)))])
 (.cnd s53 (.seq (.reg [o 0 d6 (.q (.mv (.v (.bool false))))])
 .ret) .skip))
 (.seq (.reg [o 0 d54 (.q (.mv s9)),
 o 1 d55 (.call p9 [s54]),
 o 2 d10 (.q (.mv s55))])
 (.seq (.seq (.reg [o 0 d56 (.q (.mv s10)),
 o 1 d57 (.q (.eqp .ptr false s56 (.v .nilp)))])
 (.cnd s57 (.seq (.reg [o 0 d6 (.q (.mv (.v (.bool false))))])
 .ret) .skip))
 (.seq (.reg [o 0 d11 (.q (.mv (.v .nils)))])
 (.seq (.reg [o 0 d58 (.q (.ldn s8 33)),
 o 1 d12 (.e (.alo (lapp (zz (.int .u8 (.ofNat 0)) 32) [(.int .u32 (.ofNat 0))]))),
 o 2 none (.e (.st s12 s58 33))])
 (.seq (.seq (.reg [o 0 d13 (.q (.mv (.v (.int .i64 (.ofNat 0)))))])
 (.blk 0 (.loop (.seq (.seq (.reg [o 0 d59 (.q (.mv s13)),
 o 1 d60 (.q (.mv s0)),
 o 2 d61 (.q (.bin .lss s59 s60))])
 (.cnd s61 .skip (.exit 0)))
 (.seq (.blk 1 (.seq (.reg [o 0 d64 (.q (.mv s13)),
 o 1 d65 (.q (.cvi .u32 s64)),
 o 2 d66 (.q (.ldn s12 33)),
 o 3 d67 (.q (.bld (lapp (zz (.int .u8 (.ofNat 0)) 32) [(.int .u32 (.ofNat 0)), .nils, (.int .u32 (.ofNat 0))]) [(0, 33, s66)])),
 o 4 d68 (.e (.bsl (lapp (zz (.int .u8 (.ofNat 0)) 32) [(.int .u32 (.ofNat 0)), .nils, (.int .u32 (.ofNat 0))]) [(0, 35, s67)] 1 35)),
 o 5 d69 (.q (.mv s13)),
 o 6 d70 (.q (.cvi .u64 s69)),
 o 7 d71 (.q (.bld (lapp [(.int .u64 (.ofNat 0))] (zz (.int .u8 (.ofNat 0)) 32)) [(0, 1, s70)])),
 o 8 d72 (.e (.bsl (lapp [(.int .u64 (.ofNat 0))] (zz (.int .u8 (.ofNat 0)) 32)) [(0, 33, s71)] 1 33)),
 o 9 d73 (.q (.bld [(.int .u32 (.ofNat 0)), .nils, .nils, (.int .u32 (.ofNat 0))] [(0, 1, s65), (1, 1, s68), (2, 1, s72)])),
 o 10 d14 (.e (.alo [(.int .u32 (.ofNat 0)), .nils, .nils, (.int .u32 (.ofNat 0))])),
 o 11 none (.e (.st s14 s73 4))])
 (.seq (.seq (.reg [o 0 d74 (.q (.mv s10)),
 o 1 d75 (.q (.ldn s14 4)),
 o 2 d76 (.call p10 [s74, s75, (.v (.int .i64 (.ofNat 7)))]),
 o 3 d77 (.q (.eqp (.iface true) true s76 (.v .nili)))])
 (.cnd s77 (.seq (.reg [o 0 d6 (.q (.mv (.v (.bool false))))])
 .ret) .skip))
 (.seq (.reg [o 0 d78 (.q (.mv s11)),
 o 1 d79 (.q (.ldn s14 4)),
 o 2 d80 (.e (.bsl [(.int .u32 (.ofNat 0)), .nils, .nils, (.int .u32 (.ofNat 0))] [(0, 4, s79)] 1 4)),
 o 3 d81 (.e (.app s78 s80 4 64 false)),
 o 4 d11 (.q (.mv s81))])
 (.reg [o 0 d82 (.q (.ldn s14 4)),
 o 1 d83 (.call p11 [s82]),
 o 2 d84 (.q (.bld (lapp (zz (.int .u8 (.ofNat 0)) 32) [(.int .u32 (.ofNat 0))]) [(0, 32, s83)])),
 o 3 none (.e (.st s12 s84 33))])))))
 (.reg [o 0 d62 (.q (.mv s13)),
 o 1 d63 (.q (.bin .add s62 (.v (.int .i64 (.ofNat 1))))),
 o 2 d13 (.q (.mv s63))]))))))
 (.seq (.reg [o 0 d86 (.q (.mv s10)),
 o 1 d87 (.q (.ldn s12 33)),
 o 2 d88 (.call p12 [s86, s87]),
 o 3 d85 (.q (.mv s88)),
 o 4 d89 (.q (.ext s85 0)),
 o 5 d90 (.q (.ext s85 1)),
 o 6 d15 (.e (.alo (lapp [(.int .u64 (.ofNat 0))] (lapp (zz (.int .u8 (.ofNat 0)) 32) [(.int .i64 (.ofNat 0)), (.bool false)])))),
 o 7 none (.e (.st s15 s89 35)),
 o 8 d16 (.q (.mv s90))])
 (.seq (.reg [o 0 d92 (.q (.mv s10)),
 o 1 d93 (.q (.ldn s8 33)),
 o 2 d94 (.call p12 [s92, s93]),
 o 3 d91 (.q (.mv s94)),
 o 4 d95 (.q (.ext s91 0)),
 o 5 d96 (.q (.ext s91 1)),
 o 6 d17 (.e (.alo (lapp [(.int .u64 (.ofNat 0))] (lapp (zz (.int .u8 (.ofNat 0)) 32) [(.int .i64 (.ofNat 0)), (.bool false)])))),
 o 7 none (.e (.st s17 s95 35)),
 o 8 d18 (.q (.mv s96))])
 (.seq (.seq (.reg [o 0 d97 (.q (.mv s16)),
 o 1 d98 (.q (.not s97)),
 o 2 d99 (.q (.mv s98)),
 ⟨3, d100, (.q (.fadr s15 33)), (some (p99, false)), []⟩,
 ⟨4, d101, (.q (.ld1 s100)), (some (p99, false)), []⟩,
 ⟨5, d102, (.q (.bin .neq s101 (.v (.int .i64 (.ofNat 7))))), (some (p99, false)), []⟩,
 o 6 d103 (.q (.pick s99 (.v (.bool true)) s102)),
 o 7 d104 (.q (.mv s103)),
 ⟨8, d105, (.q (.fadr s15 34)), (some (p104, false)), []⟩,
 ⟨9, d106, (.q (.ld1 s105)), (some (p104, false)), []⟩,
 o 10 d107 (.q (.pick s104 (.v (.bool true)) s106)),
 o 11 d108 (.q (.mv s107)),
 ⟨12, d109, (.q (.mv s18)), (some (p108, false)), []⟩,
 o 13 d110 (.q (.pick s108 (.v (.bool true)) s109)),
 o 14 d111 (.q (.mv s110)),
 ⟨15, d112, (.q (.mv s10)), (some (p111, false)), []⟩,
 ⟨16, d113, (.call p13 [s112]), (some (p111, false)), []⟩,
 ⟨17, d114, (.q (.mv s0)), (some (p111, false)), []⟩,
 ⟨18, d115, (.q (.bin .neq s113 s114)), (some (p111, false)), []⟩,
 o 19 d116 (.q (.pick s111 (.v (.bool true)) s115))])
 (.cnd s116 (.seq (.reg [o 0 d6 (.q (.mv (.v (.bool false))))])
 .ret) .skip))
 (.seq (.reg [o 0 d117 (.q (.mv s10)),
 o 1 d118 (.q (.mv s11)),
 o 2 d119 (.q (.mv s2)),
 o 3 d120 (.q (.iadr s118 s119 4)),
 o 4 d121 (.q (.ldn s120 4)),
 o 5 d122 (.call p14 [s117, s121]),
 o 6 d19 (.q (.mv s122))])
 (.seq (.seq (.reg [o 0 d123 (.q (.mv s2)),
 o 1 d124 (.q (.mv s0)),
 o 2 d125 (.q (.bin .sub s124 (.v (.int .i64 (.ofNat 1))))),
 o 3 d126 (.q (.bin .lss s123 s125)),
 o 4 d127 (.q (.mv s126)),
 ⟨5, d128, (.q (.mv s19)), (some (p127, true)), []⟩,
 ⟨6, d129, (.call p15 [s128, (.v (.int .i64 (.ofNat 113)))]), (some (p127, true)), []⟩,
 ⟨7, d130, (.q (.not s129)), (some (p127, true)), []⟩,
 o 8 d131 (.q (.pick s127 s130 (.v (.bool false)))),
 o 9 d132 (.q (.mv s131)),
 ⟨10, d133, (.q (.mv s2)), (some (p132, false)), []⟩,
 ⟨11, d134, (.q (.mv s0)), (some (p132, false)), []⟩,
 ⟨12, d135, (.q (.bin .sub s134 (.v (.int .i64 (.ofNat 1))))), (some (p132, false)), []⟩,
 ⟨13, d136, (.q (.bin .eql s133 s135)), (some (p132, false)), []⟩,
 ⟨14, d137, (.q (.mv s136)), (some (p132, false)), []⟩,
 ⟨15, d138, (.q (.mv s19)), (some (p137, true)), []⟩,
 ⟨16, d139, (.q (.eqp (.iface true) true s138 (.v .nili))), (some (p137, true)), []⟩,
 ⟨17, d140, (.q (.pick s137 s139 (.v (.bool false)))), (some (p132, false)), []⟩,
 o 18 d141 (.q (.pick s132 (.v (.bool true)) s140))])
 (.cnd s141 (.seq (.reg [o 0 d6 (.q (.mv (.v (.bool false))))])
 .ret) .skip))
 (.seq (.reg [o 0 d142 (.q (.mv s0)),
 o 1 d143 (.q (.bin .sub s142 (.v (.int .i64 (.ofNat 1))))),
 o 2 d20 (.q (.mv s143))])
 (.seq (.seq (.reg [o 0 d144 (.q (.mv s2)),
 o 1 d145 (.q (.mv s0)),
 o 2 d146 (.q (.bin .sub s145 (.v (.int .i64 (.ofNat 1))))),
 o 3 d147 (.q (.bin .eql s144 s146))])
 (.cnd s147 (.reg [o 0 d148 (.q (.mv s0)),
 o 1 d149 (.q (.bin .sub s148 (.v (.int .i64 (.ofNat 2))))),
 o 2 d20 (.q (.mv s149))]) .skip))
 (.seq (.seq (.reg [o 0 d150 (.q (.mv s20)),
 o 1 d21 (.q (.mv s150))])
 (.blk 2 (.loop (.seq (.seq (.reg [o 0 d151 (.q (.mv s21)),
 o 1 d152 (.q (.bin .geq s151 (.v (.int .i64 (.ofNat 0)))))])
 (.cnd s152 .skip (.exit 2)))
 (.seq (.blk 3 (.seq (.reg [o 0 d155 (.q (.mv s10)),
 o 1 d156 (.q (.mv s11)),
 o 2 d157 (.q (.mv s21)),
 o 3 d158 (.q (.iadr s156 s157 4)),
 o 4 d159 (.q (.ldn s158 4)),
 o 5 d160 (.call p14 [s155, s159]),
 o 6 d161 (.q (.eqp (.iface true) true s160 (.v .nili)))])
 (.cnd s161 (.seq (.reg [o 0 d6 (.q (.mv (.v (.bool false))))])
 .ret) .skip)))
 (.reg [o 0 d153 (.q (.mv s21)),
 o 1 d154 (.q (.bin .sub s153 (.v (.int .i64 (.ofNat 1))))),
 o 2 d21 (.q (.mv s154))]))))))
 (.seq (.reg [o 0 d163 (.q (.mv s10)),
 o 1 d164 (.q (.ldn s8 33)),
 o 2 d165 (.call p12 [s163, s164]),
 o 3 d162 (.q (.mv s165)),
 o 4 d166 (.q (.ext s162 0)),
 o 5 d167 (.q (.ext s162 1)),
 o 6 d22 (.e (.alo (lapp [(.int .u64 (.ofNat 0))] (lapp (zz (.int .u8 (.ofNat 0)) 32) [(.int .i64 (.ofNat 0)), (.bool false)])))),
 o 7 none (.e (.st s22 s166 35)),
 o 8 d23 (.q (.mv s167))])
 (.seq (.reg [o 0 d168 (.q (.mv s7)),
 o 1 d169 (.q (.mv s168)),
 ⟨2, d170, (.q (.mv s23)), (some (p169, true)), []⟩,
 o 3 d171 (.q (.pick s169 s170 (.v (.bool false)))),
 o 4 d172 (.q (.mv s171)),
 ⟨5, d173, (.q (.mv s10)), (some (p172, true)), []⟩,
 ⟨6, d174, (.call p13 [s173]), (some (p172, true)), []⟩,
 ⟨7, d175, (.q (.bin .eql s174 (.v (.int .i64 (.ofNat 0))))), (some (p172, true)), []⟩,
 o 8 d176 (.q (.pick s172 s175 (.v (.bool false)))),
 o 9 d177 (.q (.mv s176)),
 ⟨10, d178, (.q (.mv s10)), (some (p177, true)), []⟩,
 ⟨11, d179, (.q (.mv s11)), (some (p177, true)), []⟩,
 ⟨12, d180, (.q (.iadr s179 (.v (.int .i64 (.ofNat 0))) 4)), (some (p177, true)), []⟩,
 ⟨13, d181, (.q (.ldn s180 4)), (some (p177, true)), []⟩,
 ⟨14, d182, (.call p14 [s178, s181]), (some (p177, true)), []⟩,
 ⟨15, d183, (.call p15 [s182, (.v (.int .i64 (.ofNat 123)))]), (some (p177, true)), []⟩,
 o 16 d184 (.q (.pick s177 s183 (.v (.bool false)))),
 o 17 d185 (.q (.mv s184)),
 ⟨18, d186, (.q (.mv s9)), (some (p185, true)), []⟩,
 ⟨19, d187, (.call p16 [s186]), (some (p185, true)), []⟩,
 ⟨20, d188, (.q (.bin .eql s187 (.v (.int .i64 (.ofNat 1))))), (some (p185, true)), []⟩,
 o 21 d189 (.q (.pick s185 s188 (.v (.bool false)))),
 o 22 d6 (.q (.mv s189))])
 .ret)))))))))))))))))))))))))
 [.t p6]

noncomputable def f7 : FnE := .code 35
 (.seq (.reg [o 0 d0 (.q (.mv (.v (.bool false))))])
 (.seq (.reg [o 0 d4 (.q (.bld [.nilm] [])),
 o 1 d5 (.e (.box s4 1)),
 o 2 d6 (.call p9 [s5]),
 o 3 d1 (.q (.mv s6))])
 (.seq (.seq (.reg [o 0 d7 (.q (.mv s1)),
 o 1 d8 (.q (.eqp .ptr false s7 (.v .nilp)))])
 (.cnd s8 (.seq (.reg [o 0 d0 (.q (.mv (.v (.bool false))))])
 .ret) .skip))
 (.seq (.reg [o 0 d10 (.q (.mv s1)),
 o 1 d11 (.q (.bld (lapp (zz (.int .u8 (.ofNat 0)) 32) [(.int .u32 (.ofNat 0))]) [])),
 o 2 d12 (.call p12 [s10, s11]),
 o 3 d9 (.q (.mv s12)),
 o 4 d13 (.q (.ext s9 0)),
 o 5 d14 (.q (.ext s9 1)),
 o 6 d2 (.e (.alo (lapp [(.int .u64 (.ofNat 0))] (lapp (zz (.int .u8 (.ofNat 0)) 32) [(.int .i64 (.ofNat 0)), (.bool false)])))),
 o 7 none (.e (.st s2 s13 35)),
 o 8 d3 (.q (.mv s14))])
 (.seq (.reg [o 0 d15 (.q (.mv s3)),
 o 1 d16 (.q (.not s15)),
 o 2 d17 (.q (.mv s16)),
 ⟨3, d18, (.q (.mv s1)), (some (p17, true)), []⟩,
 ⟨4, d19, (.call p13 [s18]), (some (p17, true)), []⟩,
 ⟨5, d20, (.q (.bin .eql s19 (.v (.int .i64 (.ofNat 0))))), (some (p17, true)), []⟩,
 o 6 d21 (.q (.pick s17 s20 (.v (.bool false)))),
 o 7 d22 (.q (.mv s21)),
 ⟨8, d23, (.q (.mv s1)), (some (p22, true)), []⟩,
 ⟨9, d24, (.q (.bld (lapp [(.int .u64 (.ofNat 0))] (zz (.int .u8 (.ofNat 0)) 32)) [])), (some (p22, true)), []⟩,
 ⟨10, d25, (.e (.bsl (lapp [(.int .u64 (.ofNat 0))] (zz (.int .u8 (.ofNat 0)) 32)) [(0, 33, s24)] 1 33)), (some (p22, true)), []⟩,
 ⟨11, d26, (.q (.bld [(.int .u32 (.ofNat 0)), .nils, .nils, (.int .u32 (.ofNat 0))] [(2, 1, s25)])), (some (p22, true)), []⟩,
 ⟨12, d27, (.call p10 [s23, s26, (.v (.int .i64 (.ofNat 1)))]), (some (p22, true)), []⟩,
 ⟨13, d28, (.q (.eqp (.iface true) false s27 (.v .nili))), (some (p22, true)), []⟩,
 o 14 d29 (.q (.pick s22 s28 (.v (.bool false)))),
 o 15 d30 (.q (.mv s29)),
 ⟨16, d31, (.q (.mv s1)), (some (p30, true)), []⟩,
 ⟨17, d32, (.call p13 [s31]), (some (p30, true)), []⟩,
 ⟨18, d33, (.q (.bin .eql s32 (.v (.int .i64 (.ofNat 1))))), (some (p30, true)), []⟩,
 o 19 d34 (.q (.pick s30 s33 (.v (.bool false)))),
 o 20 d0 (.q (.mv s34))])
 .ret)))))
 [.t p0]

noncomputable def f8 : FnE := .code 39
 (.seq (.reg [o 0 d4 (.e (.box s1 33)),
 o 1 d5 (.e (.box s2 35)),
 o 2 d6 (.q (.mv (.v .nili)))])
 (.seq (.seq (.reg [o 0 d9 (.q (.fadr s5 0)),
 o 1 d10 (.q (.ld1 s9)),
 o 2 d11 (.q (.bin .gtr s10 (.v (.int .u64 (.ofNat 2100000000000000)))))])
 (.cnd s11 (.seq (.reg [o 0 d12 (.q (.ld1 (.g p0))),
 o 1 d6 (.q (.mv s12))])
 .ret) .skip))
 (.seq (.seq (.rgd 0 [o 0 d14 (.q (.mv s0)),
 o 1 d15 (.q (.nck s14)),
 o 2 d16 (.q (.fadr s15 0)),
 o 3 d17 (.q (.ld1 s16)),
 o 4 d18 (.q (.ldn s4 33)),
 o 5 d19 (.q (.lkp s17 s18 (.cells [.u8, .u8, .u8, .u8, .u8, .u8, .u8, .u8, .u8, .u8, .u8, .u8, .u8, .u8, .u8, .u8, .u8, .u8, .u8, .u8, .u8, .u8, .u8, .u8, .u8, .u8, .u8, .u8, .u8, .u8, .u8, .u8, .u32]) (.agg (lapp [(.int .u64 (.ofNat 0))] (lapp (zz (.int .u8 (.ofNat 0)) 32) [(.int .i64 (.ofNat 0)), (.bool false)]))) true)),
 o 6 d13 (.q (.mv s19)),
 o 7 d20 (.q (.ext s13 0)),
 o 8 d21 (.q (.ext s13 1)),
 ⟨9, d7, (.e (.alo (lapp [(.int .u64 (.ofNat 0))] (lapp (zz (.int .u8 (.ofNat 0)) 32) [(.int .i64 (.ofNat 0)), (.bool false)])))), none, [(p17, .ld1 s16, none), (p18, .ldn s4 33, none), (p19, .lkp s17 s18 (.cells [.u8, .u8, .u8, .u8, .u8, .u8, .u8, .u8, .u8, .u8, .u8, .u8, .u8, .u8, .u8, .u8, .u8, .u8, .u8, .u8, .u8, .u8, .u8, .u8, .u8, .u8, .u8, .u8, .u8, .u8, .u8, .u8, .u32]) (.agg (lapp [(.int .u64 (.ofNat 0))] (lapp (zz (.int .u8 (.ofNat 0)) 32) [(.int .i64 (.ofNat 0)), (.bool false)]))) true, none)]⟩,
 o 10 none (.e (.st s7 s20 35)),
 o 11 d8 (.q (.mv s21))])
 (.seq (.reg [o 0 d22 (.q (.mv s8))])
 (.cnd s22 (.seq (.reg [o 0 d23 (.q (.ld1 (.g p1))),
 o 1 d6 (.q (.mv s23))])
 .ret) .skip)))
 (.seq (.seq (.reg [o 0 d24 (.q (.mv s0)),
 o 1 d25 (.q (.nck s24)),
 o 2 d26 (.q (.fadr s25 0)),
 o 3 d27 (.q (.ld1 s26)),
 o 4 d28 (.q (.eqp .map false s27 (.v .nilm)))])
 (.cnd s28 (.reg [o 0 d29 (.q (.mv s0)),
 o 1 d30 (.e (.mkm (.cells [.u8, .u8, .u8, .u8, .u8, .u8, .u8, .u8, .u8, .u8, .u8, .u8, .u8, .u8, .u8, .u8, .u8, .u8, .u8, .u8, .u8, .u8, .u8, .u8, .u8, .u8, .u8, .u8, .u8, .u8, .u8, .u8, .u32]))),
 o 2 d31 (.q (.nck s29)),
 o 3 d32 (.q (.fadr s31 0)),
 o 4 none (.e (.st s32 s30 1))]) .skip))
 (.seq (.rgd 0 [o 0 d33 (.q (.mv s0)),
 o 1 d34 (.q (.nck s33)),
 o 2 d35 (.q (.fadr s34 0)),
 o 3 d36 (.q (.ld1 s35)),
 o 4 d37 (.q (.ldn s4 33)),
 o 5 d38 (.q (.ldn s5 35)),
 o 6 none (.e (.mup s36 s37 s38 (.cells [.u8, .u8, .u8, .u8, .u8, .u8, .u8, .u8, .u8, .u8, .u8, .u8, .u8, .u8, .u8, .u8, .u8, .u8, .u8, .u8, .u8, .u8, .u8, .u8, .u8, .u8, .u8, .u8, .u8, .u8, .u8, .u8, .u32])))])
 (.seq (.reg [o 0 d6 (.q (.mv (.v .nili)))])
 .ret))))))
 [.t p6]

noncomputable def f9 : FnE := .code 9
 (.seq (.reg [o 0 d2 (.q (.mv (.v .nilp)))])
 (.seq (.reg [o 0 d3 (.q (.mv s0)),
 o 1 d4 (.e (.mkm (.cells (kk .u8 32)))),
 o 2 d5 (.e (.mkm (.cells [.u8, .u8, .u8, .u8, .u8, .u8, .u8, .u8, .u8, .u8, .u8, .u8, .u8, .u8, .u8, .u8, .u8, .u8, .u8, .u8, .u8, .u8, .u8, .u8, .u8, .u8, .u8, .u8, .u8, .u8, .u8, .u8, .u32]))),
 o 3 d6 (.e (.mkm (.cells [.u8, .u8, .u8, .u8, .u8, .u8, .u8, .u8, .u8, .u8, .u8, .u8, .u8, .u8, .u8, .u8, .u8, .u8, .u8, .u8, .u8, .u8, .u8, .u8, .u8, .u8, .u8, .u8, .u8, .u8, .u8, .u8, .u32]))),
 o 4 d7 (.q (.bld [.nilp, .nilm, .nilm, .nilm] [(0, 1, s3), (1, 1, s4), (2, 1, s5), (3, 1, s6)])),
 o 5 d8 (.e (.box s7 4)),
 o 6 d2 (.q (.mv s8))])
 .ret))
 [.t p2]

noncomputable def f10 : FnE := .code 115
 (.seq (.reg [o 0 d4 (.e (.box s1 4)),
 o 1 d6 (.q (.mv (.v .nili)))])
 (.seq (.reg [o 0 d21 (.q (.ldn s4 4)),
 o 1 d22 (.call p34 [s21]),
 o 2 d7 (.e (.alo (zz (.int .u8 (.ofNat 0)) 32))),
 o 3 none (.e (.st s7 s22 32))])
 (.seq (.seq (.rgd 0 [o 0 d24 (.q (.mv s0)),
 o 1 d25 (.q (.nck s24)),
 o 2 d26 (.q (.fadr s25 1)),
 o 3 d27 (.q (.ld1 s26)),
 o 4 d28 (.q (.ldn s7 32)),
 o 5 d29 (.q (.lkp s27 s28 (.cells (kk .u8 32)) (.agg [(.int .u32 (.ofNat 0)), .nils, .nils, (.int .u32 (.ofNat 0))]) true)),
 o 6 d23 (.q (.mv s29)),
 o 7 d30 (.q (.ext s23 0)),
 o 8 d31 (.q (.ext s23 1)),
 ⟨9, d8, (.e (.alo [(.int .u32 (.ofNat 0)), .nils, .nils, (.int .u32 (.ofNat 0))])), none, [(p27, .ld1 s26, none), (p28, .ldn s7 32, none), (p29, .lkp s27 s28 (.cells (kk .u8 32)) (.agg [(.int .u32 (.ofNat 0)), .nils, .nils, (.int .u32 (.ofNat 0))]) true, none)]⟩,
 o 10 none (.e (.st s8 s30 4)),
 o 11 d9 (.q (.mv s31))])
 (.seq (.reg [o 0 d32 (.q (.mv s9))])
 (.cnd s32 (.seq (.reg [o 0 d33 (.q (.ld1 (.g p1))),
 o 1 d6 (.q (.mv s33))])
 .ret) .skip)))
 (.seq (.seq (.reg [o 0 d34 (.q (.fadr s4 1)),
 o 1 d35 (.q (.ld1 s34)),
 o 2 d36 (.q (.lenv s35)),
 o 3 d37 (.q (.mv (.v (.int .i64 (.ofNat 0)))))])
 (.blk 0 (.loop (.seq (.reg [o 0 d38 (.q (.bin .lss s37 s36))])
 (.seq (.cnd s38 .skip (.exit 0))
 (.seq (.blk 1 (.seq (.reg [o 0 d39 (.q (.iadr s35 s37 35)),
 o 1 d40 (.q (.ldn s39 35)),
 o 2 d11 (.e (.alo (lapp (zz (.int .u8 (.ofNat 0)) 32) [(.int .u32 (.ofNat 0)), .nils, (.int .u32 (.ofNat 0))]))),
 o 3 none (.e (.st s11 s40 35))])
 (.seq (.reg [o 0 d42 (.q (.mv s0)),
 o 1 d43 (.q (.fadr s11 0)),
 o 2 d44 (.q (.ldn s43 33)),
 o 3 d45 (.call p12 [s42, s44]),
 o 4 d41 (.q (.mv s45)),
 o 5 d46 (.q (.ext s41 0)),
 o 6 d47 (.q (.ext s41 1)),
 o 7 d12 (.e (.alo (lapp [(.int .u64 (.ofNat 0))] (lapp (zz (.int .u8 (.ofNat 0)) 32) [(.int .i64 (.ofNat 0)), (.bool false)])))),
 o 8 none (.e (.st s12 s46 35)),
 o 9 d13 (.q (.mv s47))])
 (.seq (.reg [o 0 d48 (.q (.mv s13)),
 o 1 d49 (.q (.not s48))])
 (.cnd s49 (.seq (.reg [o 0 d50 (.q (.ld1 (.g p2))),
 o 1 d6 (.q (.mv s50))])
 .ret) .skip)))))
 (.reg [o 0 d51 (.q (.bin .add s37 (.v (.int .i64 (.ofNat 1))))),
 o 1 d37 (.q (.mv s51))])))))))
 (.seq (.seq (.reg [o 0 d52 (.q (.fadr s4 2)),
 o 1 d53 (.q (.ld1 s52)),
 o 2 d54 (.q (.lenv s53)),
 o 3 d55 (.q (.mv (.v (.int .i64 (.ofNat 0)))))])
 (.blk 2 (.loop (.seq (.reg [o 0 d56 (.q (.bin .lss s55 s54))])
 (.seq (.cnd s56 .skip (.exit 2))
 (.seq (.blk 3 (.seq (.reg [o 0 d57 (.q (.mv s55)),
 o 1 d14 (.q (.mv s57))])
 (.seq (.reg [o 0 d59 (.q (.mv s0)),
 o 1 d60 (.q (.ldn s7 32)),
 o 2 d61 (.q (.mv s14)),
 o 3 d62 (.q (.cvi .u32 s61)),
 o 4 d63 (.q (.bld (lapp (zz (.int .u8 (.ofNat 0)) 32) [(.int .u32 (.ofNat 0))]) [(0, 32, s60), (32, 1, s62)])),
 o 5 d64 (.call p35 [s59, s63]),
 o 6 d58 (.q (.mv s64)),
 o 7 d65 (.q (.ext s58 0)),
 o 8 d66 (.q (.ext s58 1)),
 o 9 d15 (.e (.alo (lapp [(.int .u64 (.ofNat 0))] (lapp (zz (.int .u8 (.ofNat 0)) 32) [(.int .i64 (.ofNat 0)), (.bool false)])))),
 o 10 none (.e (.st s15 s65 35)),
 o 11 d16 (.q (.mv s66))])
 (.seq (.reg [o 0 d67 (.q (.mv s16))])
 (.cnd s67 (.seq (.reg [o 0 d68 (.q (.ld1 (.g p2))),
 o 1 d6 (.q (.mv s68))])
 .ret) .skip)))))
 (.reg [o 0 d69 (.q (.bin .add s55 (.v (.int .i64 (.ofNat 1))))),
 o 1 d55 (.q (.mv s69))])))))))
 (.seq (.rgd 0 [o 0 d70 (.q (.mv s0)),
 o 1 d71 (.q (.nck s70)),
 o 2 d72 (.q (.fadr s71 1)),
 o 3 d73 (.q (.ld1 s72)),
 o 4 d74 (.q (.ldn s7 32)),
 o 5 d75 (.q (.ldn s4 4)),
 ⟨6, d76, (.call p36 [s75]), none, [(p73, .ld1 s72, none), (p74, .ldn s7 32, none)]⟩,
 o 7 none (.e (.mup s73 s74 s76 (.cells (kk .u8 32))))])
 (.seq (.seq (.reg [o 0 d77 (.q (.fadr s4 1)),
 o 1 d78 (.q (.ld1 s77)),
 o 2 d79 (.q (.lenv s78)),
 o 3 d80 (.q (.mv (.v (.int .i64 (.ofNat 0)))))])
 (.blk 4 (.loop (.seq (.reg [o 0 d81 (.q (.bin .lss s80 s79))])
 (.seq (.cnd s81 .skip (.exit 4))
 (.seq (.blk 5 (.seq (.reg [o 0 d82 (.q (.iadr s78 s80 35)),
 o 1 d83 (.q (.ldn s82 35)),
 o 2 d18 (.e (.alo (lapp (zz (.int .u8 (.ofNat 0)) 32) [(.int .u32 (.ofNat 0)), .nils, (.int .u32 (.ofNat 0))]))),
 o 3 none (.e (.st s18 s83 35))])
 (.rgd 0 [o 0 d84 (.q (.mv s0)),
 o 1 d85 (.q (.nck s84)),
 o 2 d86 (.q (.fadr s85 3)),
 o 3 d87 (.q (.ld1 s86)),
 o 4 d88 (.q (.fadr s18 0)),
 o 5 d89 (.q (.ldn s88 33)),
 o 6 d90 (.q (.ldn s7 32)),
 o 7 none (.e (.mup s87 s89 s90 (.cells [.u8, .u8, .u8, .u8, .u8, .u8, .u8, .u8, .u8, .u8, .u8, .u8, .u8, .u8, .u8, .u8, .u8, .u8, .u8, .u8, .u8, .u8, .u8, .u8, .u8, .u8, .u8, .u8, .u8, .u8, .u8, .u8, .u32])))])))
 (.reg [o 0 d91 (.q (.bin .add s80 (.v (.int .i64 (.ofNat 1))))),
 o 1 d80 (.q (.mv s91))])))))))
 (.seq (.seq (.reg [o 0 d92 (.q (.fadr s4 2)),
 o 1 d93 (.q (.ld1 s92)),
 o 2 d94 (.q (.lenv s93)),
 o 3 d95 (.q (.mv (.v (.int .i64 (.ofNat 0)))))])
 (.blk 6 (.loop (.seq (.reg [o 0 d96 (.q (.bin .lss s95 s94))])
 (.seq (.cnd s96 .skip (.exit 6))
 (.seq (.blk 7 (.seq (.reg [o 0 d97 (.q (.mv s95)),
 o 1 d98 (.q (.iadr s93 s95 33)),
 o 2 d99 (.q (.ldn s98 33)),
 o 3 d20 (.e (.alo (lapp [(.int .u64 (.ofNat 0))] (zz (.int .u8 (.ofNat 0)) 32)))),
 o 4 d19 (.q (.mv s97)),
 o 5 none (.e (.st s20 s99 33))])
 (.rgd 0 [o 0 d100 (.q (.mv s0)),
 o 1 d101 (.q (.nck s100)),
 o 2 d102 (.q (.fadr s101 2)),
 o 3 d103 (.q (.ld1 s102)),
 o 4 d104 (.q (.ldn s7 32)),
 o 5 d105 (.q (.mv s19)),
 o 6 d106 (.q (.cvi .u32 s105)),
 o 7 d107 (.q (.bld (lapp (zz (.int .u8 (.ofNat 0)) 32) [(.int .u32 (.ofNat 0))]) [(0, 32, s104), (32, 1, s106)])),
 o 8 d108 (.q (.fadr s20 0)),
 o 9 d109 (.q (.ld1 s108)),
 o 10 d110 (.q (.fadr s20 1)),
 o 11 d111 (.q (.ldn s110 32)),
 o 12 d112 (.q (.mv s2)),
 o 13 d113 (.q (.bld (lapp [(.int .u64 (.ofNat 0))] (lapp (zz (.int .u8 (.ofNat 0)) 32) [(.int .i64 (.ofNat 0)), (.bool false)])) [(0, 1, s109), (1, 32, s111), (33, 1, s112)])),
 o 14 none (.e (.mup s103 s107 s113 (.cells [.u8, .u8, .u8, .u8, .u8, .u8, .u8, .u8, .u8, .u8, .u8, .u8, .u8, .u8, .u8, .u8, .u8, .u8, .u8, .u8, .u8, .u8, .u8, .u8, .u8, .u8, .u8, .u8, .u8, .u8, .u8, .u8, .u32])))])))
 (.reg [o 0 d114 (.q (.bin .add s95 (.v (.int .i64 (.ofNat 1))))),
 o 1 d95 (.q (.mv s114))])))))))
 (.seq (.reg [o 0 d6 (.q (.mv (.v .nili)))])
 .ret)))))))))
 [.t p6]

noncomputable def f11 : FnE := .code 6
 (.seq (.reg [o 0 d1 (.e (.box s0 4)),
 o 1 d2 (.e (.alo (zz (.int .u8 (.ofNat 0)) 32)))])
 (.seq (.reg [o 0 d3 (.q (.ldn s1 4)),
 o 1 d4 (.call p38 [s3]),
 o 2 d5 (.call p37 [s4]),
 o 3 none (.e (.st s2 s5 32))])
 .ret))
 [.cn p2 32]

noncomputable def f12 : FnE := .code 24
 (.seq (.reg [o 0 d3 (.e (.box s1 33)),
 o 1 d4 (.e (.alo (lapp [(.int .u64 (.ofNat 0))] (lapp (zz (.int .u8 (.ofNat 0)) 32) [(.int .i64 (.ofNat 0)), (.bool false)])))),
 o 2 d5 (.q (.mv (.v (.bool false))))])
 (.seq (.seq (.rgd 0 [o 0 d9 (.q (.mv s0)),
 o 1 d10 (.q (.nck s9)),
 o 2 d11 (.q (.fadr s10 3)),
 o 3 d12 (.q (.ld1 s11)),
 o 4 d13 (.q (.ldn s3 33)),
 o 5 d14 (.q (.lkp s12 s13 (.cells [.u8, .u8, .u8, .u8, .u8, .u8, .u8, .u8, .u8, .u8, .u8, .u8, .u8, .u8, .u8, .u8, .u8, .u8, .u8, .u8, .u8, .u8, .u8, .u8, .u8, .u8, .u8, .u8, .u8, .u8, .u8, .u8, .u32]) (.agg (zz (.int .u8 (.ofNat 0)) 32)) true)),
 o 6 d8 (.q (.mv s14)),
 o 7 d15 (.q (.ext s8 0)),
 o 8 d16 (.q (.ext s8 1)),
 ⟨9, d6, (.e (.alo (zz (.int .u8 (.ofNat 0)) 32))), none, [(p12, .ld1 s11, none), (p13, .ldn s3 33, none), (p14, .lkp s12 s13 (.cells [.u8, .u8, .u8, .u8, .u8, .u8, .u8, .u8, .u8, .u8, .u8, .u8, .u8, .u8, .u8, .u8, .u8, .u8, .u8, .u8, .u8, .u8, .u8, .u8, .u8, .u8, .u8, .u8, .u8, .u8, .u8, .u8, .u32]) (.agg (zz (.int .u8 (.ofNat 0)) 32)) true, none)]⟩,
 o 10 none (.e (.st s6 s15 32)),
 o 11 d7 (.q (.mv s16))])
 (.seq (.reg [o 0 d17 (.q (.mv s7))])
 (.cnd s17 (.seq (.reg [o 0 d18 (.q (.bld (lapp [(.int .u64 (.ofNat 0))] (lapp (zz (.int .u8 (.ofNat 0)) 32) [(.int .i64 (.ofNat 0)), (.bool false)])) [])),
 o 1 none (.e (.st s4 s18 35)),
 o 2 d5 (.q (.mv (.v (.bool false))))])
 .ret) .skip)))
 (.seq (.reg [o 0 d19 (.q (.mv s0)),
 o 1 d20 (.q (.ldn s3 33)),
 o 2 d21 (.call p35 [s19, s20]),
 o 3 d22 (.q (.ext s21 0)),
 o 4 d23 (.q (.ext s21 1)),
 o 5 none (.e (.st s4 s22 35)),
 o 6 d5 (.q (.mv s23))])
 .ret)))
 [.cn p4 35, .t p5]

noncomputable def f13 : FnE := .code 8
 (.seq (.reg [o 0 d2 (.q (.mv (.v (.int .i64 (.ofNat 0)))))])
 (.seq (.reg [o 0 d3 (.q (.mv s0)),
 o 1 d4 (.q (.nck s3)),
 o 2 d5 (.q (.fadr s4 1)),
 o 3 d6 (.q (.ld1 s5)),
 o 4 d7 (.q (.lenm s6)),
 o 5 d2 (.q (.mv s7))])
 .ret))
 [.t p2]

noncomputable def f14 : FnE := .code 83
 (.seq (.reg [o 0 d3 (.e (.box s1 4)),
 o 1 d4 (.q (.mv (.v .nili)))])
 (.seq (.reg [o 0 d14 (.q (.ldn s3 4)),
 o 1 d15 (.call p34 [s14]),
 o 2 d5 (.e (.alo (zz (.int .u8 (.ofNat 0)) 32))),
 o 3 none (.e (.st s5 s15 32))])
 (.seq (.seq (.rgd 0 [o 0 d17 (.q (.mv s0)),
 o 1 d18 (.q (.nck s17)),
 o 2 d19 (.q (.fadr s18 1)),
 o 3 d20 (.q (.ld1 s19)),
 o 4 d21 (.q (.ldn s5 32)),
 o 5 d22 (.q (.lkp s20 s21 (.cells (kk .u8 32)) (.agg [(.int .u32 (.ofNat 0)), .nils, .nils, (.int .u32 (.ofNat 0))]) true)),
 o 6 d16 (.q (.mv s22)),
 o 7 d23 (.q (.ext s16 0)),
 o 8 d24 (.q (.ext s16 1)),
 ⟨9, d6, (.e (.alo [(.int .u32 (.ofNat 0)), .nils, .nils, (.int .u32 (.ofNat 0))])), none, [(p20, .ld1 s19, none), (p21, .ldn s5 32, none), (p22, .lkp s20 s21 (.cells (kk .u8 32)) (.agg [(.int .u32 (.ofNat 0)), .nils, .nils, (.int .u32 (.ofNat 0))]) true, none)]⟩,
 o 10 none (.e (.st s6 s23 4)),
 o 11 d7 (.q (.mv s24))])
 (.seq (.reg [o 0 d25 (.q (.mv s7)),
 o 1 d26 (.q (.not s25))])
 (.cnd s26 (.seq (.reg [o 0 d27 (.q (.ld1 (.g p3))),
 o 1 d4 (.q (.mv s27))])
 .ret) .skip)))
 (.seq (.seq (.reg [o 0 d28 (.q (.fadr s3 2)),
 o 1 d29 (.q (.ld1 s28)),
 o 2 d30 (.q (.lenv s29)),
 o 3 d31 (.q (.mv (.v (.int .i64 (.ofNat 0)))))])
 (.blk 0 (.loop (.seq (.reg [o 0 d32 (.q (.bin .lss s31 s30))])
 (.seq (.cnd s32 .skip (.exit 0))
 (.seq (.blk 1 (.seq (.reg [o 0 d33 (.q (.mv s31)),
 o 1 d8 (.q (.mv s33))])
 (.seq (.rgd 0 [o 0 d35 (.q (.mv s0)),
 o 1 d36 (.q (.nck s35)),
 o 2 d37 (.q (.fadr s36 3)),
 o 3 d38 (.q (.ld1 s37)),
 o 4 d39 (.q (.ldn s5 32)),
 o 5 d40 (.q (.mv s8)),
 o 6 d41 (.q (.cvi .u32 s40)),
 o 7 d42 (.q (.bld (lapp (zz (.int .u8 (.ofNat 0)) 32) [(.int .u32 (.ofNat 0))]) [(0, 32, s39), (32, 1, s41)])),
 o 8 d43 (.q (.lkp s38 s42 (.cells [.u8, .u8, .u8, .u8, .u8, .u8, .u8, .u8, .u8, .u8, .u8, .u8, .u8, .u8, .u8, .u8, .u8, .u8, .u8, .u8, .u8, .u8, .u8, .u8, .u8, .u8, .u8, .u8, .u8, .u8, .u8, .u8, .u32]) (.agg (zz (.int .u8 (.ofNat 0)) 32)) true)),
 o 9 d34 (.q (.mv s43)),
 o 10 d44 (.q (.ext s34 0)),
 o 11 d45 (.q (.ext s34 1)),
 ⟨12, d9, (.e (.alo (zz (.int .u8 (.ofNat 0)) 32))), none, [(p38, .ld1 s37, none), (p39, .ldn s5 32, none), (p43, .lkp s38 s42 (.cells [.u8, .u8, .u8, .u8, .u8, .u8, .u8, .u8, .u8, .u8, .u8, .u8, .u8, .u8, .u8, .u8, .u8, .u8, .u8, .u8, .u8, .u8, .u8, .u8, .u8, .u8, .u8, .u8, .u8, .u8, .u8, .u8, .u32]) (.agg (zz (.int .u8 (.ofNat 0)) 32)) true, none)]⟩,
 o 13 none (.e (.st s9 s44 32)),
 o 14 d10 (.q (.mv s45))])
 (.seq (.reg [o 0 d46 (.q (.mv s10))])
 (.cnd s46 (.seq (.reg [o 0 d47 (.q (.ld1 (.g p2))),
 o 1 d4 (.q (.mv s47))])
 .ret) .skip)))))
 (.reg [o 0 d48 (.q (.bin .add s31 (.v (.int .i64 (.ofNat 1))))),
 o 1 d31 (.q (.mv s48))])))))))
 (.seq (.rgd 0 [o 0 d49 (.q (.mv s0)),
 o 1 d50 (.q (.nck s49)),
 o 2 d51 (.q (.fadr s50 1)),
 o 3 d52 (.q (.ld1 s51)),
 o 4 d53 (.q (.ldn s5 32)),
 o 5 none (.e (.mdl s52 s53 (.cells (kk .u8 32))))])
 (.seq (.seq (.reg [o 0 d54 (.q (.fadr s3 1)),
 o 1 d55 (.q (.ld1 s54)),
 o 2 d56 (.q (.lenv s55)),
 o 3 d57 (.q (.mv (.v (.int .i64 (.ofNat 0)))))])
 (.blk 2 (.loop (.seq (.reg [o 0 d58 (.q (.bin .lss s57 s56))])
 (.seq (.cnd s58 .skip (.exit 2))
 (.seq (.blk 3 (.seq (.reg [o 0 d59 (.q (.iadr s55 s57 35)),
 o 1 d60 (.q (.ldn s59 35)),
 o 2 d12 (.e (.alo (lapp (zz (.int .u8 (.ofNat 0)) 32) [(.int .u32 (.ofNat 0)), .nils, (.int .u32 (.ofNat 0))]))),
 o 3 none (.e (.st s12 s60 35))])
 (.rgd 0 [o 0 d61 (.q (.mv s0)),
 o 1 d62 (.q (.nck s61)),
 o 2 d63 (.q (.fadr s62 3)),
 o 3 d64 (.q (.ld1 s63)),
 o 4 d65 (.q (.fadr s12 0)),
 o 5 d66 (.q (.ldn s65 33)),
 o 6 none (.e (.mdl s64 s66 (.cells [.u8, .u8, .u8, .u8, .u8, .u8, .u8, .u8, .u8, .u8, .u8, .u8, .u8, .u8, .u8, .u8, .u8, .u8, .u8, .u8, .u8, .u8, .u8, .u8, .u8, .u8, .u8, .u8, .u8, .u8, .u8, .u8, .u32])))])))
 (.reg [o 0 d67 (.q (.bin .add s57 (.v (.int .i64 (.ofNat 1))))),
 o 1 d57 (.q (.mv s67))])))))))
 (.seq (.seq (.reg [o 0 d68 (.q (.fadr s3 2)),
 o 1 d69 (.q (.ld1 s68)),
 o 2 d70 (.q (.lenv s69)),
 o 3 d71 (.q (.mv (.v (.int .i64 (.ofNat 0)))))])
 (.blk 4 (.loop (.seq (.reg [o 0 d72 (.q (.bin .lss s71 s70))])
 (.seq (.cnd s72 .skip (.exit 4))
 (.seq (.blk 5 (.seq (.reg [o 0 d73 (.q (.mv s71)),
 o 1 d13 (.q (.mv s73))])
 (.rgd 0 [o 0 d74 (.q (.mv s0)),
 o 1 d75 (.q (.nck s74)),
 o 2 d76 (.q (.fadr s75 2)),
 o 3 d77 (.q (.ld1 s76)),
 o 4 d78 (.q (.ldn s5 32)),
 o 5 d79 (.q (.mv s13)),
 o 6 d80 (.q (.cvi .u32 s79)),
 o 7 d81 (.q (.bld (lapp (zz (.int .u8 (.ofNat 0)) 32) [(.int .u32 (.ofNat 0))]) [(0, 32, s78), (32, 1, s80)])),
 o 8 none (.e (.mdl s77 s81 (.cells [.u8, .u8, .u8, .u8, .u8, .u8, .u8, .u8, .u8, .u8, .u8, .u8, .u8, .u8, .u8, .u8, .u8, .u8, .u8, .u8, .u8, .u8, .u8, .u8, .u8, .u8, .u8, .u8, .u8, .u8, .u8, .u8, .u32])))])))
 (.reg [o 0 d82 (.q (.bin .add s71 (.v (.int .i64 (.ofNat 1))))),
 o 1 d71 (.q (.mv s82))])))))))
 (.seq (.reg [o 0 d4 (.q (.mv (.v .nili)))])
 .ret))))))))
 [.t p4]

noncomputable def f15 : FnE := .code 9
 (.seq (.reg [o 0 d4 (.q (.mv (.v (.bool false))))])
 (.seq (.reg [o 0 d5 (.q (.mv s0)),
 o 1 d6 (.q (.mv s1)),
 o 2 d7 (.call p40 [s6]),
 o 3 d8 (.call p39 [s5, s7]),
 o 4 d4 (.q (.mv s8))])
 .ret))
 [.t p4]

noncomputable def f16 : FnE := .code 8
 (.seq (.reg [o 0 d2 (.q (.mv (.v (.int .i64 (.ofNat 0)))))])
 (.seq (.reg [o 0 d3 (.q (.mv s0)),
 o 1 d4 (.q (.nck s3)),
 o 2 d5 (.q (.fadr s4 0)),
 o 3 d6 (.q (.ld1 s5)),
 o 4 d7 (.q (.lenm s6)),
 o 5 d2 (.q (.mv s7))])
 .ret))
 [.t p2]

noncomputable def f20 : FnE := .code 19
 (.seq (.reg [o 0 d3 (.e (.box s1 33)),
 o 1 d4 (.e (.alo (lapp [(.int .u64 (.ofNat 0))] (lapp (zz (.int .u8 (.ofNat 0)) 32) [(.int .i64 (.ofNat 0)), (.bool false)])))),
 o 2 d5 (.q (.mv (.v (.bool false))))])
 (.seq (.rgd 0 [o 0 d9 (.q (.mv s0)),
 o 1 d10 (.q (.nck s9)),
 o 2 d11 (.q (.fadr s10 0)),
 o 3 d12 (.q (.ld1 s11)),
 o 4 d13 (.q (.ldn s3 33)),
 o 5 d14 (.q (.lkp s12 s13 (.cells [.u8, .u8, .u8, .u8, .u8, .u8, .u8, .u8, .u8, .u8, .u8, .u8, .u8, .u8, .u8, .u8, .u8, .u8, .u8, .u8, .u8, .u8, .u8, .u8, .u8, .u8, .u8, .u8, .u8, .u8, .u8, .u8, .u32]) (.agg (lapp [(.int .u64 (.ofNat 0))] (lapp (zz (.int .u8 (.ofNat 0)) 32) [(.int .i64 (.ofNat 0)), (.bool false)]))) true)),
 o 6 d8 (.q (.mv s14)),
 o 7 d15 (.q (.ext s8 0)),
 o 8 d16 (.q (.ext s8 1)),
 ⟨9, d6, (.e (.alo (lapp [(.int .u64 (.ofNat 0))] (lapp (zz (.int .u8 (.ofNat 0)) 32) [(.int .i64 (.ofNat 0)), (.bool false)])))), none, [(p12, .ld1 s11, none), (p13, .ldn s3 33, none), (p14, .lkp s12 s13 (.cells [.u8, .u8, .u8, .u8, .u8, .u8, .u8, .u8, .u8, .u8, .u8, .u8, .u8, .u8, .u8, .u8, .u8, .u8, .u8, .u8, .u8, .u8, .u8, .u8, .u8, .u8, .u8, .u8, .u8, .u8, .u8, .u8, .u32]) (.agg (lapp [(.int .u64 (.ofNat 0))] (lapp (zz (.int .u8 (.ofNat 0)) 32) [(.int .i64 (.ofNat 0)), (.bool false)]))) true, none)]⟩,
 o 10 none (.e (.st s6 s15 35)),
 o 11 d7 (.q (.mv s16))])
 (.seq (.reg [o 0 d17 (.q (.ldn s6 35)),
 o 1 d18 (.q (.mv s7)),
 o 2 none (.e (.st s4 s17 35)),
 o 3 d5 (.q (.mv s18))])
 .ret)))
 [.cn p4 35, .t p5]

noncomputable def f34 : FnE := .code 6
 (.seq (.reg [o 0 d1 (.e (.box s0 4)),
 o 1 d2 (.e (.alo (zz (.int .u8 (.ofNat 0)) 32)))])
 (.seq (.reg [o 0 d3 (.q (.ldn s1 4)),
 o 1 d4 (.call p58 [s3]),
 o 2 d5 (.call p57 [s4]),
 o 3 none (.e (.st s2 s5 32))])
 .ret))
 [.cn p2 32]

noncomputable def f35 : FnE := .code 27
 (.seq (.reg [o 0 d3 (.e (.box s1 33)),
 o 1 d4 (.e (.alo (lapp [(.int .u64 (.ofNat 0))] (lapp (zz (.int .u8 (.ofNat 0)) 32) [(.int .i64 (.ofNat 0)), (.bool false)])))),
 o 2 d5 (.q (.mv (.v (.bool false))))])
 (.seq (.seq (.rgd 0 [o 0 d9 (.q (.mv s0)),
 o 1 d10 (.q (.nck s9)),
 o 2 d11 (.q (.fadr s10 2)),
 o 3 d12 (.q (.ld1 s11)),
 o 4 d13 (.q (.ldn s3 33)),
 o 5 d14 (.q (.lkp s12 s13 (.cells [.u8, .u8, .u8, .u8, .u8, .u8, .u8, .u8, .u8, .u8, .u8, .u8, .u8, .u8, .u8, .u8, .u8, .u8, .u8, .u8, .u8, .u8, .u8, .u8, .u8, .u8, .u8, .u8, .u8, .u8, .u8, .u8, .u32]) (.agg (lapp [(.int .u64 (.ofNat 0))] (lapp (zz (.int .u8 (.ofNat 0)) 32) [(.int .i64 (.ofNat 0)), (.bool false)]))) true)),
 o 6 d8 (.q (.mv s14)),
 o 7 d15 (.q (.ext s8 0)),
 o 8 d16 (.q (.ext s8 1)),
 ⟨9, d6, (.e (.alo (lapp [(.int .u64 (.ofNat 0))] (lapp (zz (.int .u8 (.ofNat 0)) 32) [(.int .i64 (.ofNat 0)), (.bool false)])))), none, [(p12, .ld1 s11, none), (p13, .ldn s3 33, none), (p14, .lkp s12 s13 (.cells [.u8, .u8, .u8, .u8, .u8, .u8, .u8, .u8, .u8, .u8, .u8, .u8, .u8, .u8, .u8, .u8, .u8, .u8, .u8, .u8, .u8, .u8, .u8, .u8, .u8, .u8, .u8, .u8, .u8, .u8, .u8, .u8, .u32]) (.agg (lapp [(.int .u64 (.ofNat 0))] (lapp (zz (.int .u8 (.ofNat 0)) 32) [(.int .i64 (.ofNat 0)), (.bool false)]))) true, none)]⟩,
 o 10 none (.e (.st s6 s15 35)),
 o 11 d7 (.q (.mv s16))])
 (.seq (.reg [o 0 d17 (.q (.mv s7))])
 (.cnd s17 (.seq (.reg [o 0 d18 (.q (.ldn s6 35)),
 o 1 none (.e (.st s4 s18 35)),
 o 2 d5 (.q (.mv (.v (.bool true))))])
 .ret) .skip)))
 (.seq (.rgd 0 [o 0 d19 (.q (.mv s0)),
 o 1 d20 (.q (.nck s19)),
 o 2 d21 (.q (.fadr s20 0)),
 o 3 d22 (.q (.ld1 s21)),
 o 4 d23 (.q (.ldn s3 33)),
 o 5 d24 (.call p20 [s22, s23]),
 o 6 d25 (.q (.ext s24 0)),
 o 7 d26 (.q (.ext s24 1)),
 o 8 none (.e (.st s4 s25 35)),
 o 9 d5 (.q (.mv s26))])
 .ret)))
 [.cn p4 35, .t p5]

noncomputable def f36 : FnE := .code 32
 (.seq (.reg [o 0 d1 (.e (.box s0 4)),
 o 1 d2 (.e (.alo [(.int .u32 (.ofNat 0)), .nils, .nils, (.int .u32 (.ofNat 0))]))])
 (.seq (.rgd 0 [o 0 d4 (.q (.fadr s1 1)),
 o 1 d5 (.q (.ld1 s4)),
 o 3 d7 (.q (.fadr s1 2)),
 o 4 d8 (.q (.ld1 s7)),
 ⟨2, d6, (.call p59 [s5]), none, [(p8, .ld1 s7, none)]⟩,
 o 5 d9 (.call p60 [s8]),
 o 6 d10 (.q (.fadr s1 1)),
 o 7 none (.e (.st s10 s6 1)),
 o 8 d11 (.q (.fadr s1 2)),
 o 9 none (.e (.st s11 s9 1))])
 (.seq (.seq (.reg [o 0 d12 (.q (.fadr s1 1)),
 o 1 d13 (.q (.ld1 s12)),
 o 2 d14 (.q (.lenv s13)),
 o 3 d15 (.q (.mv (.v (.int .i64 (.ofNat 0)))))])
 (.blk 0 (.loop (.seq (.reg [o 0 d16 (.q (.bin .lss s15 s14))])
 (.seq (.cnd s16 .skip (.exit 0))
 (.seq (.blk 1 (.seq (.reg [o 0 d17 (.q (.mv s15)),
 o 1 d3 (.q (.mv s17))])
 (.rgd 0 [o 0 d18 (.q (.fadr s1 1)),
 o 1 d19 (.q (.ld1 s18)),
 o 2 d20 (.q (.mv s3)),
 o 3 d21 (.q (.fadr s1 1)),
 o 4 d22 (.q (.ld1 s21)),
 o 5 d23 (.q (.mv s3)),
 o 6 d24 (.q (.iadr s22 s23 35)),
 o 7 d25 (.q (.fadr s24 33)),
 o 8 d26 (.q (.ld1 s25)),
 ⟨9, d27, (.call p61 [s26]), none, [(p19, .ld1 s18, none)]⟩,
 o 10 d28 (.q (.iadr s19 s20 35)),
 o 11 d29 (.q (.fadr s28 33)),
 o 12 none (.e (.st s29 s27 1))])))
 (.reg [o 0 d30 (.q (.bin .add s15 (.v (.int .i64 (.ofNat 1))))),
 o 1 d15 (.q (.mv s30))])))))))
 (.seq (.reg [o 0 d31 (.q (.ldn s1 4)),
 o 1 none (.e (.st s2 s31 4))])
 .ret))))
 [.cn p2 4]

noncomputable def f37 : FnE := .code 8
 (.seq (.reg [o 0 d2 (.e (.alo (zz (.int .u8 (.ofNat 0)) 32)))])
 (.seq (.reg [o 0 d4 (.q (.mv s0)),
 o 1 d5 (.call p62 [s4]),
 o 2 d3 (.e (.alo (zz (.int .u8 (.ofNat 0)) 32))),
 o 3 none (.e (.st s3 s5 32))])
 (.seq (.reg [o 0 d6 (.q (.slca s3 none none 1 32)),
 o 1 d7 (.call p62 [s6]),
 o 2 none (.e (.st s2 s7 32))])
 .ret)))
 [.cn p2 32]

noncomputable def f38 : FnE := .code 81
 (.seq (.reg [o 0 d1 (.e (.box s0 4)),
 o 1 d2 (.q (.mv (.v .nils)))])
 (.seq (.rgd 0 [o 0 d7 (.q (.fadr s1 0)),
 o 1 d8 (.q (.ld1 s7)),
 o 3 d10 (.q (.fadr s1 1)),
 o 4 d11 (.q (.ld1 s10)),
 o 5 d12 (.q (.lenv s11)),
 o 6 d13 (.q (.cvi .u64 s12)),
 ⟨2, d9, (.call p64 [(.v .nils), s8]), none, [(p11, .ld1 s10, none)]⟩,
 o 7 d14 (.call p63 [s9, s13]),
 o 8 d3 (.q (.mv s14))])
 (.seq (.seq (.reg [o 0 d4 (.q (.mv (.v (.int .i64 (.ofNat 0)))))])
 (.blk 0 (.loop (.seq (.seq (.reg [o 0 d15 (.q (.mv s4)),
 o 1 d16 (.q (.fadr s1 1)),
 o 2 d17 (.q (.ld1 s16)),
 o 3 d18 (.q (.lenv s17)),
 o 4 d19 (.q (.bin .lss s15 s18))])
 (.cnd s19 .skip (.exit 0)))
 (.seq (.blk 1 (.seq (.reg [o 0 d22 (.q (.fadr s1 1)),
 o 1 d23 (.q (.ld1 s22)),
 o 2 d24 (.q (.mv s4)),
 o 3 d25 (.q (.iadr s23 s24 35)),
 o 4 d26 (.q (.ldn s25 35)),
 o 5 d5 (.e (.alo (lapp (zz (.int .u8 (.ofNat 0)) 32) [(.int .u32 (.ofNat 0)), .nils, (.int .u32 (.ofNat 0))]))),
 o 6 none (.e (.st s5 s26 35))])
 (.seq (.reg [o 0 d27 (.q (.mv s3)),
 o 1 d28 (.q (.fadr s5 0)),
 o 2 d29 (.q (.fadr s28 0)),
 o 3 d30 (.q (.slca s29 none none 1 32)),
 o 4 d31 (.e (.app s27 s30 1 1 false)),
 o 5 d3 (.q (.mv s31))])
 (.seq (.rgd 0 [o 0 d32 (.q (.mv s3)),
 o 1 d33 (.q (.fadr s5 0)),
 o 2 d34 (.q (.fadr s33 32)),
 o 3 d35 (.q (.ld1 s34)),
 o 5 d37 (.q (.fadr s5 33)),
 o 6 d38 (.q (.ld1 s37)),
 o 7 d39 (.q (.lenv s38)),
 o 8 d40 (.q (.cvi .u64 s39)),
 ⟨4, d36, (.call p64 [s32, s35]), none, [(p38, .ld1 s37, none)]⟩,
 o 9 d41 (.call p63 [s36, s40]),
 o 10 d3 (.q (.mv s41))])
 (.rgd 0 [o 0 d42 (.q (.mv s3)),
 o 1 d43 (.q (.fadr s5 33)),
 o 2 d44 (.q (.ld1 s43)),
 o 4 d46 (.q (.fadr s5 34)),
 o 5 d47 (.q (.ld1 s46)),
 ⟨3, d45, (.e (.app s42 s44 1 1 false)), none, [(p47, .ld1 s46, none)]⟩,
 o 6 d48 (.call p64 [s45, s47]),
 o 7 d3 (.q (.mv s48))])))))
 (.reg [o 0 d20 (.q (.mv s4)),
 o 1 d21 (.q (.bin .add s20 (.v (.int .i64 (.ofNat 1))))),
 o 2 d4 (.q (.mv s21))]))))))
 (.seq (.reg [o 0 d49 (.q (.mv s3)),
 o 1 d50 (.q (.fadr s1 2)),
 o 2 d51 (.q (.ld1 s50)),
 o 3 d52 (.q (.lenv s51)),
 o 4 d53 (.q (.cvi .u64 s52)),
 o 5 d54 (.call p63 [s49, s53]),
 o 6 d3 (.q (.mv s54))])
 (.seq (.seq (.reg [o 0 d6 (.q (.mv (.v (.int .i64 (.ofNat 0)))))])
 (.blk 2 (.loop (.seq (.seq (.reg [o 0 d55 (.q (.mv s6)),
 o 1 d56 (.q (.fadr s1 2)),
 o 2 d57 (.q (.ld1 s56)),
 o 3 d58 (.q (.lenv s57)),
 o 4 d59 (.q (.bin .lss s55 s58))])
 (.cnd s59 .skip (.exit 2)))
 (.seq (.blk 3 (.rgd 0 [o 0 d62 (.q (.mv s3)),
 o 1 d63 (.q (.fadr s1 2)),
 o 2 d64 (.q (.ld1 s63)),
 o 3 d65 (.q (.mv s6)),
 o 4 d66 (.q (.iadr s64 s65 33)),
 o 5 d67 (.q (.fadr s66 0)),
 o 6 d68 (.q (.ld1 s67)),
 o 8 d70 (.q (.fadr s1 2)),
 o 9 d71 (.q (.ld1 s70)),
 o 10 d72 (.q (.mv s6)),
 o 11 d73 (.q (.iadr s71 s72 33)),
 o 12 d74 (.q (.fadr s73 1)),
 o 13 d75 (.q (.slca s74 none none 1 32)),
 ⟨7, d69, (.call p65 [s62, s68]), none, [(p71, .ld1 s70, none), (p75, .slca s74 none none 1 32, none)]⟩,
 o 14 d76 (.e (.app s69 s75 1 1 false)),
 o 15 d3 (.q (.mv s76))]))
 (.reg [o 0 d60 (.q (.mv s6)),
 o 1 d61 (.q (.bin .add s60 (.v (.int .i64 (.ofNat 1))))),
 o 2 d6 (.q (.mv s61))]))))))
 (.seq (.reg [o 0 d77 (.q (.mv s3)),
 o 1 d78 (.q (.fadr s1 3)),
 o 2 d79 (.q (.ld1 s78)),
 o 3 d80 (.call p64 [s77, s79]),
 o 4 d2 (.q (.mv s80))])
 .ret))))))
 [.t p2]

noncomputable def f39 : FnE := .code 9
 (.seq (.reg [o 0 d3 (.e (.box s1 5)),
 o 1 d4 (.q (.mv (.v (.bool false))))])
 (.seq (.rgd 0 [o 0 d5 (.q (.mv s0)),
 o 2 d7 (.q (.ldn s3 5)),
 ⟨1, d6, (.call p67 [s5]), none, [(p7, .ldn s3 5, none)]⟩,
 o 3 d8 (.call p66 [s6, s7]),
 o 4 d4 (.q (.mv s8))])
 .ret))
 [.t p4]

noncomputable def f40 : FnE := .code 5
 (.seq (.reg [o 0 d2 (.e (.alo [(.int .i64 (.ofNat 0)), (.bool false), (.int .i64 (.ofNat 0)), (.bool false), (.int .i64 (.ofNat 0))]))])
 (.seq (.reg [o 0 d3 (.q (.mv s0)),
 o 1 d4 (.q (.bld [(.int .i64 (.ofNat 0)), (.bool false), (.int .i64 (.ofNat 0)), (.bool false), (.int .i64 (.ofNat 0))] [(0, 1, s3)])),
 o 2 none (.e (.st s2 s4 5))])
 .ret))
 [.cn p2 5]

noncomputable def f44 : FnE := .code 60
 (.seq (.reg [o 0 d6 (.q (.mv s0)),
 o 1 d7 (.call p72 [s6]),
 o 2 d4 (.e (.alo (zz (.int .u32 (.ofNat 0)) 8))),
 o 3 none (.e (.st s4 s7 8))])
 (.seq (.reg [o 0 d8 (.q (.mv s0)),
 o 1 d9 (.q (.nck s8)),
 o 2 d10 (.q (.fadr s9 9)),
 o 3 d11 (.q (.ld1 s10)),
 o 4 d12 (.q (.mv s1)),
 o 5 d13 (.q (.lenv s12)),
 o 6 d14 (.q (.bin .add s11 s13)),
 o 7 d15 (.q (.nck s8)),
 o 8 d16 (.q (.fadr s15 9)),
 o 9 none (.e (.st s16 s14 1))])
 (.seq (.reg [o 0 d17 (.q (.mv s0)),
 o 1 d18 (.q (.mv s0)),
 o 2 d19 (.q (.nck s18)),
 o 3 d20 (.q (.fadr s19 8)),
 o 4 d21 (.q (.ld1 s20)),
 o 5 d22 (.q (.mv s1)),
 o 6 d23 (.e (.app s21 s22 1 1 false)),
 o 7 d24 (.q (.nck s17)),
 o 8 d25 (.q (.fadr s24 8)),
 o 9 none (.e (.st s25 s23 1))])
 (.seq (.reg [o 0 d5 (.q (.mv (.v (.int .i64 (.ofNat 0)))))])
 (.seq (.blk 0 (.loop (.seq (.seq (.reg [o 0 d26 (.q (.mv s5)),
 o 1 d27 (.q (.bin .add s26 (.v (.int .i64 (.ofNat 64))))),
 o 2 d28 (.q (.mv s0)),
 o 3 d29 (.q (.nck s28)),
 o 4 d30 (.q (.fadr s29 8)),
 o 5 d31 (.q (.ld1 s30)),
 o 6 d32 (.q (.lenv s31)),
 o 7 d33 (.q (.bin .leq s27 s32))])
 (.cnd s33 .skip (.exit 0)))
 (.seq (.blk 1 (.rgd 0 [o 0 d36 (.q (.ldn s4 8)),
 o 1 d37 (.q (.mv s0)),
 o 2 d38 (.q (.nck s37)),
 o 3 d39 (.q (.fadr s38 8)),
 o 4 d40 (.q (.ld1 s39)),
 o 5 d41 (.q (.mv s5)),
 o 6 d42 (.q (.mv s5)),
 o 7 d43 (.q (.bin .add s42 (.v (.int .i64 (.ofNat 64))))),
 o 8 d44 (.q (.slc s40 (some s41) (some s43) 1)),
 o 9 d45 (.call p73 [s36, s44]),
 o 10 none (.e (.st s4 s45 8))]))
 (.reg [o 0 d34 (.q (.mv s5)),
 o 1 d35 (.q (.bin .add s34 (.v (.int .i64 (.ofNat 64))))),
 o 2 d5 (.q (.mv s35))])))))
 (.rgd 0 [o 0 d46 (.q (.mv s0)),
 o 1 d47 (.q (.mv s0)),
 o 2 d48 (.q (.ldn s4 8)),
 o 3 d49 (.q (.mv s0)),
 o 4 d50 (.q (.nck s49)),
 o 5 d51 (.q (.fadr s50 8)),
 o 6 d52 (.q (.ld1 s51)),
 o 7 d53 (.q (.mv s5)),
 o 8 d54 (.q (.slc s52 (some s53) none 1)),
 ⟨9, d55, (.call p61 [s54]), none, [(p48, .ldn s4 8, none)]⟩,
 o 10 d56 (.q (.nck s46)),
 o 11 d57 (.q (.fadr s56 0)),
 o 12 none (.e (.st s57 s48 8)),
 o 13 d58 (.q (.nck s47)),
 o 14 d59 (.q (.fadr s58 8)),
 o 15 none (.e (.st s59 s55 1))]))))))
 []

noncomputable def f46 : FnE := .code 79
 (.seq (.reg [o 0 d2 (.e (.alo (zz (.int .u8 (.ofNat 0)) 32)))])
 (.seq (.reg [o 0 d11 (.q (.mv s0)),
 o 1 d12 (.q (.nck s11)),
 o 2 d13 (.q (.fadr s12 8)),
 o 3 d14 (.q (.ld1 s13)),
 o 4 d15 (.call p61 [s14]),
 o 5 d16 (.e (.bsl [(.int .u8 (.ofNat 0))] [(0, 1, (.v (.int .u8 (.ofNat 128))))] 1 1)),
 o 6 d17 (.e (.app s15 s16 1 1 false)),
 o 7 d3 (.q (.mv s17))])
 (.seq (.blk 0 (.loop (.seq (.seq (.reg [o 0 d18 (.q (.mv s3)),
 o 1 d19 (.q (.lenv s18)),
 o 2 d20 (.q (.bin .rem s19 (.v (.int .i64 (.ofNat 64))))),
 o 3 d21 (.q (.bin .neq s20 (.v (.int .i64 (.ofNat 56)))))])
 (.cnd s21 .skip (.exit 0)))
 (.blk 1 (.reg [o 0 d22 (.q (.mv s3)),
 o 1 d23 (.e (.bsl [(.int .u8 (.ofNat 0))] [(0, 1, (.v (.int .u8 (.ofNat 0))))] 1 1)),
 o 2 d24 (.e (.app s22 s23 1 1 false)),
 o 3 d3 (.q (.mv s24))])))))
 (.seq (.seq (.reg [o 0 d4 (.q (.mv (.v (.int .i64 (.ofNat 7)))))])
 (.blk 2 (.loop (.seq (.seq (.reg [o 0 d25 (.q (.mv s4)),
 o 1 d26 (.q (.bin .geq s25 (.v (.int .i64 (.ofNat 0)))))])
 (.cnd s26 .skip (.exit 2)))
 (.seq (.blk 3 (.reg [o 0 d29 (.q (.mv s3)),
 o 1 d30 (.q (.mv s0)),
 o 2 d31 (.q (.nck s30)),
 o 3 d32 (.q (.fadr s31 9)),
 o 4 d33 (.q (.ld1 s32)),
 o 5 d34 (.q (.cvi .u64 s33)),
 o 6 d35 (.q (.shf true s34 (.v (.int .u64 (.ofNat 3))))),
 o 7 d36 (.q (.mv s4)),
 o 8 d37 (.q (.bin .mul (.v (.int .i64 (.ofNat 8))) s36)),
 o 9 d38 (.q (.shf false s35 s37)),
 o 10 d39 (.q (.cvi .u8 s38)),
 o 11 d40 (.e (.bsl [(.int .u8 (.ofNat 0))] [(0, 1, s39)] 1 1)),
 o 12 d41 (.e (.app s29 s40 1 1 false)),
 o 13 d3 (.q (.mv s41))]))
 (.reg [o 0 d27 (.q (.mv s4)),
 o 1 d28 (.q (.bin .sub s27 (.v (.int .i64 (.ofNat 1))))),
 o 2 d4 (.q (.mv s28))]))))))
 (.seq (.reg [o 0 d42 (.q (.mv s0)),
 o 1 d43 (.call p72 [s42]),
 o 2 d5 (.e (.alo (zz (.int .u32 (.ofNat 0)) 8))),
 o 3 none (.e (.st s5 s43 8))])
 (.seq (.seq (.reg [o 0 d6 (.q (.mv (.v (.int .i64 (.ofNat 0)))))])
 (.blk 4 (.loop (.seq (.seq (.reg [o 0 d44 (.q (.mv s6)),
 o 1 d45 (.q (.mv s3)),
 o 2 d46 (.q (.lenv s45)),
 o 3 d47 (.q (.bin .lss s44 s46))])
 (.cnd s47 .skip (.exit 4)))
 (.seq (.blk 5 (.rgd 0 [o 0 d50 (.q (.ldn s5 8)),
 o 1 d51 (.q (.mv s3)),
 o 2 d52 (.q (.mv s6)),
 o 3 d53 (.q (.mv s6)),
 o 4 d54 (.q (.bin .add s53 (.v (.int .i64 (.ofNat 64))))),
 o 5 d55 (.q (.slc s51 (some s52) (some s54) 1)),
 o 6 d56 (.call p73 [s50, s55]),
 o 7 none (.e (.st s5 s56 8))]))
 (.reg [o 0 d48 (.q (.mv s6)),
 o 1 d49 (.q (.bin .add s48 (.v (.int .i64 (.ofNat 64))))),
 o 2 d6 (.q (.mv s49))]))))))
 (.seq (.reg [o 0 d7 (.e (.alo (zz (.int .u8 (.ofNat 0)) 32)))])
 (.seq (.seq (.reg [o 0 d57 (.q (.ldn s5 8)),
 o 1 d58 (.q (.mv (.v (.int .i64 (.ofNat 0)))))])
 (.blk 6 (.loop (.seq (.reg [o 0 d59 (.q (.bin .lss s58 (.v (.int .i64 (.ofNat 8)))))])
 (.seq (.cnd s59 .skip (.exit 6))
 (.seq (.blk 7 (.seq (.reg [o 0 d60 (.q (.mv s58)),
 o 1 d61 (.q (.idxa s57 s58 1 8 false)),
 o 2 d8 (.q (.mv s60)),
 o 3 d9 (.q (.mv s61))])
 (.seq (.reg [o 0 d62 (.q (.mv (.v (.int .i64 (.ofNat 0)))))])
 (.blk 8 (.loop (.seq (.reg [o 0 d63 (.q (.bin .lss s62 (.v (.int .i64 (.ofNat 4)))))])
 (.seq (.cnd s63 .skip (.exit 8))
 (.seq (.blk 9 (.seq (.reg [o 0 d64 (.q (.mv s62)),
 o 1 d10 (.q (.mv s64))])
 (.reg [o 0 d65 (.q (.mv s8)),
 o 1 d66 (.q (.bin .mul (.v (.int .i64 (.ofNat 4))) s65)),
 o 2 d67 (.q (.mv s10)),
 o 3 d68 (.q (.bin .add s66 s67)),
 o 4 d69 (.q (.mv s9)),
 o 5 d70 (.q (.mv s10)),
 o 6 d71 (.q (.bin .mul (.v (.int .i64 (.ofNat 8))) s70)),
 o 7 d72 (.q (.bin .sub (.v (.int .i64 (.ofNat 24))) s71)),
 o 8 d73 (.q (.shf false s69 s72)),
 o 9 d74 (.q (.cvi .u8 s73)),
 o 10 d75 (.q (.iada s7 s68 1 32)),
 o 11 none (.e (.st s75 s74 1))])))
 (.reg [o 0 d76 (.q (.bin .add s62 (.v (.int .i64 (.ofNat 1))))),
 o 1 d62 (.q (.mv s76))])))))))))
 (.reg [o 0 d77 (.q (.bin .add s58 (.v (.int .i64 (.ofNat 1))))),
 o 1 d58 (.q (.mv s77))])))))))
 (.seq (.reg [o 0 d78 (.q (.ldn s7 32)),
 o 1 none (.e (.st s2 s78 32))])
 .ret)))))))))
 [.cn p2 32]

noncomputable def f57 : FnE := .code 8
 (.seq (.reg [o 0 d2 (.e (.alo (zz (.int .u8 (.ofNat 0)) 32)))])
 (.seq (.reg [o 0 d4 (.q (.mv s0)),
 o 1 d5 (.call p82 [s4]),
 o 2 d3 (.e (.alo (zz (.int .u8 (.ofNat 0)) 32))),
 o 3 none (.e (.st s3 s5 32))])
 (.seq (.reg [o 0 d6 (.q (.slca s3 none none 1 32)),
 o 1 d7 (.call p82 [s6]),
 o 2 none (.e (.st s2 s7 32))])
 .ret)))
 [.cn p2 32]

noncomputable def f58 : FnE := .code 72
 (.seq (.reg [o 0 d1 (.e (.box s0 4)),
 o 1 d2 (.q (.mv (.v .nils)))])
 (.seq (.reg [o 0 d8 (.q (.fadr s1 0)),
 o 1 d9 (.q (.ld1 s8)),
 o 2 d10 (.call p74 [(.v .nils), s9]),
 o 3 d3 (.q (.mv s10))])
 (.seq (.reg [o 0 d11 (.q (.mv s3)),
 o 1 d12 (.q (.fadr s1 1)),
 o 2 d13 (.q (.ld1 s12)),
 o 3 d14 (.q (.lenv s13)),
 o 4 d15 (.q (.cvi .u64 s14)),
 o 5 d16 (.call p83 [s11, s15]),
 o 6 d3 (.q (.mv s16))])
 (.seq (.seq (.reg [o 0 d17 (.q (.fadr s1 1)),
 o 1 d18 (.q (.ld1 s17)),
 o 2 d19 (.q (.lenv s18)),
 o 3 d20 (.q (.mv (.v (.int .i64 (.ofNat 0)))))])
 (.blk 0 (.loop (.seq (.reg [o 0 d21 (.q (.bin .lss s20 s19))])
 (.seq (.cnd s21 .skip (.exit 0))
 (.seq (.blk 1 (.seq (.reg [o 0 d22 (.q (.iadr s18 s20 35)),
 o 1 d23 (.q (.ldn s22 35)),
 o 2 d5 (.e (.alo (lapp (zz (.int .u8 (.ofNat 0)) 32) [(.int .u32 (.ofNat 0)), .nils, (.int .u32 (.ofNat 0))]))),
 o 3 none (.e (.st s5 s23 35))])
 (.seq (.rgd 0 [o 0 d24 (.q (.mv s3)),
 o 1 d25 (.q (.fadr s5 0)),
 o 2 d26 (.q (.fadr s25 0)),
 o 3 d27 (.q (.slca s26 none none 1 32)),
 o 5 d29 (.q (.fadr s5 0)),
 o 6 d30 (.q (.fadr s29 32)),
 o 7 d31 (.q (.ld1 s30)),
 ⟨4, d28, (.e (.app s24 s27 1 1 false)), none, [(p31, .ld1 s30, none)]⟩,
 o 8 d32 (.call p74 [s28, s31]),
 o 9 d3 (.q (.mv s32))])
 (.seq (.rgd 0 [o 0 d33 (.q (.mv s3)),
 o 1 d34 (.q (.fadr s5 33)),
 o 2 d35 (.q (.ld1 s34)),
 o 3 d36 (.q (.lenv s35)),
 o 4 d37 (.q (.cvi .u64 s36)),
 o 6 d39 (.q (.fadr s5 33)),
 o 7 d40 (.q (.ld1 s39)),
 ⟨5, d38, (.call p83 [s33, s37]), none, [(p40, .ld1 s39, none)]⟩,
 o 8 d41 (.e (.app s38 s40 1 1 false)),
 o 9 d3 (.q (.mv s41))])
 (.reg [o 0 d42 (.q (.mv s3)),
 o 1 d43 (.q (.fadr s5 34)),
 o 2 d44 (.q (.ld1 s43)),
 o 3 d45 (.call p74 [s42, s44]),
 o 4 d3 (.q (.mv s45))])))))
 (.reg [o 0 d46 (.q (.bin .add s20 (.v (.int .i64 (.ofNat 1))))),
 o 1 d20 (.q (.mv s46))])))))))
 (.seq (.reg [o 0 d47 (.q (.mv s3)),
 o 1 d48 (.q (.fadr s1 2)),
 o 2 d49 (.q (.ld1 s48)),
 o 3 d50 (.q (.lenv s49)),
 o 4 d51 (.q (.cvi .u64 s50)),
 o 5 d52 (.call p83 [s47, s51]),
 o 6 d3 (.q (.mv s52))])
 (.seq (.seq (.reg [o 0 d53 (.q (.fadr s1 2)),
 o 1 d54 (.q (.ld1 s53)),
 o 2 d55 (.q (.lenv s54)),
 o 3 d56 (.q (.mv (.v (.int .i64 (.ofNat 0)))))])
 (.blk 2 (.loop (.seq (.reg [o 0 d57 (.q (.bin .lss s56 s55))])
 (.seq (.cnd s57 .skip (.exit 2))
 (.seq (.blk 3 (.seq (.reg [o 0 d58 (.q (.iadr s54 s56 33)),
 o 1 d59 (.q (.ldn s58 33)),
 o 2 d7 (.e (.alo (lapp [(.int .u64 (.ofNat 0))] (zz (.int .u8 (.ofNat 0)) 32)))),
 o 3 none (.e (.st s7 s59 33))])
 (.rgd 0 [o 0 d60 (.q (.mv s3)),
 o 1 d61 (.q (.fadr s7 0)),
 o 2 d62 (.q (.ld1 s61)),
 o 4 d64 (.q (.fadr s7 1)),
 o 5 d65 (.q (.slca s64 none none 1 32)),
 ⟨3, d63, (.call p75 [s60, s62]), none, [(p65, .slca s64 none none 1 32, none)]⟩,
 o 6 d66 (.e (.app s63 s65 1 1 false)),
 o 7 d3 (.q (.mv s66))])))
 (.reg [o 0 d67 (.q (.bin .add s56 (.v (.int .i64 (.ofNat 1))))),
 o 1 d56 (.q (.mv s67))])))))))
 (.seq (.reg [o 0 d68 (.q (.mv s3)),
 o 1 d69 (.q (.fadr s1 3)),
 o 2 d70 (.q (.ld1 s69)),
 o 3 d71 (.call p74 [s68, s70]),
 o 4 d2 (.q (.mv s71))])
 .ret)))))))
 [.t p2]

noncomputable def f59 : FnE := .code 8
 (.seq (.reg [o 0 d2 (.q (.mv (.v .nils)))])
 (.seq (.seq (.reg [o 0 d3 (.q (.mv s0)),
 o 1 d4 (.q (.eqp .slice false s3 (.v .nils)))])
 (.cnd s4 (.seq (.reg [o 0 d2 (.q (.mv (.v .nils)))])
 .ret) .skip))
 (.seq (.reg [o 0 d5 (.e (.bsl [] [] 0 35)),
 o 1 d6 (.q (.mv s0)),
 o 2 d7 (.e (.app s5 s6 35 72 false)),
 o 3 d2 (.q (.mv s7))])
 .ret)))
 [.t p2]

noncomputable def f60 : FnE := .code 8
 (.seq (.reg [o 0 d2 (.q (.mv (.v .nils)))])
 (.seq (.seq (.reg [o 0 d3 (.q (.mv s0)),
 o 1 d4 (.q (.eqp .slice false s3 (.v .nils)))])
 (.cnd s4 (.seq (.reg [o 0 d2 (.q (.mv (.v .nils)))])
 .ret) .skip))
 (.seq (.reg [o 0 d5 (.e (.bsl [] [] 0 33)),
 o 1 d6 (.q (.mv s0)),
 o 2 d7 (.e (.app s5 s6 33 40 false)),
 o 3 d2 (.q (.mv s7))])
 .ret)))
 [.t p2]

noncomputable def f61 : FnE := .code 8
 (.seq (.reg [o 0 d2 (.q (.mv (.v .nils)))])
 (.seq (.seq (.reg [o 0 d3 (.q (.mv s0)),
 o 1 d4 (.q (.eqp .slice false s3 (.v .nils)))])
 (.cnd s4 (.seq (.reg [o 0 d2 (.q (.mv (.v .nils)))])
 .ret) .skip))
 (.seq (.reg [o 0 d5 (.e (.bsl [] [] 0 1)),
 o 1 d6 (.q (.mv s0)),
 o 2 d7 (.e (.app s5 s6 1 1 false)),
 o 3 d2 (.q (.mv s7))])
 .ret)))
 [.t p2]

noncomputable def f62 : FnE := .code 282
 (.seq (.reg [o 0 d2 (.e (.alo (zz (.int .u8 (.ofNat 0)) 32)))])
 (.seq (.reg [o 0 d23 (.e (.bsl (zz (.int .u32 (.ofNat 0)) 8) [(0, 1, (.v (.int .u32 (.ofNat 1779033703)))), (1, 1, (.v (.int .u32 (.ofNat 3144134277)))), (2, 1, (.v (.int .u32 (.ofNat 1013904242)))), (3, 1, (.v (.int .u32 (.ofNat 2773480762)))), (4, 1, (.v (.int .u32 (.ofNat 1359893119)))), (5, 1, (.v (.int .u32 (.ofNat 2600822924)))), (6, 1, (.v (.int .u32 (.ofNat 528734635)))), (7, 1, (.v (.int .u32 (.ofNat 1541459225))))] 8 1)),
 o 1 d3 (.q (.mv s23))])
 (.seq (.reg [o 0 d24 (.q (.mv s0)),
 o 1 d25 (.call p84 [s24]),
 o 2 d26 (.e (.bsl [(.int .u8 (.ofNat 0))] [(0, 1, (.v (.int .u8 (.ofNat 128))))] 1 1)),
 o 3 d27 (.e (.app s25 s26 1 1 false)),
 o 4 d4 (.q (.mv s27))])
 (.seq (.blk 0 (.loop (.seq (.seq (.reg [o 0 d28 (.q (.mv s4)),
 o 1 d29 (.q (.lenv s28)),
 o 2 d30 (.q (.bin .rem s29 (.v (.int .i64 (.ofNat 64))))),
 o 3 d31 (.q (.bin .neq s30 (.v (.int .i64 (.ofNat 56)))))])
 (.cnd s31 .skip (.exit 0)))
 (.blk 1 (.reg [o 0 d32 (.q (.mv s4)),
 o 1 d33 (.e (.bsl [(.int .u8 (.ofNat 0))] [(0, 1, (.v (.int .u8 (.ofNat 0))))] 1 1)),
 o 2 d34 (.e (.app s32 s33 1 1 false)),
 o 3 d4 (.q (.mv s34))])))))
 (.seq (.reg [o 0 d35 (.q (.mv s0)),
 o 1 d36 (.q (.lenv s35)),
 o 2 d37 (.q (.cvi .u64 s36)),
 o 3 d38 (.q (.bin .mul (.v (.int .u64 (.ofNat 8))) s37)),
 o 4 d5 (.q (.mv s38))])
 (.seq (.seq (.reg [o 0 d6 (.q (.mv (.v (.int .i64 (.ofNat 7)))))])
 (.blk 2 (.loop (.seq (.seq (.reg [o 0 d39 (.q (.mv s6)),
 o 1 d40 (.q (.bin .geq s39 (.v (.int .i64 (.ofNat 0)))))])
 (.cnd s40 .skip (.exit 2)))
 (.seq (.blk 3 (.reg [o 0 d43 (.q (.mv s4)),
 o 1 d44 (.q (.mv s5)),
 o 2 d45 (.q (.mv s6)),
 o 3 d46 (.q (.bin .mul (.v (.int .i64 (.ofNat 8))) s45)),
 o 4 d47 (.q (.cvi .u64 s46)),
 o 5 d48 (.q (.shf false s44 s47)),
 o 6 d49 (.q (.cvi .u8 s48)),
 o 7 d50 (.e (.bsl [(.int .u8 (.ofNat 0))] [(0, 1, s49)] 1 1)),
 o 8 d51 (.e (.app s43 s50 1 1 false)),
 o 9 d4 (.q (.mv s51))]))
 (.reg [o 0 d41 (.q (.mv s6)),
 o 1 d42 (.q (.bin .sub s41 (.v (.int .i64 (.ofNat 1))))),
 o 2 d6 (.q (.mv s42))]))))))
 (.seq (.reg [o 0 d52 (.call p85 []),
 o 1 d7 (.q (.mv s52))])
 (.seq (.seq (.reg [o 0 d8 (.q (.mv (.v (.int .i64 (.ofNat 0)))))])
 (.blk 4 (.loop (.seq (.seq (.reg [o 0 d53 (.q (.mv s8)),
 o 1 d54 (.q (.mv s4)),
 o 2 d55 (.q (.lenv s54)),
 o 3 d56 (.q (.bin .lss s53 s55))])
 (.cnd s56 .skip (.exit 4)))
 (.seq (.blk 5 (.seq (.reg [o 0 d59 (.e (.mks (.v (.int .i64 (.ofNat 64))) (.v (.int .i64 (.ofNat 64))) [(.int .u32 (.ofNat 0))] 1 4)),
 o 1 d9 (.q (.mv s59))])
 (.seq (.seq (.reg [o 0 d10 (.q (.mv (.v (.int .i64 (.ofNat 0)))))])
 (.blk 6 (.loop (.seq (.seq (.reg [o 0 d60 (.q (.mv s10)),
 o 1 d61 (.q (.bin .lss s60 (.v (.int .i64 (.ofNat 64)))))])
 (.cnd s61 .skip (.exit 6)))
 (.seq (.blk 7 (.seq (.seq (.reg [o 0 d64 (.q (.mv s10)),
 o 1 d65 (.q (.bin .lss s64 (.v (.int .i64 (.ofNat 16)))))])
 (.cnd s65 (.seq (.reg [o 0 d66 (.q (.mv s8)),
 o 1 d67 (.q (.mv s10)),
 o 2 d68 (.q (.bin .mul (.v (.int .i64 (.ofNat 4))) s67)),
 o 3 d69 (.q (.bin .add s66 s68)),
 o 4 d11 (.q (.mv s69))])
 (.seq (.rgd 0 [o 0 d70 (.q (.mv s9)),
 o 1 d71 (.q (.mv s10)),
 o 2 d72 (.q (.mv s4)),
 o 3 d73 (.q (.mv s11)),
 o 4 d74 (.q (.iadr s72 s73 1)),
 o 5 d75 (.q (.ld1 s74)),
 o 6 d76 (.q (.cvi .u32 s75)),
 o 7 d77 (.q (.shf true s76 (.v (.int .u64 (.ofNat 24))))),
 o 8 d78 (.q (.mv s4)),
 o 9 d79 (.q (.mv s11)),
 o 10 d80 (.q (.bin .add s79 (.v (.int .i64 (.ofNat 1))))),
 o 11 d81 (.q (.iadr s78 s80 1)),
 o 12 d82 (.q (.ld1 s81)),
 o 13 d83 (.q (.cvi .u32 s82)),
 o 14 d84 (.q (.shf true s83 (.v (.int .u64 (.ofNat 16))))),
 o 15 d85 (.q (.bin .or s77 s84)),
 o 16 d86 (.q (.mv s4)),
 o 17 d87 (.q (.mv s11)),
 o 18 d88 (.q (.bin .add s87 (.v (.int .i64 (.ofNat 2))))),
 o 19 d89 (.q (.iadr s86 s88 1)),
 o 20 d90 (.q (.ld1 s89)),
 o 21 d91 (.q (.cvi .u32 s90)),
 o 22 d92 (.q (.shf true s91 (.v (.int .u64 (.ofNat 8))))),
 o 23 d93 (.q (.bin .or s85 s92)),
 o 24 d94 (.q (.mv s4)),
 o 25 d95 (.q (.mv s11)),
 o 26 d96 (.q (.bin .add s95 (.v (.int .i64 (.ofNat 3))))),
 o 27 d97 (.q (.iadr s94 s96 1)),
 o 28 d98 (.q (.ld1 s97)),
 o 29 d99 (.q (.cvi .u32 s98)),
 o 30 d100 (.q (.bin .or s93 s99)),
 o 31 d101 (.q (.iadr s70 s71 1)),
 o 32 none (.e (.st s101 s100 1))])
 (.exit 7))) .skip))
 (.seq (.reg [o 0 d102 (.q (.mv s9)),
 o 1 d103 (.q (.mv s10)),
 o 2 d104 (.q (.bin .sub s103 (.v (.int .i64 (.ofNat 15))))),
 o 3 d105 (.q (.iadr s102 s104 1)),
 o 4 d106 (.q (.ld1 s105)),
 o 5 d12 (.q (.mv s106))])
 (.seq (.reg [o 0 d107 (.q (.mv s9)),
 o 1 d108 (.q (.mv s10)),
 o 2 d109 (.q (.bin .sub s108 (.v (.int .i64 (.ofNat 2))))),
 o 3 d110 (.q (.iadr s107 s109 1)),
 o 4 d111 (.q (.ld1 s110)),
 o 5 d13 (.q (.mv s111))])
 (.rgd 0 [o 0 d112 (.q (.mv s9)),
 o 1 d113 (.q (.mv s10)),
 o 2 d114 (.q (.mv s9)),
 o 3 d115 (.q (.mv s10)),
 o 4 d116 (.q (.bin .sub s115 (.v (.int .i64 (.ofNat 16))))),
 o 5 d117 (.q (.iadr s114 s116 1)),
 o 6 d118 (.q (.ld1 s117)),
 o 7 d119 (.q (.mv s12)),
 o 9 d121 (.q (.mv s12)),
 o 12 d124 (.q (.mv s12)),
 o 13 d125 (.q (.shf false s124 (.v (.int .u64 (.ofNat 3))))),
 o 16 d128 (.q (.mv s9)),
 o 17 d129 (.q (.mv s10)),
 o 18 d130 (.q (.bin .sub s129 (.v (.int .i64 (.ofNat 7))))),
 o 19 d131 (.q (.iadr s128 s130 1)),
 o 20 d132 (.q (.ld1 s131)),
 o 22 d134 (.q (.mv s13)),
 o 24 d136 (.q (.mv s13)),
 o 27 d139 (.q (.mv s13)),
 o 28 d140 (.q (.shf false s139 (.v (.int .u64 (.ofNat 10))))),
 ⟨8, d120, (.call p86 [s119, (.v (.int .u64 (.ofNat 7)))]), none, [(p118, .ld1 s117, none), (p132, .ld1 s131, none)]⟩,
 ⟨10, d122, (.call p86 [s121, (.v (.int .u64 (.ofNat 18)))]), none, [(p118, .ld1 s117, none), (p132, .ld1 s131, none)]⟩,
 o 11 d123 (.q (.bin .xor s120 s122)),
 o 14 d126 (.q (.bin .xor s123 s125)),
 o 15 d127 (.q (.bin .add s118 s126)),
 o 21 d133 (.q (.bin .add s127 s132)),
 ⟨23, d135, (.call p86 [s134, (.v (.int .u64 (.ofNat 17)))]), none, [(p118, .ld1 s117, none), (p132, .ld1 s131, none)]⟩,
 ⟨25, d137, (.call p86 [s136, (.v (.int .u64 (.ofNat 19)))]), none, [(p118, .ld1 s117, none), (p132, .ld1 s131, none)]⟩,
 o 26 d138 (.q (.bin .xor s135 s137)),
 o 29 d141 (.q (.bin .xor s138 s140)),
 o 30 d142 (.q (.bin .add s133 s141)),
 o 31 d143 (.q (.iadr s112 s113 1)),
 o 32 none (.e (.st s143 s142 1))])))))
 (.reg [o 0 d62 (.q (.mv s10)),
 o 1 d63 (.q (.bin .add s62 (.v (.int .i64 (.ofNat 1))))),
 o 2 d10 (.q (.mv s63))]))))))
 (.seq (.reg [o 0 d144 (.e (.bsl [] [] 0 1)),
 o 1 d145 (.q (.mv s3)),
 o 2 d146 (.e (.app s144 s145 1 4 false)),
 o 3 d14 (.q (.mv s146))])
 (.seq (.seq (.reg [o 0 d15 (.q (.mv (.v (.int .i64 (.ofNat 0)))))])
 (.blk 8 (.loop (.seq (.seq (.reg [o 0 d147 (.q (.mv s15)),
 o 1 d148 (.q (.bin .lss s147 (.v (.int .i64 (.ofNat 64)))))])
 (.cnd s148 .skip (.exit 8)))
 (.seq (.blk 9 (.seq (.reg [o 0 d151 (.q (.mv s14)),
 o 1 d152 (.q (.iadr s151 (.v (.int .i64 (.ofNat 4))) 1)),
 o 2 d153 (.q (.ld1 s152)),
 o 3 d16 (.q (.mv s153))])
 (.seq (.reg [o 0 d154 (.q (.mv s14)),
 o 1 d155 (.q (.iadr s154 (.v (.int .i64 (.ofNat 0))) 1)),
 o 2 d156 (.q (.ld1 s155)),
 o 3 d17 (.q (.mv s156))])
 (.seq (.rgd 0 [o 0 d157 (.q (.mv s14)),
 o 1 d158 (.q (.iadr s157 (.v (.int .i64 (.ofNat 7))) 1)),
 o 2 d159 (.q (.ld1 s158)),
 o 3 d160 (.q (.mv s16)),
 o 5 d162 (.q (.mv s16)),
 o 8 d165 (.q (.mv s16)),
 o 12 d169 (.q (.mv s16)),
 o 13 d170 (.q (.mv s14)),
 o 14 d171 (.q (.iadr s170 (.v (.int .i64 (.ofNat 5))) 1)),
 o 15 d172 (.q (.ld1 s171)),
 o 16 d173 (.q (.bin .and s169 s172)),
 o 17 d174 (.q (.mv s16)),
 o 18 d175 (.q (.inv s174)),
 o 19 d176 (.q (.mv s14)),
 o 20 d177 (.q (.iadr s176 (.v (.int .i64 (.ofNat 6))) 1)),
 o 21 d178 (.q (.ld1 s177)),
 o 22 d179 (.q (.bin .and s175 s178)),
 o 23 d180 (.q (.bin .xor s173 s179)),
 o 25 d182 (.q (.mv s7)),
 o 26 d183 (.q (.mv s15)),
 o 27 d184 (.q (.iadr s182 s183 1)),
 o 28 d185 (.q (.ld1 s184)),
 o 30 d187 (.q (.mv s9)),
 o 31 d188 (.q (.mv s15)),
 o 32 d189 (.q (.iadr s187 s188 1)),
 o 33 d190 (.q (.ld1 s189)),
 ⟨4, d161, (.call p86 [s160, (.v (.int .u64 (.ofNat 6)))]), none, [(p159, .ld1 s158, none), (p172, .ld1 s171, none), (p178, .ld1 s177, none), (p185, .ld1 s184, none), (p190, .ld1 s189, none)]⟩,
 ⟨6, d163, (.call p86 [s162, (.v (.int .u64 (.ofNat 11)))]), none, [(p159, .ld1 s158, none), (p172, .ld1 s171, none), (p178, .ld1 s177, none), (p185, .ld1 s184, none), (p190, .ld1 s189, none)]⟩,
 o 7 d164 (.q (.bin .xor s161 s163)),
 ⟨9, d166, (.call p86 [s165, (.v (.int .u64 (.ofNat 25)))]), none, [(p159, .ld1 s158, none), (p172, .ld1 s171, none), (p178, .ld1 s177, none), (p185, .ld1 s184, none), (p190, .ld1 s189, none)]⟩,
 o 10 d167 (.q (.bin .xor s164 s166)),
 o 11 d168 (.q (.bin .add s159 s167)),
 o 24 d181 (.q (.bin .add s168 s180)),
 o 29 d186 (.q (.bin .add s181 s185)),
 o 34 d191 (.q (.bin .add s186 s190)),
 o 35 d18 (.q (.mv s191))])
 (.seq (.rgd 0 [o 0 d192 (.q (.mv s17)),
 o 2 d194 (.q (.mv s17)),
 o 5 d197 (.q (.mv s17)),
 o 8 d200 (.q (.mv s17)),
 o 9 d201 (.q (.mv s14)),
 o 10 d202 (.q (.iadr s201 (.v (.int .i64 (.ofNat 1))) 1)),
 o 11 d203 (.q (.ld1 s202)),
 o 12 d204 (.q (.bin .and s200 s203)),
 o 13 d205 (.q (.mv s17)),
 o 14 d206 (.q (.mv s14)),
 o 15 d207 (.q (.iadr s206 (.v (.int .i64 (.ofNat 2))) 1)),
 o 16 d208 (.q (.ld1 s207)),
 o 17 d209 (.q (.bin .and s205 s208)),
 o 18 d210 (.q (.bin .xor s204 s209)),
 o 19 d211 (.q (.mv s14)),
 o 20 d212 (.q (.iadr s211 (.v (.int .i64 (.ofNat 1))) 1)),
 o 21 d213 (.q (.ld1 s212)),
 o 22 d214 (.q (.mv s14)),
 o 23 d215 (.q (.iadr s214 (.v (.int .i64 (.ofNat 2))) 1)),
 o 24 d216 (.q (.ld1 s215)),
 o 25 d217 (.q (.bin .and s213 s216)),
 o 26 d218 (.q (.bin .xor s210 s217)),
 ⟨1, d193, (.call p86 [s192, (.v (.int .u64 (.ofNat 2)))]), none, [(p203, .ld1 s202, none), (p208, .ld1 s207, none), (p213, .ld1 s212, none), (p216, .ld1 s215, none)]⟩,
 ⟨3, d195, (.call p86 [s194, (.v (.int .u64 (.ofNat 13)))]), none, [(p203, .ld1 s202, none), (p208, .ld1 s207, none), (p213, .ld1 s212, none), (p216, .ld1 s215, none)]⟩,
 o 4 d196 (.q (.bin .xor s193 s195)),
 ⟨6, d198, (.call p86 [s197, (.v (.int .u64 (.ofNat 22)))]), none, [(p203, .ld1 s202, none), (p208, .ld1 s207, none), (p213, .ld1 s212, none), (p216, .ld1 s215, none)]⟩,
 o 7 d199 (.q (.bin .xor s196 s198)),
 o 27 d219 (.q (.bin .add s199 s218)),
 o 28 d19 (.q (.mv s219))])
 (.rgd 0 [o 0 d220 (.q (.mv s18)),
 o 1 d221 (.q (.mv s19)),
 o 2 d222 (.q (.bin .add s220 s221)),
 o 3 d223 (.q (.mv s14)),
 o 4 d224 (.q (.iadr s223 (.v (.int .i64 (.ofNat 0))) 1)),
 o 5 d225 (.q (.ld1 s224)),
 o 6 d226 (.q (.mv s14)),
 o 7 d227 (.q (.iadr s226 (.v (.int .i64 (.ofNat 1))) 1)),
 o 8 d228 (.q (.ld1 s227)),
 o 9 d229 (.q (.mv s14)),
 o 10 d230 (.q (.iadr s229 (.v (.int .i64 (.ofNat 2))) 1)),
 o 11 d231 (.q (.ld1 s230)),
 o 12 d232 (.q (.mv s14)),
 o 13 d233 (.q (.iadr s232 (.v (.int .i64 (.ofNat 3))) 1)),
 o 14 d234 (.q (.ld1 s233)),
 o 15 d235 (.q (.mv s18)),
 o 16 d236 (.q (.bin .add s234 s235)),
 o 17 d237 (.q (.mv s14)),
 o 18 d238 (.q (.iadr s237 (.v (.int .i64 (.ofNat 4))) 1)),
 o 19 d239 (.q (.ld1 s238)),
 o 20 d240 (.q (.mv s14)),
 o 21 d241 (.q (.iadr s240 (.v (.int .i64 (.ofNat 5))) 1)),
 o 22 d242 (.q (.ld1 s241)),
 o 23 d243 (.q (.mv s14)),
 o 24 d244 (.q (.iadr s243 (.v (.int .i64 (.ofNat 6))) 1)),
 o 25 d245 (.q (.ld1 s244)),
 o 26 d246 (.e (.bsl (zz (.int .u32 (.ofNat 0)) 8) [(0, 1, s222), (1, 1, s225), (2, 1, s228), (3, 1, s231), (4, 1, s236), (5, 1, s239), (6, 1, s242), (7, 1, s245)] 8 1)),
 o 27 d14 (.q (.mv s246))]))))))
 (.reg [o 0 d149 (.q (.mv s15)),
 o 1 d150 (.q (.bin .add s149 (.v (.int .i64 (.ofNat 1))))),
 o 2 d15 (.q (.mv s150))]))))))
 (.seq (.reg [o 0 d20 (.q (.mv (.v (.int .i64 (.ofNat 0)))))])
 (.blk 10 (.loop (.seq (.seq (.reg [o 0 d247 (.q (.mv s20)),
 o 1 d248 (.q (.bin .lss s247 (.v (.int .i64 (.ofNat 8)))))])
 (.cnd s248 .skip (.exit 10)))
 (.seq (.blk 11 (.rgd 0 [o 0 d251 (.q (.mv s3)),
 o 1 d252 (.q (.mv s20)),
 o 2 d253 (.q (.mv s3)),
 o 3 d254 (.q (.mv s20)),
 o 4 d255 (.q (.iadr s253 s254 1)),
 o 5 d256 (.q (.ld1 s255)),
 o 6 d257 (.q (.mv s14)),
 o 7 d258 (.q (.mv s20)),
 o 8 d259 (.q (.iadr s257 s258 1)),
 o 9 d260 (.q (.ld1 s259)),
 o 10 d261 (.q (.bin .add s256 s260)),
 o 11 d262 (.q (.iadr s251 s252 1)),
 o 12 none (.e (.st s262 s261 1))]))
 (.reg [o 0 d249 (.q (.mv s20)),
 o 1 d250 (.q (.bin .add s249 (.v (.int .i64 (.ofNat 1))))),
 o 2 d20 (.q (.mv s250))])))))))))))
 (.reg [o 0 d57 (.q (.mv s8)),
 o 1 d58 (.q (.bin .add s57 (.v (.int .i64 (.ofNat 64))))),
 o 2 d8 (.q (.mv s58))]))))))
 (.seq (.reg [o 0 d21 (.e (.alo (zz (.int .u8 (.ofNat 0)) 32)))])
 (.seq (.seq (.reg [o 0 d22 (.q (.mv (.v (.int .i64 (.ofNat 0)))))])
 (.blk 12 (.loop (.seq (.seq (.reg [o 0 d263 (.q (.mv s22)),
 o 1 d264 (.q (.bin .lss s263 (.v (.int .i64 (.ofNat 32)))))])
 (.cnd s264 .skip (.exit 12)))
 (.seq (.blk 13 (.reg [o 0 d267 (.q (.mv s22)),
 o 1 d268 (.q (.mv s3)),
 o 2 d269 (.q (.mv s22)),
 o 3 d270 (.q (.bin .quo s269 (.v (.int .i64 (.ofNat 4))))),
 o 4 d271 (.q (.iadr s268 s270 1)),
 o 5 d272 (.q (.ld1 s271)),
 o 6 d273 (.q (.mv s22)),
 o 7 d274 (.q (.bin .rem s273 (.v (.int .i64 (.ofNat 4))))),
 o 8 d275 (.q (.bin .mul (.v (.int .i64 (.ofNat 8))) s274)),
 o 9 d276 (.q (.bin .sub (.v (.int .i64 (.ofNat 24))) s275)),
 o 10 d277 (.q (.cvi .u64 s276)),
 o 11 d278 (.q (.shf false s272 s277)),
 o 12 d279 (.q (.cvi .u8 s278)),
 o 13 d280 (.q (.iada s21 s267 1 32)),
 o 14 none (.e (.st s280 s279 1))]))
 (.reg [o 0 d265 (.q (.mv s22)),
 o 1 d266 (.q (.bin .add s265 (.v (.int .i64 (.ofNat 1))))),
 o 2 d22 (.q (.mv s266))]))))))
 (.seq (.reg [o 0 d281 (.q (.ldn s21 32)),
 o 1 none (.e (.st s2 s281 32))])
 .ret)))))))))))
 [.cn p2 32]

noncomputable def f63 : FnE := .code 33
 (.seq (.reg [o 0 d4 (.q (.mv (.v .nils)))])
 (.seq (.seq (.reg [o 0 d5 (.q (.mv s1)),
 o 1 d6 (.call p87 [s5])])
 (.blk 0 (.seq (.reg [o 0 d8 (.q (.bin .eql s6 (.v (.int .i64 (.ofNat 1))))),
 o 1 d7 (.q (.mv s8))])
 (.cnd s7 (.seq (.reg [o 0 d9 (.q (.mv s0)),
 o 1 d10 (.q (.mv s1)),
 o 2 d11 (.q (.cvi .u8 s10)),
 o 3 d12 (.e (.bsl [(.int .u8 (.ofNat 0))] [(0, 1, s11)] 1 1)),
 o 4 d13 (.e (.app s9 s12 1 1 false)),
 o 5 d4 (.q (.mv s13))])
 .ret) (.seq (.reg [o 0 d15 (.q (.bin .eql s6 (.v (.int .i64 (.ofNat 3))))),
 o 1 d14 (.q (.mv s15))])
 (.cnd s14 (.seq (.reg [o 0 d16 (.q (.mv s0)),
 o 1 d17 (.e (.bsl [(.int .u8 (.ofNat 0))] [(0, 1, (.v (.int .u8 (.ofNat 253))))] 1 1)),
 o 2 d18 (.e (.app s16 s17 1 1 false)),
 o 3 d19 (.q (.mv s1)),
 o 4 d20 (.call p88 [s18, s19, (.v (.int .i64 (.ofNat 2)))]),
 o 5 d4 (.q (.mv s20))])
 .ret) (.seq (.reg [o 0 d22 (.q (.bin .eql s6 (.v (.int .i64 (.ofNat 5))))),
 o 1 d21 (.q (.mv s22))])
 (.cnd s21 (.seq (.reg [o 0 d23 (.q (.mv s0)),
 o 1 d24 (.e (.bsl [(.int .u8 (.ofNat 0))] [(0, 1, (.v (.int .u8 (.ofNat 254))))] 1 1)),
 o 2 d25 (.e (.app s23 s24 1 1 false)),
 o 3 d26 (.q (.mv s1)),
 o 4 d27 (.call p88 [s25, s26, (.v (.int .i64 (.ofNat 4)))]),
 o 5 d4 (.q (.mv s27))])
 .ret) .skip))))))))
 (.seq (.reg [o 0 d28 (.q (.mv s0)),
 o 1 d29 (.e (.bsl [(.int .u8 (.ofNat 0))] [(0, 1, (.v (.int .u8 (.ofNat 255))))] 1 1)),
 o 2 d30 (.e (.app s28 s29 1 1 false)),
 o 3 d31 (.q (.mv s1)),
 o 4 d32 (.call p88 [s30, s31, (.v (.int .i64 (.ofNat 8)))]),
 o 5 d4 (.q (.mv s32))])
 .ret)))
 [.t p4]

noncomputable def f64 : FnE := .code 9
 (.seq (.reg [o 0 d4 (.q (.mv (.v .nils)))])
 (.seq (.reg [o 0 d5 (.q (.mv s0)),
 o 1 d6 (.q (.mv s1)),
 o 2 d7 (.q (.cvi .u64 s6)),
 o 3 d8 (.call p88 [s5, s7, (.v (.int .i64 (.ofNat 4)))]),
 o 4 d4 (.q (.mv s8))])
 .ret))
 [.t p4]

noncomputable def f65 : FnE := .code 8
 (.seq (.reg [o 0 d4 (.q (.mv (.v .nils)))])
 (.seq (.reg [o 0 d5 (.q (.mv s0)),
 o 1 d6 (.q (.mv s1)),
 o 2 d7 (.call p88 [s5, s6, (.v (.int .i64 (.ofNat 8)))]),
 o 3 d4 (.q (.mv s7))])
 .ret))
 [.t p4]

noncomputable def f66 : FnE := .code 38
 (.seq (.reg [o 0 d2 (.e (.box s0 5)),
 o 1 d3 (.e (.box s1 5)),
 o 2 d4 (.q (.mv (.v (.bool false))))])
 (.seq (.reg [o 0 d5 (.q (.fadr s2 0)),
 o 1 d6 (.q (.ld1 s5)),
 o 2 d7 (.q (.fadr s3 0)),
 o 3 d8 (.q (.ld1 s7)),
 o 4 d9 (.q (.bin .eql s6 s8)),
 o 5 d10 (.q (.mv s9)),
 ⟨6, d11, (.q (.fadr s2 1)), (some (p10, true)), []⟩,
 ⟨7, d12, (.q (.ld1 s11)), (some (p10, true)), []⟩,
 ⟨8, d13, (.q (.fadr s3 1)), (some (p10, true)), []⟩,
 ⟨9, d14, (.q (.ld1 s13)), (some (p10, true)), []⟩,
 ⟨10, d15, (.q (.cmpb false s12 s14)), (some (p10, true)), []⟩,
 o 11 d16 (.q (.pick s10 s15 (.v (.bool false)))),
 o 12 d17 (.q (.mv s16)),
 ⟨13, d18, (.q (.fadr s2 2)), (some (p17, true)), []⟩,
 ⟨14, d19, (.q (.ld1 s18)), (some (p17, true)), []⟩,
 ⟨15, d20, (.q (.fadr s3 2)), (some (p17, true)), []⟩,
 ⟨16, d21, (.q (.ld1 s20)), (some (p17, true)), []⟩,
 ⟨17, d22, (.q (.bin .eql s19 s21)), (some (p17, true)), []⟩,
 o 18 d23 (.q (.pick s17 s22 (.v (.bool false)))),
 o 19 d24 (.q (.mv s23)),
 ⟨20, d25, (.q (.fadr s2 3)), (some (p24, true)), []⟩,
 ⟨21, d26, (.q (.ld1 s25)), (some (p24, true)), []⟩,
 ⟨22, d27, (.q (.fadr s3 3)), (some (p24, true)), []⟩,
 ⟨23, d28, (.q (.ld1 s27)), (some (p24, true)), []⟩,
 ⟨24, d29, (.q (.cmpb false s26 s28)), (some (p24, true)), []⟩,
 o 25 d30 (.q (.pick s24 s29 (.v (.bool false)))),
 o 26 d31 (.q (.mv s30)),
 ⟨27, d32, (.q (.fadr s2 4)), (some (p31, true)), []⟩,
 ⟨28, d33, (.q (.ld1 s32)), (some (p31, true)), []⟩,
 ⟨29, d34, (.q (.fadr s3 4)), (some (p31, true)), []⟩,
 ⟨30, d35, (.q (.ld1 s34)), (some (p31, true)), []⟩,
 ⟨31, d36, (.q (.bin .eql s33 s35)), (some (p31, true)), []⟩,
 o 32 d37 (.q (.pick s31 s36 (.v (.bool false)))),
 o 33 d4 (.q (.mv s37))])
 .ret))
 [.t p4]

noncomputable def f67 : FnE := .code 75
 (.seq (.reg [o 0 d2 (.e (.alo [(.int .i64 (.ofNat 0)), (.bool false), (.int .i64 (.ofNat 0)), (.bool false), (.int .i64 (.ofNat 0))]))])
 (.seq (.seq (.reg [o 0 d7 (.q (.mv s0)),
 o 1 d8 (.q (.eqp (.iface true) false s7 (.v .nili)))])
 (.cnd s8 (.seq (.reg [o 0 d9 (.call p89 []),
 o 1 none (.e (.st s2 s9 5))])
 .ret) .skip))
 (.seq (.reg [o 0 d11 (.q (.mv s0)),
 o 1 d12 (.q (.tas s11 149 .nilp true)),
 o 2 d10 (.q (.mv s12)),
 o 3 d13 (.q (.ext s10 0)),
 o 4 d14 (.q (.ext s10 1)),
 o 5 d3 (.q (.mv s13)),
 o 6 d4 (.q (.mv s14))])
 (.seq (.seq (.reg [o 0 d15 (.q (.mv s4)),
 o 1 d16 (.q (.not s15))])
 (.cnd s16 (.seq (.reg [o 0 d17 (.q (.mv s0)),
 o 1 d18 (.call p90 [s17]),
 o 2 d19 (.call p40 [s18]),
 o 3 none (.e (.st s2 s19 5))])
 .ret) .skip))
 (.seq (.seq (.reg [o 0 d20 (.q (.mv s3)),
 o 1 d21 (.q (.eqp .ptr false s20 (.v .nilp))),
 o 2 d22 (.q (.mv s21)),
 ⟨3, d23, (.q (.mv s3)), (some (p22, false)), []⟩,
 ⟨4, d24, (.q (.nck s23)), (some (p22, false)), []⟩,
 ⟨5, d25, (.q (.fadr s24 1)), (some (p22, false)), []⟩,
 ⟨6, d26, (.q (.ld1 s25)), (some (p22, false)), []⟩,
 ⟨7, d27, (.q (.eqp (.iface true) false s26 (.v .nili))), (some (p22, false)), []⟩,
 o 8 d28 (.q (.pick s22 (.v (.bool true)) s27))])
 (.cnd s28 (.seq (.reg [o 0 d29 (.call p40 [(.v (.int .i64 (.negSucc 0)))]),
 o 1 none (.e (.st s2 s29 5))])
 .ret) .skip))
 (.seq (.reg [o 0 d31 (.q (.mv s3)),
 o 1 d32 (.q (.nck s31)),
 o 2 d33 (.q (.fadr s32 1)),
 o 3 d34 (.q (.ld1 s33)),
 o 4 d35 (.q (.tas s34 149 .nilp true)),
 o 5 d30 (.q (.mv s35)),
 o 6 d36 (.q (.ext s30 0)),
 o 7 d37 (.q (.ext s30 1)),
 o 8 d5 (.q (.mv s36)),
 o 9 d6 (.q (.mv s37))])
 (.seq (.seq (.reg [o 0 d38 (.q (.mv s6)),
 o 1 d39 (.q (.not s38))])
 (.cnd s39 (.seq (.rgd 0 [o 0 d40 (.q (.mv s3)),
 o 1 d41 (.q (.nck s40)),
 o 2 d42 (.q (.fadr s41 1)),
 o 3 d43 (.q (.ld1 s42)),
 o 5 d45 (.q (.mv s3)),
 o 6 d46 (.q (.nck s45)),
 o 7 d47 (.q (.fadr s46 0)),
 o 8 d48 (.q (.ld1 s47)),
 ⟨4, d44, (.call p90 [s43]), none, [(p48, .ld1 s47, none)]⟩,
 o 9 d49 (.call p91 [s44, s48]),
 o 10 none (.e (.st s2 s49 5))])
 .ret) .skip))
 (.seq (.seq (.reg [o 0 d50 (.q (.mv s5)),
 o 1 d51 (.q (.eqp .ptr false s50 (.v .nilp))),
 o 2 d52 (.q (.mv s51)),
 ⟨3, d53, (.q (.mv s5)), (some (p52, false)), []⟩,
 ⟨4, d54, (.q (.nck s53)), (some (p52, false)), []⟩,
 ⟨5, d55, (.q (.fadr s54 1)), (some (p52, false)), []⟩,
 ⟨6, d56, (.q (.ld1 s55)), (some (p52, false)), []⟩,
 ⟨7, d57, (.q (.eqp (.iface true) false s56 (.v .nili))), (some (p52, false)), []⟩,
 o 8 d58 (.q (.pick s52 (.v (.bool true)) s57))])
 (.cnd s58 (.seq (.reg [o 0 d59 (.call p40 [(.v (.int .i64 (.negSucc 0)))]),
 o 1 none (.e (.st s2 s59 5))])
 .ret) .skip))
 (.seq (.rgd 0 [o 0 d60 (.q (.mv s5)),
 o 1 d61 (.q (.nck s60)),
 o 2 d62 (.q (.fadr s61 1)),
 o 3 d63 (.q (.ld1 s62)),
 o 5 d65 (.q (.mv s5)),
 o 6 d66 (.q (.nck s65)),
 o 7 d67 (.q (.fadr s66 0)),
 o 8 d68 (.q (.ld1 s67)),
 o 10 d70 (.q (.mv s3)),
 o 11 d71 (.q (.nck s70)),
 o 12 d72 (.q (.fadr s71 0)),
 o 13 d73 (.q (.ld1 s72)),
 ⟨4, d64, (.call p90 [s63]), none, [(p68, .ld1 s67, none), (p73, .ld1 s72, none)]⟩,
 ⟨9, d69, (.call p91 [s64, s68]), none, [(p73, .ld1 s72, none)]⟩,
 o 14 d74 (.call p92 [s69, s73]),
 o 15 none (.e (.st s2 s74 5))])
 .ret)))))))))
 [.cn p2 5]

noncomputable def f72 : FnE := .code 13
 (.seq (.reg [o 0 d2 (.e (.alo (zz (.int .u32 (.ofNat 0)) 8)))])
 (.seq (.seq (.reg [o 0 d3 (.q (.mv s0)),
 o 1 d4 (.q (.nck s3)),
 o 2 d5 (.q (.fadr s4 9)),
 o 3 d6 (.q (.ld1 s5)),
 o 4 d7 (.q (.bin .lss s6 (.v (.int .i64 (.ofNat 64)))))])
 (.cnd s7 (.seq (.reg [o 0 d8 (.call p97 []),
 o 1 none (.e (.st s2 s8 8))])
 .ret) .skip))
 (.seq (.reg [o 0 d9 (.q (.mv s0)),
 o 1 d10 (.q (.nck s9)),
 o 2 d11 (.q (.fadr s10 0)),
 o 3 d12 (.q (.ldn s11 8)),
 o 4 none (.e (.st s2 s12 8))])
 .ret)))
 [.cn p2 8]

noncomputable def f73 : FnE := .code 111
 (.seq (.reg [o 0 d2 (.e (.box s0 8)),
 o 1 d4 (.e (.alo (zz (.int .u32 (.ofNat 0)) 8)))])
 (.seq (.reg [o 0 d14 (.q (.mv s1)),
 o 1 d15 (.call p98 [s14]),
 o 2 d16 (.call p99 []),
 o 3 d5 (.e (.alo (zz (.int .u32 (.ofNat 0)) 64))),
 o 4 d6 (.e (.alo (zz (.int .u32 (.ofNat 0)) 64))),
 o 5 none (.e (.st s5 s15 64)),
 o 6 none (.e (.st s6 s16 64))])
 (.seq (.reg [o 0 d17 (.q (.ldn s2 8)),
 o 1 d7 (.e (.alo (zz (.int .u32 (.ofNat 0)) 8))),
 o 2 none (.e (.st s7 s17 8))])
 (.seq (.seq (.reg [o 0 d18 (.q (.mv (.v (.int .i64 (.ofNat 0)))))])
 (.blk 0 (.loop (.seq (.reg [o 0 d19 (.q (.bin .lss s18 (.v (.int .i64 (.ofNat 64)))))])
 (.seq (.cnd s19 .skip (.exit 0))
 (.seq (.blk 1 (.seq (.reg [o 0 d20 (.q (.mv s18)),
 o 1 d8 (.q (.mv s20))])
 (.seq (.rgd 0 [o 0 d21 (.q (.iada s7 (.v (.int .i64 (.ofNat 0))) 1 8)),
 o 1 d22 (.q (.ld1 s21)),
 o 2 d23 (.q (.iada s7 (.v (.int .i64 (.ofNat 4))) 1 8)),
 o 3 d24 (.q (.ld1 s23)),
 o 4 d9 (.q (.mv s22)),
 o 5 d10 (.q (.mv s24))])
 (.seq (.rgd 0 [o 0 d25 (.q (.iada s7 (.v (.int .i64 (.ofNat 7))) 1 8)),
 o 1 d26 (.q (.ld1 s25)),
 o 2 d27 (.q (.mv s10)),
 o 4 d29 (.q (.mv s10)),
 o 7 d32 (.q (.mv s10)),
 o 11 d36 (.q (.mv s10)),
 o 12 d37 (.q (.iada s7 (.v (.int .i64 (.ofNat 5))) 1 8)),
 o 13 d38 (.q (.ld1 s37)),
 o 14 d39 (.q (.bin .and s36 s38)),
 o 15 d40 (.q (.mv s10)),
 o 16 d41 (.q (.inv s40)),
 o 17 d42 (.q (.iada s7 (.v (.int .i64 (.ofNat 6))) 1 8)),
 o 18 d43 (.q (.ld1 s42)),
 o 19 d44 (.q (.bin .and s41 s43)),
 o 20 d45 (.q (.bin .xor s39 s44)),
 o 22 d47 (.q (.mv s8)),
 o 23 d48 (.q (.iada s6 s47 1 64)),
 o 24 d49 (.q (.ld1 s48)),
 o 26 d51 (.q (.mv s8)),
 o 27 d52 (.q (.iada s5 s51 1 64)),
 o 28 d53 (.q (.ld1 s52)),
 ⟨3, d28, (.call p100 [s27, (.v (.int .i64 (.ofNat 6)))]), none, [(p26, .ld1 s25, none), (p38, .ld1 s37, none), (p43, .ld1 s42, none), (p49, .ld1 s48, none), (p53, .ld1 s52, none)]⟩,
 ⟨5, d30, (.call p100 [s29, (.v (.int .i64 (.ofNat 11)))]), none, [(p26, .ld1 s25, none), (p38, .ld1 s37, none), (p43, .ld1 s42, none), (p49, .ld1 s48, none), (p53, .ld1 s52, none)]⟩,
 o 6 d31 (.q (.bin .xor s28 s30)),
 ⟨8, d33, (.call p100 [s32, (.v (.int .i64 (.ofNat 25)))]), none, [(p26, .ld1 s25, none), (p38, .ld1 s37, none), (p43, .ld1 s42, none), (p49, .ld1 s48, none), (p53, .ld1 s52, none)]⟩,
 o 9 d34 (.q (.bin .xor s31 s33)),
 o 10 d35 (.q (.bin .add s26 s34)),
 o 21 d46 (.q (.bin .add s35 s45)),
 o 25 d50 (.q (.bin .add s46 s49)),
 o 29 d54 (.q (.bin .add s50 s53)),
 o 30 d11 (.q (.mv s54))])
 (.seq (.rgd 0 [o 0 d55 (.q (.mv s9)),
 o 2 d57 (.q (.mv s9)),
 o 5 d60 (.q (.mv s9)),
 o 8 d63 (.q (.mv s9)),
 o 9 d64 (.q (.iada s7 (.v (.int .i64 (.ofNat 1))) 1 8)),
 o 10 d65 (.q (.ld1 s64)),
 o 11 d66 (.q (.bin .and s63 s65)),
 o 12 d67 (.q (.mv s9)),
 o 13 d68 (.q (.iada s7 (.v (.int .i64 (.ofNat 2))) 1 8)),
 o 14 d69 (.q (.ld1 s68)),
 o 15 d70 (.q (.bin .and s67 s69)),
 o 16 d71 (.q (.bin .xor s66 s70)),
 o 17 d72 (.q (.iada s7 (.v (.int .i64 (.ofNat 1))) 1 8)),
 o 18 d73 (.q (.ld1 s72)),
 o 19 d74 (.q (.iada s7 (.v (.int .i64 (.ofNat 2))) 1 8)),
 o 20 d75 (.q (.ld1 s74)),
 o 21 d76 (.q (.bin .and s73 s75)),
 o 22 d77 (.q (.bin .xor s71 s76)),
 ⟨1, d56, (.call p100 [s55, (.v (.int .i64 (.ofNat 2)))]), none, [(p65, .ld1 s64, none), (p69, .ld1 s68, none), (p73, .ld1 s72, none), (p75, .ld1 s74, none)]⟩,
 ⟨3, d58, (.call p100 [s57, (.v (.int .i64 (.ofNat 13)))]), none, [(p65, .ld1 s64, none), (p69, .ld1 s68, none), (p73, .ld1 s72, none), (p75, .ld1 s74, none)]⟩,
 o 4 d59 (.q (.bin .xor s56 s58)),
 ⟨6, d61, (.call p100 [s60, (.v (.int .i64 (.ofNat 22)))]), none, [(p65, .ld1 s64, none), (p69, .ld1 s68, none), (p73, .ld1 s72, none), (p75, .ld1 s74, none)]⟩,
 o 7 d62 (.q (.bin .xor s59 s61)),
 o 23 d78 (.q (.bin .add s62 s77)),
 o 24 d12 (.q (.mv s78))])
 (.reg [o 0 d79 (.q (.mv s11)),
 o 1 d80 (.q (.mv s12)),
 o 2 d81 (.q (.bin .add s79 s80)),
 o 3 d82 (.q (.mv s9)),
 o 4 d83 (.q (.iada s7 (.v (.int .i64 (.ofNat 1))) 1 8)),
 o 5 d84 (.q (.ld1 s83)),
 o 6 d85 (.q (.iada s7 (.v (.int .i64 (.ofNat 2))) 1 8)),
 o 7 d86 (.q (.ld1 s85)),
 o 8 d87 (.q (.iada s7 (.v (.int .i64 (.ofNat 3))) 1 8)),
 o 9 d88 (.q (.ld1 s87)),
 o 10 d89 (.q (.mv s11)),
 o 11 d90 (.q (.bin .add s88 s89)),
 o 12 d91 (.q (.mv s10)),
 o 13 d92 (.q (.iada s7 (.v (.int .i64 (.ofNat 5))) 1 8)),
 o 14 d93 (.q (.ld1 s92)),
 o 15 d94 (.q (.iada s7 (.v (.int .i64 (.ofNat 6))) 1 8)),
 o 16 d95 (.q (.ld1 s94)),
 o 17 d96 (.q (.bld (zz (.int .u32 (.ofNat 0)) 8) [(0, 1, s81), (1, 1, s82), (2, 1, s84), (3, 1, s86), (4, 1, s90), (5, 1, s91), (6, 1, s93), (7, 1, s95)])),
 o 18 none (.e (.st s7 s96 8))]))))))
 (.reg [o 0 d97 (.q (.bin .add s18 (.v (.int .i64 (.ofNat 1))))),
 o 1 d18 (.q (.mv s97))])))))))
 (.seq (.seq (.reg [o 0 d98 (.q (.mv (.v (.int .i64 (.ofNat 0)))))])
 (.blk 2 (.loop (.seq (.reg [o 0 d99 (.q (.bin .lss s98 (.v (.int .i64 (.ofNat 8)))))])
 (.seq (.cnd s99 .skip (.exit 2))
 (.seq (.blk 3 (.seq (.reg [o 0 d100 (.q (.mv s98)),
 o 1 d13 (.q (.mv s100))])
 (.rgd 0 [o 0 d101 (.q (.mv s13)),
 o 1 d102 (.q (.iada s2 s101 1 8)),
 o 2 d103 (.q (.ld1 s102)),
 o 3 d104 (.q (.mv s13)),
 o 4 d105 (.q (.iada s7 s104 1 8)),
 o 5 d106 (.q (.ld1 s105)),
 o 6 d107 (.q (.bin .add s103 s106)),
 o 7 d108 (.q (.iada s2 s101 1 8)),
 o 8 none (.e (.st s108 s107 1))])))
 (.reg [o 0 d109 (.q (.bin .add s98 (.v (.int .i64 (.ofNat 1))))),
 o 1 d98 (.q (.mv s109))])))))))
 (.seq (.reg [o 0 d110 (.q (.ldn s2 8)),
 o 1 none (.e (.st s4 s110 8))])
 .ret))))))
 [.cn p4 8]

noncomputable def f74 : FnE := .code 10
 (.seq (.reg [o 0 d4 (.q (.mv (.v .nils)))])
 (.seq (.reg [o 0 d5 (.q (.mv s0)),
 o 1 d6 (.call p61 [s5]),
 o 2 d7 (.q (.mv s1)),
 o 3 d8 (.q (.cvi .u64 s7)),
 o 4 d9 (.call p101 [s6, s8, (.v (.int .i64 (.ofNat 4)))]),
 o 5 d4 (.q (.mv s9))])
 .ret))
 [.t p4]

noncomputable def f75 : FnE := .code 9
 (.seq (.reg [o 0 d4 (.q (.mv (.v .nils)))])
 (.seq (.reg [o 0 d5 (.q (.mv s0)),
 o 1 d6 (.call p61 [s5]),
 o 2 d7 (.q (.mv s1)),
 o 3 d8 (.call p101 [s6, s7, (.v (.int .i64 (.ofNat 8)))]),
 o 4 d4 (.q (.mv s8))])
 .ret))
 [.t p4]

noncomputable def f82 : FnE := .code 7
 (.seq (.reg [o 0 d2 (.e (.alo (zz (.int .u8 (.ofNat 0)) 32)))])
 (.seq (.reg [o 0 d3 (.e (.alo [(.int .u32 (.ofNat 0)), (.int .u32 (.ofNat 0)), (.int .u32 (.ofNat 0)), (.int .u32 (.ofNat 0)), (.int .u32 (.ofNat 0)), (.int .u32 (.ofNat 0)), (.int .u32 (.ofNat 0)), (.int .u32 (.ofNat 0)), .nils, (.int .i64 (.ofNat 0))]))])
 (.seq (.reg [o 0 d4 (.q (.mv s0)),
 o 1 d5 (.call p44 [s3, s4])])
 (.seq (.reg [o 0 d6 (.call p46 [s3]),
 o 1 none (.e (.st s2 s6 32))])
 .ret))))
 [.cn p2 32]

noncomputable def f83 : FnE := .code 38
 (.seq (.reg [o 0 d4 (.q (.mv (.v .nils)))])
 (.seq (.reg [o 0 d7 (.q (.mv s0)),
 o 1 d8 (.call p61 [s7]),
 o 2 d5 (.q (.mv s8))])
 (.seq (.seq (.reg [o 0 d9 (.q (.mv s1)),
 o 1 d10 (.call p105 [s9]),
 o 2 d6 (.q (.mv s10))])
 (.seq (.reg [o 0 d11 (.q (.mv s6))])
 (.blk 0 (.seq (.reg [o 0 d13 (.q (.bin .eql s11 (.v (.int .i64 (.ofNat 1))))),
 o 1 d12 (.q (.mv s13))])
 (.cnd s12 (.seq (.reg [o 0 d14 (.q (.mv s5)),
 o 1 d15 (.q (.mv s1)),
 o 2 d16 (.q (.cvi .u8 s15)),
 o 3 d17 (.e (.bsl [(.int .u8 (.ofNat 0))] [(0, 1, s16)] 1 1)),
 o 4 d18 (.e (.app s14 s17 1 1 false)),
 o 5 d4 (.q (.mv s18))])
 .ret) (.seq (.reg [o 0 d20 (.q (.bin .eql s11 (.v (.int .i64 (.ofNat 3))))),
 o 1 d19 (.q (.mv s20))])
 (.cnd s19 (.seq (.reg [o 0 d21 (.q (.mv s5)),
 o 1 d22 (.e (.bsl [(.int .u8 (.ofNat 0))] [(0, 1, (.v (.int .u8 (.ofNat 253))))] 1 1)),
 o 2 d23 (.e (.app s21 s22 1 1 false)),
 o 3 d24 (.q (.mv s1)),
 o 4 d25 (.call p101 [s23, s24, (.v (.int .i64 (.ofNat 2)))]),
 o 5 d4 (.q (.mv s25))])
 .ret) (.seq (.reg [o 0 d27 (.q (.bin .eql s11 (.v (.int .i64 (.ofNat 5))))),
 o 1 d26 (.q (.mv s27))])
 (.cnd s26 (.seq (.reg [o 0 d28 (.q (.mv s5)),
 o 1 d29 (.e (.bsl [(.int .u8 (.ofNat 0))] [(0, 1, (.v (.int .u8 (.ofNat 254))))] 1 1)),
 o 2 d30 (.e (.app s28 s29 1 1 false)),
 o 3 d31 (.q (.mv s1)),
 o 4 d32 (.call p101 [s30, s31, (.v (.int .i64 (.ofNat 4)))]),
 o 5 d4 (.q (.mv s32))])
 .ret) .skip)))))))))
 (.seq (.reg [o 0 d33 (.q (.mv s5)),
 o 1 d34 (.e (.bsl [(.int .u8 (.ofNat 0))] [(0, 1, (.v (.int .u8 (.ofNat 255))))] 1 1)),
 o 2 d35 (.e (.app s33 s34 1 1 false)),
 o 3 d36 (.q (.mv s1)),
 o 4 d37 (.call p101 [s35, s36, (.v (.int .i64 (.ofNat 8)))]),
 o 5 d4 (.q (.mv s37))])
 .ret))))
 [.t p4]

noncomputable def f84 : FnE := .code 22
 (.seq (.reg [o 0 d2 (.q (.mv (.v .nils)))])
 (.seq (.reg [o 0 d5 (.q (.mv s0)),
 o 1 d6 (.q (.lenv s5)),
 o 2 d7 (.e (.mks (.v (.int .i64 (.ofNat 0))) s6 [(.int .u8 (.ofNat 0))] 1 1)),
 o 3 d3 (.q (.mv s7))])
 (.seq (.seq (.reg [o 0 d4 (.q (.mv (.v (.int .i64 (.ofNat 0)))))])
 (.blk 0 (.loop (.seq (.seq (.reg [o 0 d8 (.q (.mv s4)),
 o 1 d9 (.q (.mv s0)),
 o 2 d10 (.q (.lenv s9)),
 o 3 d11 (.q (.bin .lss s8 s10))])
 (.cnd s11 .skip (.exit 0)))
 (.seq (.blk 1 (.reg [o 0 d14 (.q (.mv s3)),
 o 1 d15 (.q (.mv s0)),
 o 2 d16 (.q (.mv s4)),
 o 3 d17 (.q (.iadr s15 s16 1)),
 o 4 d18 (.q (.ld1 s17)),
 o 5 d19 (.e (.bsl [(.int .u8 (.ofNat 0))] [(0, 1, s18)] 1 1)),
 o 6 d20 (.e (.app s14 s19 1 1 false)),
 o 7 d3 (.q (.mv s20))]))
 (.reg [o 0 d12 (.q (.mv s4)),
 o 1 d13 (.q (.bin .add s12 (.v (.int .i64 (.ofNat 1))))),
 o 2 d4 (.q (.mv s13))]))))))
 (.seq (.reg [o 0 d21 (.q (.mv s3)),
 o 1 d2 (.q (.mv s21))])
 .ret))))
 [.t p2]

noncomputable def f85 : FnE := .code 2
 (.seq (.reg [o 0 d0 (.q (.mv (.v .nils)))])
 (.seq (.reg [o 0 d1 (.e (.bsl (zz (.int .u32 (.ofNat 0)) 64) [(0, 1, (.v (.int .u32 (.ofNat 1116352408)))), (1, 1, (.v (.int .u32 (.ofNat 1899447441)))), (2, 1, (.v (.int .u32 (.ofNat 3049323471)))), (3, 1, (.v (.int .u32 (.ofNat 3921009573)))), (4, 1, (.v (.int .u32 (.ofNat 961987163)))), (5, 1, (.v (.int .u32 (.ofNat 1508970993)))), (6, 1, (.v (.int .u32 (.ofNat 2453635748)))), (7, 1, (.v (.int .u32 (.ofNat 2870763221)))), (8, 1, (.v (.int .u32 (.ofNat 3624381080)))), (9, 1, (.v (.int .u32 (.ofNat 310598401)))), (10, 1, (.v (.int .u32 (.ofNat 607225278)))), (11, 1, (.v (.int .u32 (.ofNat 1426881987)))), (12, 1, (.v (.int .u32 (.ofNat 1925078388)))), (13, 1, (.v (.int .u32 (.ofNat 2162078206)))), (14, 1, (.v (.int .u32 (.ofNat 2614888103)))), (15, 1, (.v (.int .u32 (.ofNat 3248222580)))), (16, 1, (.v (.int .u32 (.ofNat 3835390401)))), (17, 1, (.v (.int .u32 (.ofNat 4022224774)))), (18, 1, (.v (.int .u32 (.ofNat 264347078)))), (19, 1, (.v (.int .u32 (.ofNat 604807628)))), (20, 1, (.v (.int .u32 (.ofNat 770255983)))), (21, 1, (.v (.int .u32 (.ofNat 1249150122)))), (22, 1, (.v (.int .u32 (.ofNat 1555081692)))), (23, 1, (.v (.int .u32 (.ofNat 1996064986)))), (24, 1, (.v (.int .u32 (.ofNat 2554220882)))), (25, 1, (.v (.int .u32 (.ofNat 2821834349)))), (26, 1, (.v (.int .u32 (.ofNat 2952996808)))), (27, 1, (.v (.int .u32 (.ofNat 3210313671)))), (28, 1, (.v (.int .u32 (.ofNat 3336571891)))), (29, 1, (.v (.int .u32 (.ofNat 3584528711)))), (30, 1, (.v (.int .u32 (.ofNat 113926993)))), (31, 1, (.v (.int .u32 (.ofNat 338241895)))), (32, 1, (.v (.int .u32 (.ofNat 666307205)))), (33, 1, (.v (.int .u32 (.ofNat 773529912)))), (34, 1, (.v (.int .u32 (.ofNat 1294757372)))), (35, 1, (.v (.int .u32 (.ofNat 1396182291)))), (36, 1, (.v (.int .u32 (.ofNat 1695183700)))), (37, 1, (.v (.int .u32 (.ofNat 1986661051)))), (38, 1, (.v (.int .u32 (.ofNat 2177026350)))), (39, 1, (.v (.int .u32 (.ofNat 2456956037)))), (40, 1, (.v (.int .u32 (.ofNat 2730485921)))), (41, 1, (.v (.int .u32 (.ofNat 2820302411)))), (42, 1, (.v (.int .u32 (.ofNat 3259730800)))), (43, 1, (.v (.int .u32 (.ofNat 3345764771)))), (44, 1, (.v (.int .u32 (.ofNat 3516065817)))), (45, 1, (.v (.int .u32 (.ofNat 3600352804)))), (46, 1, (.v (.int .u32 (.ofNat 4094571909)))), (47, 1, (.v (.int .u32 (.ofNat 275423344)))), (48, 1, (.v (.int .u32 (.ofNat 430227734)))), (49, 1, (.v (.int .u32 (.ofNat 506948616)))), (50, 1, (.v (.int .u32 (.ofNat 659060556)))), (51, 1, (.v (.int .u32 (.ofNat 883997877)))), (52, 1, (.v (.int .u32 (.ofNat 958139571)))), (53, 1, (.v (.int .u32 (.ofNat 1322822218)))), (54, 1, (.v (.int .u32 (.ofNat 1537002063)))), (55, 1, (.v (.int .u32 (.ofNat 1747873779)))), (56, 1, (.v (.int .u32 (.ofNat 1955562222)))), (57, 1, (.v (.int .u32 (.ofNat 2024104815)))), (58, 1, (.v (.int .u32 (.ofNat 2227730452)))), (59, 1, (.v (.int .u32 (.ofNat 2361852424)))), (60, 1, (.v (.int .u32 (.ofNat 2428436474)))), (61, 1, (.v (.int .u32 (.ofNat 2756734187)))), (62, 1, (.v (.int .u32 (.ofNat 3204031479)))), (63, 1, (.v (.int .u32 (.ofNat 3329325298))))] 64 1)),
 o 1 d0 (.q (.mv s1))])
 .ret))
 [.t p0]

noncomputable def f86 : FnE := .code 13
 (.seq (.reg [o 0 d4 (.q (.mv (.v (.int .u32 (.ofNat 0)))))])
 (.seq (.reg [o 0 d5 (.q (.mv s0)),
 o 1 d6 (.q (.mv s1)),
 o 2 d7 (.q (.shf false s5 s6)),
 o 3 d8 (.q (.mv s0)),
 o 4 d9 (.q (.mv s1)),
 o 5 d10 (.q (.bin .sub (.v (.int .u64 (.ofNat 32))) s9)),
 o 6 d11 (.q (.shf true s8 s10)),
 o 7 d12 (.q (.bin .or s7 s11)),
 o 8 d4 (.q (.mv s12))])
 .ret))
 [.t p4]

noncomputable def f87 : FnE := .code 12
 (.seq (.reg [o 0 d2 (.q (.mv (.v (.int .i64 (.ofNat 0)))))])
 (.seq (.blk 0 (.seq (.reg [o 0 d4 (.q (.mv s0)),
 o 1 d5 (.q (.bin .lss s4 (.v (.int .u64 (.ofNat 253))))),
 o 2 d3 (.q (.mv s5))])
 (.cnd s3 (.seq (.reg [o 0 d2 (.q (.mv (.v (.int .i64 (.ofNat 1)))))])
 .ret) (.seq (.reg [o 0 d7 (.q (.mv s0)),
 o 1 d8 (.q (.bin .lss s7 (.v (.int .u64 (.ofNat 65536))))),
 o 2 d6 (.q (.mv s8))])
 (.cnd s6 (.seq (.reg [o 0 d2 (.q (.mv (.v (.int .i64 (.ofNat 3)))))])
 .ret) (.seq (.reg [o 0 d10 (.q (.mv s0)),
 o 1 d11 (.q (.bin .lss s10 (.v (.int .u64 (.ofNat 4294967296))))),
 o 2 d9 (.q (.mv s11))])
 (.cnd s9 (.seq (.reg [o 0 d2 (.q (.mv (.v (.int .i64 (.ofNat 5)))))])
 .ret) .skip)))))))
 (.seq (.reg [o 0 d2 (.q (.mv (.v (.int .i64 (.ofNat 9)))))])
 .ret)))
 [.t p2]

noncomputable def f88 : FnE := .code 23
 (.seq (.reg [o 0 d6 (.q (.mv (.v .nils)))])
 (.seq (.seq (.reg [o 0 d7 (.q (.mv (.v (.int .i64 (.ofNat 0)))))])
 (.blk 0 (.loop (.seq (.seq (.reg [o 0 d8 (.q (.mv s7)),
 o 1 d9 (.q (.mv s2)),
 o 2 d10 (.q (.bin .lss s8 s9))])
 (.cnd s10 .skip (.exit 0)))
 (.seq (.blk 1 (.reg [o 0 d13 (.q (.mv s0)),
 o 1 d14 (.q (.mv s1)),
 o 2 d15 (.q (.mv s7)),
 o 3 d16 (.q (.bin .mul (.v (.int .i64 (.ofNat 8))) s15)),
 o 4 d17 (.q (.cvi .u64 s16)),
 o 5 d18 (.q (.shf false s14 s17)),
 o 6 d19 (.q (.cvi .u8 s18)),
 o 7 d20 (.e (.bsl [(.int .u8 (.ofNat 0))] [(0, 1, s19)] 1 1)),
 o 8 d21 (.e (.app s13 s20 1 1 false)),
 o 9 d0 (.q (.mv s21))]))
 (.reg [o 0 d11 (.q (.mv s7)),
 o 1 d12 (.q (.bin .add s11 (.v (.int .i64 (.ofNat 1))))),
 o 2 d7 (.q (.mv s12))]))))))
 (.seq (.reg [o 0 d22 (.q (.mv s0)),
 o 1 d6 (.q (.mv s22))])
 .ret)))
 [.t p6]

noncomputable def f90 : FnE := .code 20
 (.seq (.reg [o 0 d2 (.q (.mv (.v (.int .i64 (.ofNat 0)))))])
 (.seq (.reg [o 0 d5 (.call p106 []),
 o 1 d3 (.q (.mv s5))])
 (.seq (.seq (.reg [o 0 d4 (.q (.mv (.v (.int .i64 (.ofNat 0)))))])
 (.blk 0 (.loop (.seq (.seq (.reg [o 0 d6 (.q (.mv s4)),
 o 1 d7 (.q (.mv s3)),
 o 2 d8 (.q (.lenv s7)),
 o 3 d9 (.q (.bin .lss s6 s8))])
 (.cnd s9 .skip (.exit 0)))
 (.seq (.blk 1 (.seq (.reg [o 0 d12 (.q (.mv s0)),
 o 1 d13 (.q (.mv s3)),
 o 2 d14 (.q (.mv s4)),
 o 3 d15 (.q (.iadr s13 s14 1)),
 o 4 d16 (.q (.ld1 s15)),
 o 5 d17 (.call p107 [s12, s16])])
 (.cnd s17 (.seq (.reg [o 0 d18 (.q (.mv s4)),
 o 1 d19 (.q (.bin .add (.v (.int .i64 (.ofNat 101))) s18)),
 o 2 d2 (.q (.mv s19))])
 .ret) .skip)))
 (.reg [o 0 d10 (.q (.mv s4)),
 o 1 d11 (.q (.bin .add s10 (.v (.int .i64 (.ofNat 1))))),
 o 2 d4 (.q (.mv s11))]))))))
 (.seq (.reg [o 0 d2 (.q (.mv (.v (.int .i64 (.negSucc 0)))))])
 .ret))))
 [.t p2]

noncomputable def f97 : FnE := .code 2
 (.seq (.reg [o 0 d0 (.e (.alo (zz (.int .u32 (.ofNat 0)) 8)))])
 (.seq (.reg [o 0 d1 (.q (.bld (zz (.int .u32 (.ofNat 0)) 8) [(0, 1, (.v (.int .u32 (.ofNat 1779033703)))), (1, 1, (.v (.int .u32 (.ofNat 3144134277)))), (2, 1, (.v (.int .u32 (.ofNat 1013904242)))), (3, 1, (.v (.int .u32 (.ofNat 2773480762)))), (4, 1, (.v (.int .u32 (.ofNat 1359893119)))), (5, 1, (.v (.int .u32 (.ofNat 2600822924)))), (6, 1, (.v (.int .u32 (.ofNat 528734635)))), (7, 1, (.v (.int .u32 (.ofNat 1541459225))))])),
 o 1 none (.e (.st s0 s1 8))])
 .ret))
 [.cn p0 8]

noncomputable def f98 : FnE := .code 80
 (.seq (.reg [o 0 d2 (.e (.alo (zz (.int .u32 (.ofNat 0)) 64)))])
 (.seq (.reg [o 0 d3 (.e (.alo (zz (.int .u32 (.ofNat 0)) 64)))])
 (.seq (.seq (.reg [o 0 d8 (.q (.mv (.v (.int .i64 (.ofNat 0)))))])
 (.blk 0 (.loop (.seq (.reg [o 0 d9 (.q (.bin .lss s8 (.v (.int .i64 (.ofNat 64)))))])
 (.seq (.cnd s9 .skip (.exit 0))
 (.seq (.blk 1 (.seq (.reg [o 0 d10 (.q (.mv s8)),
 o 1 d4 (.q (.mv s10))])
 (.seq (.seq (.reg [o 0 d11 (.q (.mv s4)),
 o 1 d12 (.q (.bin .lss s11 (.v (.int .i64 (.ofNat 16)))))])
 (.cnd s12 (.seq (.reg [o 0 d13 (.q (.mv s0)),
 o 1 d14 (.q (.mv s4)),
 o 2 d15 (.q (.bin .mul (.v (.int .i64 (.ofNat 4))) s14)),
 o 3 d16 (.q (.slc s13 (some s15) none 1)),
 o 4 d5 (.q (.mv s16))])
 (.seq (.rgd 0 [o 0 d17 (.q (.mv s4)),
 o 1 d18 (.q (.mv s5)),
 o 2 d19 (.q (.iadr s18 (.v (.int .i64 (.ofNat 0))) 1)),
 o 3 d20 (.q (.ld1 s19)),
 o 4 d21 (.q (.cvi .u32 s20)),
 o 5 d22 (.q (.shf true s21 (.v (.int .u64 (.ofNat 24))))),
 o 6 d23 (.q (.mv s5)),
 o 7 d24 (.q (.iadr s23 (.v (.int .i64 (.ofNat 1))) 1)),
 o 8 d25 (.q (.ld1 s24)),
 o 9 d26 (.q (.cvi .u32 s25)),
 o 10 d27 (.q (.shf true s26 (.v (.int .u64 (.ofNat 16))))),
 o 11 d28 (.q (.bin .or s22 s27)),
 o 12 d29 (.q (.mv s5)),
 o 13 d30 (.q (.iadr s29 (.v (.int .i64 (.ofNat 2))) 1)),
 o 14 d31 (.q (.ld1 s30)),
 o 15 d32 (.q (.cvi .u32 s31)),
 o 16 d33 (.q (.shf true s32 (.v (.int .u64 (.ofNat 8))))),
 o 17 d34 (.q (.bin .or s28 s33)),
 o 18 d35 (.q (.mv s5)),
 o 19 d36 (.q (.iadr s35 (.v (.int .i64 (.ofNat 3))) 1)),
 o 20 d37 (.q (.ld1 s36)),
 o 21 d38 (.q (.cvi .u32 s37)),
 o 22 d39 (.q (.bin .or s34 s38)),
 o 23 d40 (.q (.iada s3 s17 1 64)),
 o 24 none (.e (.st s40 s39 1))])
 (.exit 1))) .skip))
 (.seq (.rgd 0 [o 0 d41 (.q (.mv s4)),
 o 1 d42 (.q (.bin .sub s41 (.v (.int .i64 (.ofNat 2))))),
 o 2 d43 (.q (.iada s3 s42 1 64)),
 o 3 d44 (.q (.ld1 s43)),
 o 4 d45 (.q (.mv s4)),
 o 5 d46 (.q (.bin .sub s45 (.v (.int .i64 (.ofNat 15))))),
 o 6 d47 (.q (.iada s3 s46 1 64)),
 o 7 d48 (.q (.ld1 s47)),
 o 8 d6 (.q (.mv s44)),
 o 9 d7 (.q (.mv s48))])
 (.rgd 0 [o 0 d49 (.q (.mv s4)),
 o 1 d50 (.q (.mv s6)),
 o 3 d52 (.q (.mv s6)),
 o 6 d55 (.q (.mv s6)),
 o 7 d56 (.q (.shf false s55 (.v (.int .u64 (.ofNat 10))))),
 o 9 d58 (.q (.mv s4)),
 o 10 d59 (.q (.bin .sub s58 (.v (.int .i64 (.ofNat 7))))),
 o 11 d60 (.q (.iada s3 s59 1 64)),
 o 12 d61 (.q (.ld1 s60)),
 o 14 d63 (.q (.mv s7)),
 o 16 d65 (.q (.mv s7)),
 o 19 d68 (.q (.mv s7)),
 o 20 d69 (.q (.shf false s68 (.v (.int .u64 (.ofNat 3))))),
 o 23 d72 (.q (.mv s4)),
 o 24 d73 (.q (.bin .sub s72 (.v (.int .i64 (.ofNat 16))))),
 o 25 d74 (.q (.iada s3 s73 1 64)),
 o 26 d75 (.q (.ld1 s74)),
 ⟨2, d51, (.call p100 [s50, (.v (.int .i64 (.ofNat 17)))]), none, [(p61, .ld1 s60, none), (p75, .ld1 s74, none)]⟩,
 ⟨4, d53, (.call p100 [s52, (.v (.int .i64 (.ofNat 19)))]), none, [(p61, .ld1 s60, none), (p75, .ld1 s74, none)]⟩,
 o 5 d54 (.q (.bin .xor s51 s53)),
 o 8 d57 (.q (.bin .xor s54 s56)),
 o 13 d62 (.q (.bin .add s57 s61)),
 ⟨15, d64, (.call p100 [s63, (.v (.int .i64 (.ofNat 7)))]), none, [(p61, .ld1 s60, none), (p75, .ld1 s74, none)]⟩,
 ⟨17, d66, (.call p100 [s65, (.v (.int .i64 (.ofNat 18)))]), none, [(p61, .ld1 s60, none), (p75, .ld1 s74, none)]⟩,
 o 18 d67 (.q (.bin .xor s64 s66)),
 o 21 d70 (.q (.bin .xor s67 s69)),
 o 22 d71 (.q (.bin .add s62 s70)),
 o 27 d76 (.q (.bin .add s71 s75)),
 o 28 d77 (.q (.iada s3 s49 1 64)),
 o 29 none (.e (.st s77 s76 1))])))))
 (.reg [o 0 d78 (.q (.bin .add s8 (.v (.int .i64 (.ofNat 1))))),
 o 1 d8 (.q (.mv s78))])))))))
 (.seq (.reg [o 0 d79 (.q (.ldn s3 64)),
 o 1 none (.e (.st s2 s79 64))])
 .ret))))
 [.cn p2 64]

noncomputable def f99 : FnE := .code 2
 (.seq (.reg [o 0 d0 (.e (.alo (zz (.int .u32 (.ofNat 0)) 64)))])
 (.seq (.reg [o 0 d1 (.q (.bld (zz (.int .u32 (.ofNat 0)) 64) [(0, 1, (.v (.int .u32 (.ofNat 1116352408)))), (1, 1, (.v (.int .u32 (.ofNat 1899447441)))), (2, 1, (.v (.int .u32 (.ofNat 3049323471)))), (3, 1, (.v (.int .u32 (.ofNat 3921009573)))), (4, 1, (.v (.int .u32 (.ofNat 961987163)))), (5, 1, (.v (.int .u32 (.ofNat 1508970993)))), (6, 1, (.v (.int .u32 (.ofNat 2453635748)))), (7, 1, (.v (.int .u32 (.ofNat 2870763221)))), (8, 1, (.v (.int .u32 (.ofNat 3624381080)))), (9, 1, (.v (.int .u32 (.ofNat 310598401)))), (10, 1, (.v (.int .u32 (.ofNat 607225278)))), (11, 1, (.v (.int .u32 (.ofNat 1426881987)))), (12, 1, (.v (.int .u32 (.ofNat 1925078388)))), (13, 1, (.v (.int .u32 (.ofNat 2162078206)))), (14, 1, (.v (.int .u32 (.ofNat 2614888103)))), (15, 1, (.v (.int .u32 (.ofNat 3248222580)))), (16, 1, (.v (.int .u32 (.ofNat 3835390401)))), (17, 1, (.v (.int .u32 (.ofNat 4022224774)))), (18, 1, (.v (.int .u32 (.ofNat 264347078)))), (19, 1, (.v (.int .u32 (.ofNat 604807628)))), (20, 1, (.v (.int .u32 (.ofNat 770255983)))), (21, 1, (.v (.int .u32 (.ofNat 1249150122)))), (22, 1, (.v (.int .u32 (.ofNat 1555081692)))), (23, 1, (.v (.int .u32 (.ofNat 1996064986)))), (24, 1, (.v (.int .u32 (.ofNat 2554220882)))), (25, 1, (.v (.int .u32 (.ofNat 2821834349)))), (26, 1, (.v (.int .u32 (.ofNat 2952996808)))), (27, 1, (.v (.int .u32 (.ofNat 3210313671)))), (28, 1, (.v (.int .u32 (.ofNat 3336571891)))), (29, 1, (.v (.int .u32 (.ofNat 3584528711)))), (30, 1, (.v (.int .u32 (.ofNat 113926993)))), (31, 1, (.v (.int .u32 (.ofNat 338241895)))), (32, 1, (.v (.int .u32 (.ofNat 666307205)))), (33, 1, (.v (.int .u32 (.ofNat 773529912)))), (34, 1, (.v (.int .u32 (.ofNat 1294757372)))), (35, 1, (.v (.int .u32 (.ofNat 1396182291)))), (36, 1, (.v (.int .u32 (.ofNat 1695183700)))), (37, 1, (.v (.int .u32 (.ofNat 1986661051)))), (38, 1, (.v (.int .u32 (.ofNat 2177026350)))), (39, 1, (.v (.int .u32 (.ofNat 2456956037)))), (40, 1, (.v (.int .u32 (.ofNat 2730485921)))), (41, 1, (.v (.int .u32 (.ofNat 2820302411)))), (42, 1, (.v (.int .u32 (.ofNat 3259730800)))), (43, 1, (.v (.int .u32 (.ofNat 3345764771)))), (44, 1, (.v (.int .u32 (.ofNat 3516065817)))), (45, 1, (.v (.int .u32 (.ofNat 3600352804)))), (46, 1, (.v (.int .u32 (.ofNat 4094571909)))), (47, 1, (.v (.int .u32 (.ofNat 275423344)))), (48, 1, (.v (.int .u32 (.ofNat 430227734)))), (49, 1, (.v (.int .u32 (.ofNat 506948616)))), (50, 1, (.v (.int .u32 (.ofNat 659060556)))), (51, 1, (.v (.int .u32 (.ofNat 883997877)))), (52, 1, (.v (.int .u32 (.ofNat 958139571)))), (53, 1, (.v (.int .u32 (.ofNat 1322822218)))), (54, 1, (.v (.int .u32 (.ofNat 1537002063)))), (55, 1, (.v (.int .u32 (.ofNat 1747873779)))), (56, 1, (.v (.int .u32 (.ofNat 1955562222)))), (57, 1, (.v (.int .u32 (.ofNat 2024104815)))), (58, 1, (.v (.int .u32 (.ofNat 2227730452)))), (59, 1, (.v (.int .u32 (.ofNat 2361852424)))), (60, 1, (.v (.int .u32 (.ofNat 2428436474)))), (61, 1, (.v (.int .u32 (.ofNat 2756734187)))), (62, 1, (.v (.int .u32 (.ofNat 3204031479)))), (63, 1, (.v (.int .u32 (.ofNat 3329325298))))])),
 o 1 none (.e (.st s0 s1 64))])
 .ret))
 [.cn p0 64]

noncomputable def f100 : FnE := .code 9
 (.seq (.reg [o 0 d4 (.q (.mv (.v (.int .u32 (.ofNat 0)))))])
 (.seq (.reg [o 0 d5 (.q (.mv s0)),
 o 1 d6 (.q (.mv s1)),
 o 2 d7 (.q (.neg s6)),
 o 3 d8 (.call p112 [s5, s7]),
 o 4 d4 (.q (.mv s8))])
 .ret))
 [.t p4]

noncomputable def f101 : FnE := .code 19
 (.seq (.reg [o 0 d6 (.q (.mv (.v .nils)))])
 (.seq (.seq (.reg [o 0 d7 (.q (.mv s2)),
 o 1 d8 (.q (.mv (.v (.int .i64 (.ofNat 0)))))])
 (.blk 0 (.loop (.seq (.reg [o 0 d9 (.q (.bin .lss s8 s7))])
 (.seq (.cnd s9 .skip (.exit 0))
 (.seq (.blk 1 (.seq (.reg [o 0 d10 (.q (.mv s0)),
 o 1 d11 (.q (.mv s1)),
 o 2 d12 (.q (.cvi .u8 s11)),
 o 3 d13 (.e (.bsl [(.int .u8 (.ofNat 0))] [(0, 1, s12)] 1 1)),
 o 4 d14 (.e (.app s10 s13 1 1 false)),
 o 5 d0 (.q (.mv s14))])
 (.reg [o 0 d15 (.q (.mv s1)),
 o 1 d16 (.q (.shf false s15 (.v (.int .u64 (.ofNat 8))))),
 o 2 d1 (.q (.mv s16))])))
 (.reg [o 0 d17 (.q (.bin .add s8 (.v (.int .i64 (.ofNat 1))))),
 o 1 d8 (.q (.mv s17))])))))))
 (.seq (.reg [o 0 d18 (.q (.mv s0)),
 o 1 d6 (.q (.mv s18))])
 .ret)))
 [.t p6]

noncomputable def f105 : FnE := .code 12
 (.seq (.reg [o 0 d2 (.q (.mv (.v (.int .i64 (.ofNat 0)))))])
 (.seq (.blk 0 (.seq (.reg [o 0 d4 (.q (.mv s0)),
 o 1 d5 (.q (.bin .lss s4 (.v (.int .u64 (.ofNat 253))))),
 o 2 d3 (.q (.mv s5))])
 (.cnd s3 (.seq (.reg [o 0 d2 (.q (.mv (.v (.int .i64 (.ofNat 1)))))])
 .ret) (.seq (.reg [o 0 d7 (.q (.mv s0)),
 o 1 d8 (.q (.bin .lss s7 (.v (.int .u64 (.ofNat 65536))))),
 o 2 d6 (.q (.mv s8))])
 (.cnd s6 (.seq (.reg [o 0 d2 (.q (.mv (.v (.int .i64 (.ofNat 3)))))])
 .ret) (.seq (.reg [o 0 d10 (.q (.mv s0)),
 o 1 d11 (.q (.bin .lss s10 (.v (.int .u64 (.ofNat 4294967296))))),
 o 2 d9 (.q (.mv s11))])
 (.cnd s9 (.seq (.reg [o 0 d2 (.q (.mv (.v (.int .i64 (.ofNat 5)))))])
 .ret) .skip)))))))
 (.seq (.reg [o 0 d2 (.q (.mv (.v (.int .i64 (.ofNat 9)))))])
 .ret)))
 [.t p2]

noncomputable def f106 : FnE := .code 27
 (.seq (.reg [o 0 d0 (.q (.mv (.v .nils)))])
 (.seq (.reg [o 0 d1 (.q (.ld1 (.g p7))),
 o 1 d2 (.q (.ld1 (.g p6))),
 o 2 d3 (.q (.ld1 (.g p8))),
 o 3 d4 (.q (.ld1 (.g p9))),
 o 4 d5 (.q (.ld1 (.g p0))),
 o 5 d6 (.q (.ld1 (.g p1))),
 o 6 d7 (.q (.ld1 (.g p10))),
 o 7 d8 (.q (.ld1 (.g p11))),
 o 8 d9 (.q (.ld1 (.g p4))),
 o 9 d10 (.q (.ld1 (.g p12))),
 o 10 d11 (.q (.ld1 (.g p13))),
 o 11 d12 (.q (.ld1 (.g p14))),
 o 12 d13 (.q (.ld1 (.g p2))),
 o 13 d14 (.q (.ld1 (.g p15))),
 o 14 d15 (.q (.ld1 (.g p16))),
 o 15 d16 (.q (.ld1 (.g p17))),
 o 16 d17 (.q (.ld1 (.g p18))),
 o 17 d18 (.q (.ld1 (.g p19))),
 o 18 d19 (.q (.ld1 (.g p5))),
 o 19 d20 (.q (.ld1 (.g p20))),
 o 20 d21 (.q (.ld1 (.g p21))),
 o 21 d22 (.q (.ld1 (.g p22))),
 o 22 d23 (.q (.ld1 (.g p3))),
 o 23 d24 (.q (.ld1 (.g p23))),
 o 24 d25 (.q (.ld1 (.g p24))),
 o 25 d26 (.e (.bsl (zz .nili 25) [(0, 1, s1), (1, 1, s2), (2, 1, s3), (3, 1, s4), (4, 1, s5), (5, 1, s6), (6, 1, s7), (7, 1, s8), (8, 1, s9), (9, 1, s10), (10, 1, s11), (11, 1, s12), (12, 1, s13), (13, 1, s14), (14, 1, s15), (15, 1, s16), (16, 1, s17), (17, 1, s18), (18, 1, s19), (19, 1, s20), (20, 1, s21), (21, 1, s22), (22, 1, s23), (23, 1, s24), (24, 1, s25)] 25 1)),
 o 26 d0 (.q (.mv s26))])
 .ret))
 [.t p0]

noncomputable def f107 : FnE := .code 20
 (.seq (.reg [o 0 d4 (.q (.mv (.v (.bool false))))])
 (.seq (.seq (.reg [o 0 d5 (.q (.mv s0)),
 o 1 d6 (.q (.eqp (.iface true) false s5 (.v .nili))),
 o 2 d7 (.q (.mv s6)),
 ⟨3, d8, (.q (.mv s1)), (some (p7, false)), []⟩,
 ⟨4, d9, (.q (.eqp (.iface true) false s8 (.v .nili))), (some (p7, false)), []⟩,
 o 5 d10 (.q (.pick s7 (.v (.bool true)) s9))])
 (.cnd s10 (.seq (.reg [o 0 d11 (.q (.mv s0)),
 o 1 d12 (.q (.eqp (.iface true) false s11 (.v .nili))),
 o 2 d13 (.q (.mv s12)),
 ⟨3, d14, (.q (.mv s1)), (some (p13, true)), []⟩,
 ⟨4, d15, (.q (.eqp (.iface true) false s14 (.v .nili))), (some (p13, true)), []⟩,
 o 5 d16 (.q (.pick s13 s15 (.v (.bool false)))),
 o 6 d4 (.q (.mv s16))])
 .ret) .skip))
 (.seq (.reg [o 0 d17 (.q (.mv s0)),
 o 1 d18 (.q (.mv s1)),
 o 2 d19 (.q (.eqp (.iface false) false s17 s18)),
 o 3 d4 (.q (.mv s19))])
 .ret)))
 [.t p4]

noncomputable def f112 : FnE := .code 17
 (.seq (.reg [o 0 d4 (.q (.mv (.v (.int .u32 (.ofNat 0)))))])
 (.seq (.reg [o 0 d6 (.q (.mv s1)),
 o 1 d7 (.q (.cvi .u64 s6)),
 o 2 d8 (.q (.bin .and s7 (.v (.int .u64 (.ofNat 31))))),
 o 3 d5 (.q (.mv s8))])
 (.seq (.reg [o 0 d9 (.q (.mv s0)),
 o 1 d10 (.q (.mv s5)),
 o 2 d11 (.q (.shf true s9 s10)),
 o 3 d12 (.q (.mv s0)),
 o 4 d13 (.q (.mv s5)),
 o 5 d14 (.q (.bin .sub (.v (.int .u64 (.ofNat 32))) s13)),
 o 6 d15 (.q (.shf false s12 s14)),
 o 7 d16 (.q (.bin .or s11 s15)),
 o 8 d4 (.q (.mv s16))])
 .ret)))
 [.t p4]

noncomputable def tabA : T FnE := (.node (.node (.node (.node (.node (.node (.node .nil (some f63) .nil) none .nil) (some f15) .nil) (some f7) (.node (.node .nil (some f39) .nil) none (.node (.node .nil (some f87) .nil) none .nil))) (some f3) (.node (.node (.node (.node .nil (some f67) .nil) (some f35) (.node .nil (some f99) .nil)) none (.node (.node .nil (some f83) .nil) none .nil)) (some f11) (.node (.node (.node .nil (some f75) .nil) none (.node .nil (some f107) .nil)) none (.node .nil (some f59) .nil)))) none (.node (.node (.node (.node (.node .nil (some f65) .nil) none (.node .nil (some f97) .nil)) none .nil) (some f9) (.node (.node (.node .nil (some f73) .nil) none (.node .nil (some f105) .nil)) none (.node .nil (some f57) .nil))) none (.node (.node (.node .nil (some f37) (.node .nil (some f101) .nil)) none (.node (.node .nil (some f85) .nil) none .nil)) (some f13) (.node .nil none (.node .nil (some f61) .nil))))) none (.node (.node (.node (.node (.node (.node .nil (some f64) .nil) none .nil) (some f16) (.node .nil none (.node .nil (some f112) .nil))) (some f8) (.node (.node (.node .nil (some f72) .nil) (some f40) .nil) none (.node (.node .nil (some f88) .nil) none .nil))) none (.node (.node (.node .nil (some f36) (.node .nil (some f100) .nil)) (some f20) (.node (.node .nil (some f84) .nil) none .nil)) (some f12) (.node (.node .nil (some f44) .nil) none (.node .nil (some f60) .nil)))) none (.node (.node (.node (.node (.node .nil (some f66) .nil) (some f34) (.node .nil (some f98) .nil)) none (.node (.node .nil (some f82) .nil) none .nil)) (some f10) (.node (.node (.node .nil (some f74) .nil) none (.node .nil (some f106) .nil)) none (.node (.node .nil (some f90) .nil) (some f58) .nil))) none (.node (.node (.node .nil (some f38) .nil) none (.node (.node .nil (some f86) .nil) none .nil)) (some f14) (.node (.node .nil (some f46) .nil) none (.node .nil (some f62) .nil))))))
end Go.Proofs.YtbikpdgeldhkoaaDoor.Ir
