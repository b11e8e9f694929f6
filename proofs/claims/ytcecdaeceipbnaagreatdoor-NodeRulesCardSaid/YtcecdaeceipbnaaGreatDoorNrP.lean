/-
  Functions that range over an iterator, in layers. (Written by a program.)
-/
import Derived.Test.YtcecdaeceipbnaaGreatDoorNrB
import Derived.Test.YtcecdaeceipbnaaGreatDoorEnThree
namespace Go.Proofs.YtcecdaeceipbnaaGreatDoor.Ir
set_option linter.unusedVariables false
set_option maxRecDepth 100000
open Go Go.Proofs.YtcecdaeceipbnaaGreatDoor
/-- (*sargasso/best.Marks).parted (60 slots) -/
noncomputable def g82 : IG := (.sq (.c (.reg [o 0 d1 (.e (.box s0 1)),
 o 1 d2 (.q (.mv (.v .nils))),
 o 2 d3 (.q (.mv (.v .nils)))]))
 (.sq (.c (.reg [o 0 d11 (.e (.mkm (.cells (kk .u8 32)))),
 o 1 d4 (.e (.alo [.nilm])),
 o 2 none (.e (.st s4 s11 1))]))
 (.sq (.sq (.c (.reg [o 0 d12 (.q (.ld1 s1)),
 o 1 d13 (.q (.nck s12)),
 o 2 d14 (.q (.fadr s13 1)),
 o 3 d15 (.q (.ld1 s14)),
 o 4 d16 (.call p118 [s15])]))
 (.bk 0 (.rg s16)))
 (.c (.seq (.reg [o 0 d8 (.q (.mv (.v .nils)))])
 (.seq (.seq (.rgd 0 [o 0 d32 (.q (.ld1 s1)),
 o 1 d33 (.q (.nck s32)),
 o 2 d34 (.q (.fadr s33 0)),
 o 3 d35 (.q (.ld1 s34)),
 o 4 d36 (.q (.ld1 s1)),
 o 5 d37 (.q (.nck s36)),
 o 6 d38 (.q (.fadr s37 0)),
 o 7 d39 (.q (.ld1 s38)),
 o 11 d43 (.q (.mv (.v (.int .i64 (.ofNat 0))))),
 ⟨8, d40, (.call p35 [s39]), none, [(p32, .ld1 s1, none), (p35, .ld1 s34, none)]⟩,
 o 9 d41 (.call p119 [s35, s40]),
 o 10 d42 (.q (.lenv s41))])
 (.blk 4 (.loop (.seq (.reg [o 0 d44 (.q (.bin .lss s43 s42))])
 (.seq (.cnd s44 .skip (.exit 4))
 (.seq (.blk 5 (.seq (.reg [o 0 d45 (.q (.iadr s41 s43 32)),
 o 1 d46 (.q (.ldn s45 32)),
 o 2 d10 (.e (.alo (zz (.int .u8 (.ofNat 0)) 32))),
 o 3 none (.e (.st s10 s46 32))])
 (.seq (.reg [o 0 d47 (.q (.ld1 s4)),
 o 1 d48 (.q (.ldn s10 32)),
 o 2 d49 (.q (.lkp s47 s48 (.cells (kk .u8 32)) (.bool false) false)),
 o 3 d50 (.q (.not s49))])
 (.cnd s50 (.reg [o 0 d51 (.q (.mv s8)),
 o 1 d52 (.q (.ldn s10 32)),
 o 2 d53 (.e (.bsl (zz (.int .u8 (.ofNat 0)) 32) [(0, 32, s52)] 1 32)),
 o 3 d54 (.e (.app s51 s53 32 32 false)),
 o 4 d8 (.q (.mv s54))]) .skip))))
 (.reg [o 0 d55 (.q (.bin .add s43 (.v (.int .i64 (.ofNat 1))))),
 o 1 d43 (.q (.mv s55))])))))))
 (.seq (.reg [o 0 d56 (.q (.ld1 s4)),
 o 1 d57 (.call p118 [s56]),
 o 2 d58 (.call p46 [s57, (.f 48)]),
 o 3 d59 (.q (.mv s8)),
 o 4 d2 (.q (.mv s58)),
 o 5 d3 (.q (.mv s59))])
 .ret)))))))
noncomputable def g82r : List RV := [.t p2, .t p3]
/-- slices.AppendSeq[[]sargasso/api.Hash,sargasso/api.Hash] (13 slots) -/
noncomputable def g114 : IG := (.sq (.c (.reg [o 0 d2 (.e (.box s0 1)),
 o 1 d4 (.q (.mv (.v .nils)))]))
 (.sq (.sq (.c (.reg [o 0 d6 (.q (.mv s1))]))
 (.bk 0 (.rg s6)))
 (.c (.seq (.reg [o 0 d12 (.q (.ld1 s2)),
 o 1 d4 (.q (.mv s12))])
 .ret))))
noncomputable def g114r : List RV := [.t p4]
/-- slices.AppendSeq[[]sargasso/api.Point,sargasso/api.Point] (13 slots) -/
noncomputable def g135 : IG := (.sq (.c (.reg [o 0 d2 (.e (.box s0 1)),
 o 1 d4 (.q (.mv (.v .nils)))]))
 (.sq (.sq (.c (.reg [o 0 d6 (.q (.mv s1))]))
 (.bk 0 (.rg s6)))
 (.c (.seq (.reg [o 0 d12 (.q (.ld1 s2)),
 o 1 d4 (.q (.mv s12))])
 .ret))))
noncomputable def g135r : List RV := [.t p4]
end Go.Proofs.YtcecdaeceipbnaaGreatDoor.Ir
