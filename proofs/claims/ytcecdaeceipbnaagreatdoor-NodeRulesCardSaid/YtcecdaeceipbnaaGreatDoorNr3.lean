/-
  NodeRules: its two numbers told; what was told is held against what Number yields.
-/
import Derived.Test.YtcecdaeceipbnaaGreatDoorNr2
namespace Go.Proofs.YtcecdaeceipbnaaGreatDoor.Ir
set_option linter.unusedVariables false
set_option linter.unusedSimpArgs false
set_option maxRecDepth 100000
open Go Go.Proofs.YtcecdaeceipbnaaGreatDoor
noncomputable def runT (bits : List Bool) (a b : Int) (low : Bool) : Option (V × List (Bool × Bool) × List (V × V)) := Hot.resO (Hot.runO [] [p7] machC 300 p3 [.int .i64 a, .int .i64 b, .bool low] sg0 ⟨bits, [], []⟩)
noncomputable def vvT (r : Option (V × List (Bool × Bool) × List (V × V))) : List (V × V) := match r with | some (_, _, l) => l | none => []
noncomputable def dgT (l : List (V × V)) : List (V × V) := lmap (fun x => (x.1, x.1)) l
theorem dgT_eq (l : List (V × V)) : ∀ x ∈ dgT l, x.1 = x.2 := by
  unfold dgT
  rw [lmap_eq]
  intro x hx
  obtain ⟨y, _, rfl⟩ := List.mem_map.1 hx
  rfl
/-- all notes but two hold a value against itself -/
noncomputable def fixT (l : List (V × V)) (i j : Nat) (s t : V × V) : List (V × V) := lapp (dgT (ltake l i)) (s :: lapp (dgT (ltake (ldrop l (Nat.succ i)) j)) (t :: dgT (ldrop l (Nat.succ (Nat.succ (Nat.add i j))))))
theorem fixT_eq {l : List (V × V)} {i j : Nat} {s t : V × V} (hs : s.1 = s.2) (ht : t.1 = t.2) : ∀ x ∈ fixT l i j s t, x.1 = x.2 := by
  unfold fixT
  rw [lapp_eq, lapp_eq]
  intro x hx
  rcases List.mem_append.1 hx with hx | hx
  · exact dgT_eq _ x hx
  · rcases List.mem_cons.1 hx with rfl | hx
    · exact hs
    · rcases List.mem_append.1 hx with hx | hx
      · exact dgT_eq _ x hx
      · rcases List.mem_cons.1 hx with rfl | hx
        · exact ht
        · exact dgT_eq _ x hx
/-- a number told -/
noncomputable def tn (a : Int) (m k : Nat) : V × V := (.int .i64 (.ofNat (Int.toNat (Int.emod a (.ofNat m)))), .int .i64 (.ofNat k))
theorem tn_eq {a : Int} {m k : Nat} (h : Int.toNat (Int.emod a (.ofNat m)) = k) : (tn a m k).1 = (tn a m k).2 := by
  unfold tn
  rw [h]
theorem em_lt (n : Int) (k : Nat) (hk : 0 < k) : Int.toNat (Int.emod n (.ofNat k)) < k := by
  have h1 := Int.emod_nonneg n (show (k : Int) ≠ 0 by omega)
  have h2 := Int.emod_lt_of_pos n (show (0 : Int) < k by omega)
  show (n % (k : Int)).toNat < k
  omega
end Go.Proofs.YtcecdaeceipbnaaGreatDoor.Ir
