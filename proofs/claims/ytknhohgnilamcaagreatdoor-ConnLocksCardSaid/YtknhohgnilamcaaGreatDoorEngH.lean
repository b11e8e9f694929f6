/-
  The operations that write or make memory: the model does the same; appends. (Of no program.)
-/
import Derived.Test.YtknhohgnilamcaaGreatDoorEngG
namespace Go.Proofs.YtknhohgnilamcaaGreatDoor
set_option linter.unusedVariables false
set_option linter.unusedSimpArgs false
set_option linter.unusedSectionVars false
open Go

section
variable {P : Program} {E : Env P}
theorem extwo {ρ : Operand → Value} {d : Option Tmp} {bb : Builtin} {args : Array Operand} {ats : Array TypeId} {ty : TypeId} {pos : String} {af : Array Edge} {g : Option (Nat × Bool)} {x y : Operand} {w w' : World} {v' : Value} {f : Array TypeId → TypeId → Array Value → Sem Value}
    (hbb : ∀ ats ty cs vs, builtin bb ats ty cs vs = (do pure (.value (← f ats ty vs)))) (ha : args.toList = [x, y]) (h : (f ats ty #[ρ x, ρ y]).run P w = .ok v' w') : (execOp ρ ⟨d, .call ⟨.builtin bb, args, ats⟩, ty, pos, af, g⟩).run P w = .ok (.value v') w' := by
  obtain rfl : args = #[x, y] := Array.toList_inj.1 ha
  unfold execOp
  simp only [resolve, invoke, Sem.run_bind, Sem.run_pure, Result.andThen_ok, List.map_toArray, List.map_cons, List.map_nil, hbb, h]

def lenOfV (v : V) : Nat := match v with | .slice _ _ n _ _ => n | _ => 0
theorem sliceCells_sound {ι : Nm} {σ : St} {w : World} (R : Rep ι σ w) {v : V} {v' : Value} (hv : VR ι v v') {esz : Nat} {l : List V} (h : sliceCells σ v esz = some l) :
    ∃ a len c l', v' = .slice a len c ∧ VRs ι l l' ∧ l'.length = len * esz ∧ (∀ ad, a = some ad → ∀ j u, l'[j]? = some u → w.cell? (ad.add j) = some u) ∧ (a = none → len = 0 ∧ c = 0) ∧ len = lenOfV v := by
  cases v <;> simp [sliceCells] at h
  case nils =>
    subst h
    have := hv.nils_inv
    subst this
    exact ⟨none, 0, 0, [], rfl, .nil, by simp, (fun ad h => by cases h), fun _ => ⟨rfl, rfl⟩, rfl⟩
  case slice p o len cap es =>
    obtain ⟨pl, aa, c, k1, k2, k3, k4, k5, k6, k7⟩ := hv.slice_inv
    subst k7
    split at h
    · rename_i hes
      have hes : es = esz := by simpa using hes
      subst hes
      cases len with
      | zero =>
        cases h
        exact ⟨some aa, 0, c, [], rfl, .nil, by simp, (fun ad h j u hu => by simp at hu), (fun h => by cases h), rfl⟩
      | succ len' =>
        simp only at h
        split at h
        · rename_i l1 kin fz ro hg
          split at h
          · rename_i hle
            have hle := ble_le hle
            rw [llen_eq] at hle
            have hle : o + (len' + 1) * es ≤ l1.length := hle
            cases h
            obtain ⟨pl0, c0, e0, g1, g2, g3, g4, g5, g6⟩ := R.ob p _ hg
            rw [k1] at g1; cases g1
            have k5 := k5 (by omega)
            subst k5
            refine ⟨_, len' + 1, c, (c0.toList.drop (pl.st + o)).take ((len' + 1) * es), rfl, ?_, ?_, ?_, (fun h => by cases h), rfl⟩
            · rw [ltake_eq, ldrop_eq]
              refine ⟨by simp; omega, fun i x y hx hy => ?_⟩
              rw [List.getElem?_take] at hx hy
              split at hx
              · rename_i hlt
                have hlt : i < (len' + 1) * es := hlt
                rw [if_pos hlt] at hy
                rw [List.getElem?_drop] at hx hy
                exact g6 (o + i) x y hx (by rw [← Nat.add_assoc]; simpa using hy)
              · cases hx
            · simp; omega
            · intro ad had j u hu
              cases had
              rw [List.getElem?_take] at hu
              split at hu
              · rw [List.getElem?_drop] at hu
                rw [addr_add, cell?_blk g3]
                simpa using hu
              · cases hu
          · cases h
        · cases h
    · cases h
theorem src_sound {ι : Nm} {σ : St} {w : World} (R : Rep ι σ w) {v : V} {v' : Value} (hv : VR ι v v') {esz n : Nat} {str : Bool} {news : List V} (h : srcCells σ v esz str = some (n, news)) (hp : n = 0 ∨ lall plainV news = true) {tx : TypeId}
    (hk : srcB P tx str esz = true) :
    ∃ news', Src P esz tx v' n news' w ∧ VRs ι news news' := by
  unfold srcB at hk
  split at hk
  · rename_i e hu
    have hs : str = false := by simpa using hk
    subst hs
    simp only [srcCells] at h
    split at h
    · cases h
    · rename_i l hl
      obtain ⟨a, len, c, l', e1, e2, e3, e4, e5, e6⟩ := sliceCells_sound R hv hl
      have hn : n = len ∧ news = l := by
        cases v <;> simp [lenOfV] at h e6 <;> (obtain ⟨rfl, rfl⟩ := h; first | exact ⟨e6.symm, rfl⟩ | exact ⟨e6.symm, rfl⟩)
      obtain ⟨rfl, rfl⟩ := hn
      subst e1
      refine ⟨l', ?_, e2⟩
      have hone : ∀ u ∈ l', u.oneCell' = true := by
        rcases hp with rfl | hp
        · have : l' = [] := List.length_eq_zero_iff.1 (by rw [e3]; simp)
          subst this
          intro u hu; cases hu
        · exact (plain_flat hp e2).2
      cases a with
      | none =>
        obtain ⟨rfl, rfl⟩ := e5 rfl
        have : l' = [] := List.length_eq_zero_iff.1 (by rw [e3]; simp)
        subst this
        exact Src.ofNil w hu 0
      | some ad => exact Src.ofSlice w hu ad n c l' e3 (e4 ad rfl) hone
  · rename_i hu
    simp only [Bool.and_eq_true, beq_iff_eq] at hk
    obtain ⟨rfl, rfl⟩ := hk
    simp only [srcCells] at h
    split at h
    · rename_i l
      obtain ⟨s, rfl, hs⟩ := hv.str_inv
      simp only [Option.some.injEq, Prod.mk.injEq] at h
      obtain ⟨rfl, rfl⟩ := h
      have hsz : s.size = llen l := by rw [llen_eq, ← hs]; simp
      rw [← hsz]
      refine ⟨byteCells s, Src.ofString w hu s, ?_⟩
      rw [lmap_eq, ← hs]
      refine ⟨by simp [byteCells], fun i x y hx hy => ?_⟩
      simp only [byteCells, List.getElem?_map] at hx hy
      cases hg : s.data.toList[i]? with
      | none => rw [hg] at hx; cases hx
      | some uu =>
        rw [hg] at hx hy
        simp at hx hy
        subst hx; subst hy
        refine .int _ _ ?_
        have := uu.toNat_lt
        unfold IntKind.has IntKind.min IntKind.max
        simp [IntKind.bits, IntKind.signed]
        omega
    · cases h
  · cases hk
theorem app_zero {t tx ty e : TypeId} {i : TypeInfo} (ht : P.underlying t = some (.slice e)) (hi : P.info? e = some i) {base : Option Addr} {sLen sCap : Nat} {x : Value} {news : List Value} {w : World} (hs : Src P i.size tx x 0 news w) (hle : sLen ≤ sCap) :
    (Builtin.append_ #[t, tx] ty #[.slice base sLen sCap, x]).run P w = .ok (.slice base sLen sCap) w := by
  have hnil : news = [] := List.length_eq_zero_iff.1 (by rw [hs.newsLen]; simp)
  subst hnil
  rcases hs.kind with ⟨e', hk⟩ | hk <;> cases base <;> simp [Builtin.append_, run_underlying ht, run_underlying hk, Go.sizeOf, typeInfo, hi, hs.len, hle, hs.cells, storeCells]
theorem grownCap_le (w : World) (need old : Nat) (e : TypeId) : need ≤ grownCap w need old e := by
  unfold grownCap Question.cut
  exact Nat.le_add_right _ _
theorem zeroCells_size (z : Array Value) (n : Nat) : (Builtin.zeroCells z n).size = n * z.size := by simp [Builtin.zeroCells]
/-- what is known of the elements -/
structure El (P : Program) (t e : TypeId) (i : TypeInfo) (z : Value) (esz bts : Nat) : Prop where
  ht : P.underlying t = some (.slice e)
  hi : P.info? e = some i
  hz : i.zero = some z
  size : i.size = esz
  bytes : i.bytes = bts
  zsize : z.cells.size = esz
  pos : 0 < esz
theorem bound_le {n bts : Nat} (h : Nat.ble (Nat.mul n (Nat.add bts 1)) 1099511627776 = true) : n * bts ≤ 1099511627776 ∧ n ≤ 1099511627776 := by
  have h : n * (bts + 1) ≤ 1099511627776 := ble_le h
  rw [Nat.mul_add] at h
  omega
/-- a new row for what was there and what is appended -/
theorem grow_sound {ι : Nm} {σ : St} {w : World} (R : Rep ι σ w) {t tx ty e : TypeId} {i : TypeInfo} {z : Value} {esz bts : Nat} (K : El P t e i z esz bts) {base : Option Addr} {sLen sCap n : Nat} {olds news : List Value} {ol nw : List V} {x : Value}
    (hold : (Builtin.firstCells esz sLen (.slice base sLen sCap)).run P w.drew = .ok olds.toArray w.drew) (ho : VRs ι ol olds) (hol : olds.length = sLen * esz) (hs : Src P esz tx x n news w) (hn : VRs ι nw news) (hg : sCap < sLen + n)
    (hb : (sLen + n) * bts ≤ 1099511627776 ∧ sLen + n ≤ 1099511627776) :
    ∃ c cap, (Builtin.append_ #[t, tx] ty #[.slice base sLen sCap, x]).run P w = .ok (.slice (some ⟨w.heap.size, 0, none⟩) (sLen + n) cap) (w.drew.alloc (.cells c e)) ∧
      VRs ι (ol ++ nw) (c.toList.take (ol ++ nw).length) ∧ (ol ++ nw).length ≤ c.size ∧ cap * esz ≤ c.size ∧ sLen + n ≤ cap := by
  have hi' := K.hi
  have e1 := K.size
  have e2 := K.bytes
  subst e1
  subst e2
  have hr := run_append_grow_src (P := P) w t tx ty e i z K.ht K.hi K.hz base sLen sCap olds hold x n news hs hg (by omega) (growslice_fits hg (by omega))
  refine ⟨_, _, hr, ?_, ?_, ?_, grownCap_le _ _ _ _⟩
  · have hl : (olds ++ news).length = (ol ++ nw).length := by simp [ho.1, hn.1]
    have : (((olds ++ news).toArray ++ Builtin.zeroCells z.cells (grownCap w (sLen + n) sCap e - (sLen + n))).toList.take (ol ++ nw).length) = olds ++ news := by
      have e : ((olds ++ news).toArray ++ Builtin.zeroCells z.cells (grownCap w (sLen + n) sCap e - (sLen + n))).toList = (olds ++ news) ++ (Builtin.zeroCells z.cells (grownCap w (sLen + n) sCap e - (sLen + n))).toList := by simp
      rw [e, ← hl, List.take_left]
    rw [this]
    exact ho.append hn
  · have h1 := ho.1
    have h2 := hn.1
    simp; omega
  · have h3 := grownCap_le w (sLen + n) sCap e
    have h4 := hs.newsLen
    simp only [Array.size_append, List.size_toArray, List.length_append, zeroCells_size, K.zsize, hol, h4]
    have := mul_split (e := i.size) h3
    rw [Nat.add_mul] at this
    omega
end
end Go.Proofs.YtknhohgnilamcaaGreatDoor
