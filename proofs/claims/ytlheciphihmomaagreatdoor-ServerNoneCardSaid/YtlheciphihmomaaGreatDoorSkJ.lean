/- Sk, part J: rows of cells read and written by the machine. -/
import Derived.Test.YtlheciphihmomaaGreatDoorSkI
set_option linter.all false
namespace Go.Sk
open Go

theorem one_eq (v : Value) : Value.oneCell' v = one v := by cases v <;> rfl

theorem VOf_cells {g : Bool} {cs : List Value} {y : Value} (h : VOf g cs y) (h1 : ∀ v, v ∈ cs → one v = true) : y.cells.toList = cs := by
  cases g with
  | true => simp only [VOf] at h; subst h; simp [Value.cells]
  | false =>
    simp only [VOf] at h; subst h
    have := h1 y (by simp)
    cases y <;> simp_all [Value.cells, one]

mutual
theorem DRel.one {Γ : Gam} : ∀ (d : D) (cs : List Value), DRel Γ d cs → ∀ v, v ∈ cs → one v = true
  | .bool b, cs, h, v, hv => by simp only [DRel] at h; subst h; simp at hv; subst hv; rfl
  | .int k n, cs, h, v, hv => by simp only [DRel] at h; subst h; simp at hv; subst hv; rfl
  | .str s, cs, h, v, hv => by simp only [DRel] at h; subst h; simp at hv; subst hv; rfl
  | .agg l, cs, h, v, hv => by simp only [DRel] at h; exact DsRel.one l cs h v hv
  | .arr n q, cs, h, v, hv => by simp only [DRel] at h; exact SqR.one q cs h.1 v hv
  | .sl q, cs, h, v, hv => by
    simp only [DRel] at h; obtain ⟨x, ds, rfl, _, h2⟩ := h; simp at hv; subst hv
    rcases h2 with ⟨b, o, c, rfl, _⟩ | ⟨_, rfl, _⟩ <;> rfl
  | .slx q, cs, h, v, hv => by
    simp only [DRel] at h; obtain ⟨x, ds, rfl, _, h2, _⟩ := h; simp at hv; subst hv
    rcases h2 with ⟨b, o, c, rfl, _⟩ | ⟨_, rfl, _⟩ <;> rfl
  | .nils, cs, h, v, hv => by simp only [DRel] at h; subst h; simp at hv; subst hv; rfl
  | .nilp, cs, h, v, hv => by simp only [DRel] at h; subst h; simp at hv; subst hv; rfl
  | .nilm, cs, h, v, hv => by simp only [DRel] at h; subst h; simp at hv; subst hv; rfl
  | .nilf, cs, h, v, hv => by simp only [DRel] at h; subst h; simp at hv; subst hv; rfl
  | .nili, cs, h, v, hv => by simp only [DRel] at h; subst h; simp at hv; subst hv; rfl
  | .ifc t x, cs, h, v, hv => by simp only [DRel] at h; obtain ⟨x, ys, rfl, _⟩ := h; simp at hv; subst hv; rfl
  | .junk, cs, h, v, hv => by simp only [DRel] at h; obtain ⟨x, rfl, h1⟩ := h; simp at hv; subst hv; exact h1
theorem DsRel.one {Γ : Gam} : ∀ (l : List D) (cs : List Value), DsRel Γ l cs → ∀ v, v ∈ cs → Sk.one v = true
  | [], cs, h, v, hv => by simp only [DsRel] at h; subst h; simp at hv
  | x :: l, cs, h, v, hv => by
    simp only [DsRel] at h
    obtain ⟨a, b, rfl, ha, hb⟩ := h
    rcases List.mem_append.1 hv with h1 | h1
    · exact DRel.one x a ha v h1
    · exact DsRel.one l b hb v h1
theorem SqR.one {Γ : Gam} : ∀ (q : Sq D) (cs : List Value), SqR Γ q cs → ∀ v, v ∈ cs → Sk.one v = true
  | .b l, cs, h, v, hv => by simp only [SqR] at h; subst h; obtain ⟨_, _, rfl⟩ := List.mem_map.1 hv; rfl
  | .s l, cs, h, v, hv => by simp only [SqR] at h; subst h; obtain ⟨_, _, rfl⟩ := List.mem_map.1 hv; rfl
  | .i k l, cs, h, v, hv => by simp only [SqR] at h; subst h; obtain ⟨_, _, rfl⟩ := List.mem_map.1 hv; rfl
  | .g sh l, cs, h, v, hv => by simp only [SqR] at h; exact DsRel.one l cs h.1 v hv
end

mutual
theorem R.one {X : Tb} {E : Env} : ∀ (v : AV) (cs : List Value), R X E v cs → solid v = true → ∀ y, y ∈ cs → one y = true
  | .d x, cs, h, _, y, hy => by simp only [R] at h; exact DRel.one x cs h y hy
  | .ptr r p, cs, h, _, y, hy => by simp only [R] at h; obtain ⟨_, _, _, rfl, _⟩ := h; simp at hy; subst hy; rfl
  | .ep r g i p, cs, h, _, y, hy => by simp only [R] at h; obtain ⟨_, _, _, _, _, _, rfl, h1, _⟩ := h; simp at hy; subst hy; exact h1
  | .pd x p, cs, h, _, y, hy => by simp only [R] at h; obtain ⟨_, _, _, _, rfl, _⟩ := h; simp at hy; subst hy; rfl
  | .agg l, cs, h, hs, y, hy => by simp only [R] at h; simp only [solid] at hs; exact Rs_.one l cs h hs y hy
  | .tup l, cs, h, hs, y, hy => by simp [solid] at hs
  | .slt q r e, cs, h, _, y, hy => by
    simp only [R] at h; obtain ⟨z, _, _, _, rfl, _, h2, _⟩ := h; simp at hy; subst hy
    rcases h2 with ⟨b, o, c, rfl, _⟩ | ⟨_, rfl, _⟩ <;> rfl
  | .msl r g o l, cs, h, _, y, hy => by simp only [R] at h; obtain ⟨_, _, _, _, _, _, rfl, h1, _⟩ := h; simp at hy; subst hy; exact h1
  | .asl r p lo hi, cs, h, _, y, hy => by simp only [R] at h; obtain ⟨_, _, _, _, _, _, _, _, rfl, _⟩ := h; simp at hy; subst hy; rfl
  | .map r, cs, h, _, y, hy => by simp only [R] at h; obtain ⟨_, rfl, _⟩ := h; simp at hy; subst hy; rfl
  | .fn f a c, cs, h, _, y, hy => by simp only [R] at h; obtain ⟨_, _, rfl, _⟩ := h; simp at hy; subst hy; rfl
  | .yield r, cs, h, _, y, hy => by simp only [R] at h; obtain ⟨_, rfl, _⟩ := h; simp at hy; subst hy; rfl
  | .ifc t v, cs, h, _, y, hy => by simp only [R] at h; obtain ⟨_, _, rfl, _⟩ := h; simp at hy; subst hy; rfl
  | .gl _, cs, h, hs, y, hy => by simp only [R] at h; subst h; simp at hy; subst hy; rfl
  | .gd _ _, cs, h, hs, y, hy => by simp [solid] at hs
  | .undef, cs, h, hs, y, hy => by simp [solid] at hs
theorem Rs_.one {X : Tb} {E : Env} : ∀ (l : List AV) (cs : List Value), Rs_ X E l cs → solids l = true → ∀ y, y ∈ cs → Sk.one y = true
  | [], cs, h, _, y, hy => by simp only [Rs_] at h; subst h; simp at hy
  | x :: l, cs, h, hs, y, hy => by
    simp only [Rs_] at h
    simp only [solids, Bool.and_eq_true] at hs
    obtain ⟨a, b, rfl, ha, hb⟩ := h
    rcases List.mem_append.1 hy with h1 | h1
    · exact R.one x a ha hs.1 y h1
    · exact Rs_.one l b hb hs.2 y h1
end

theorem addr_add (b o j : Nat) : Addr.add ⟨b, o, none⟩ j = ⟨b, o + j, none⟩ := by
  unfold Addr.add; split <;> simp_all

section
variable {X : Tb} {P : Program} {w : World}

theorem CellsOK.cell {b : Nat} {cs : List Value} (h : CellsOK w b cs) (i : Nat) : cellAt w b i = cs[i]? := by
  obtain ⟨c, te, fz, hc, _, rfl⟩ := h
  rw [cellAt_of hc]; simp

theorem run_loadCells_at {b o : Nat} {cs : List Value} (h : ∀ j v, cs[j]? = some v → cellAt w b (o + j) = some v) :
    (loadCells ⟨b, o, none⟩ cs.length).run P w = .ok cs.toArray w :=
  run_loadCells_list w _ cs fun j v hv => by rw [addr_add]; exact h j v hv

theorem kn_td {t : Nat} (h : kn X t = true) : (∀ l, X.td t ≠ .tup l) ∧ X.td t ≠ .other := by
  unfold kn at h
  split at h
  · cases h
  · cases h
  · rename_i h1 h2; exact ⟨fun l e => h2 l e, h1⟩

theorem run_loadVar (hX : TbOK X P) {t : Nat} (hk : kn X t = true) {b o : Nat} {cs : List Value} (h : ∀ j v, cs[j]? = some v → cellAt w b (o + j) = some v)
    (hl : cs.length = (X.td t).size) : ∃ y, (loadVar t ⟨b, o, none⟩).run P w = .ok y w ∧ VOf (X.td t).isAgg cs y := by
  obtain ⟨h1, h2⟩ := kn_td hk
  cases ha : (X.td t).isAgg with
  | true =>
    refine ⟨.agg cs.toArray, ?_, rfl⟩
    have := run_loadCells_at (P := P) h
    rw [hl] at this
    simp only [loadVar, Sem.run_bind, run_isAgg hX rfl h1 h2, ha, Result.andThen_ok, if_true, run_sizeOf hX rfl h1 h2, this, Sem.run_pure]
  | false =>
    have h3 := size_scalar ha
    rw [h3] at hl
    obtain ⟨v, rfl⟩ := List.length_eq_one_iff.1 hl
    refine ⟨v, ?_, rfl⟩
    have h4 := h 0 v rfl
    simp only [cellAt, Nat.add_zero] at h4
    simp only [loadVar, Sem.run_bind, run_isAgg hX rfl h1 h2, ha, Result.andThen_ok, Bool.false_eq_true, if_false, run_load, h4]

/-- Cells written one behind the other. -/
theorem run_storeCells {b o : Nat} : ∀ (vs : List Value) (i : Nat) (w : World) (cs : List Value), (∀ v, v ∈ vs → one v = true) → CellsOK w b cs → o + i + vs.length ≤ cs.length →
    ∃ w', (storeCells ⟨b, o, none⟩ vs i).run P w = .ok () w' ∧ Kept (fun x y => x = b ∧ o + i ≤ y ∧ y < o + i + vs.length) w w' ∧
      CellsOK w' b (cs.take (o + i) ++ vs ++ cs.drop (o + i + vs.length))
  | [], i, w, cs, _, hc, _ => ⟨w, by simp [storeCells], .refl _ w, by simpa using hc⟩
  | v :: vs, i, w, cs, hv, hc, hlen => by
    obtain ⟨c, te, fz, hb, hu, rfl⟩ := hc
    simp only [List.length_cons] at hlen
    have hlt : o + i < c.size := by simp at hlen; omega
    have hcell : w.cell? ⟨b, o + i, none⟩ = some c[o + i] := by simp [World.cell?, hb, hlt]
    have hfz : w.frozen? ⟨b, o + i, none⟩ = false := by
      have := hu
      simp only [World.frozen?, hb]
      simp only [okfz] at this
      simp only [Bool.and_eq_false_iff, decide_eq_false_iff_not]
      omega
    have hb1 : (w.setCell ⟨b, o + i, none⟩ v).heap[b]? = some (.cells (c.setIfInBounds (o + i) v) te fz) := by
      simp [World.setCell, Array.getElem?_modify, hb]
    have hother : ∀ x, x ≠ b → (w.setCell ⟨b, o + i, none⟩ v).heap[x]? = w.heap[x]? := by
      intro x hx; simp [World.setCell, Array.getElem?_modify, Ne.symm hx]
    have hk1 : Kept (fun x y => x = b ∧ o + i ≤ y ∧ y < o + i + (vs.length + 1)) w (w.setCell ⟨b, o + i, none⟩ v) := by
      refine ⟨by simp [World.setCell], rfl, rfl, rfl, ?_, ?_⟩
      · intro x c' t' fz' hx
        by_cases e : x = b
        · subst e; rw [hb] at hx; cases hx
          refine ⟨_, _, hb1, by simp, fun y hy => ?_, fun _ => rfl, fun h => h⟩
          have : o + i ≠ y := fun e => hy ⟨rfl, by omega, by omega⟩
          simp [Array.getElem?_setIfInBounds_ne this]
        · exact ⟨c', fz', by rw [hother x e]; exact hx, rfl, fun _ _ => rfl, fun _ => rfl, fun h => h⟩
      · intro x y hx hy
        by_cases e : x = b
        · subst e; rw [hb] at hx; cases hx; cases hy
        · exact ⟨y, by rw [hother x e]; exact hx, hy, fun _ => rfl⟩
    have hc1 : CellsOK (w.setCell ⟨b, o + i, none⟩ v) b (c.toList.set (o + i) v) := ⟨_, te, fz, hb1, by simpa using hu, by simp⟩
    obtain ⟨w', h1, h2, h3⟩ := run_storeCells (b := b) (o := o) vs (i + 1) (w.setCell ⟨b, o + i, none⟩ v) (c.toList.set (o + i) v) (fun x hx => hv x (by simp [hx])) hc1 (by simp at hlen ⊢; omega)
    refine ⟨w', ?_, ?_, ?_⟩
    · have hst : (store ⟨b, o + i, none⟩ v).run P w = .ok () (w.setCell ⟨b, o + i, none⟩ v) := by
        rw [run_store P w _ v _ (by rw [one_eq]; exact hv v (by simp)), hcell]; simp [hfz]
      simp only [storeCells, Sem.run_bind, addr_add, hst, Result.andThen_ok, h1]
    · refine hk1.trans h2 fun x y _ hxy => ?_
      obtain ⟨h4, h5, h6⟩ := hxy; exact ⟨h4, by omega, by omega⟩
    · have e : (c.toList.set (o + i) v).take (o + (i + 1)) ++ vs ++ (c.toList.set (o + i) v).drop (o + (i + 1) + vs.length) = c.toList.take (o + i) ++ (v :: vs) ++ c.toList.drop (o + i + (vs.length + 1)) := by
        have hlt' : o + i < c.toList.length := by simpa using hlt
        rw [List.set_eq_take_append_cons_drop, if_pos hlt']
        have hl : (c.toList.take (o + i)).length = o + i := by simp; omega
        have e1 : (c.toList.take (o + i) ++ v :: c.toList.drop (o + i + 1)).take (o + (i + 1)) = c.toList.take (o + i) ++ [v] := by
          rw [List.take_append, hl, List.take_of_length_le (by rw [hl]; omega)]
          have : o + (i + 1) - (o + i) = 1 := by omega
          rw [this]; simp
        have e2 : (c.toList.take (o + i) ++ v :: c.toList.drop (o + i + 1)).drop (o + (i + 1) + vs.length) = c.toList.drop (o + i + (vs.length + 1)) := by
          rw [List.drop_append, hl, List.drop_of_length_le (by rw [hl]; omega)]
          have : o + (i + 1) + vs.length - (o + i) = vs.length + 1 := by omega
          rw [this, List.drop_succ_cons, List.drop_drop, List.nil_append]; congr 1; omega
        rw [e1, e2]; simp
      rw [e] at h3; simpa only [List.length_cons] using h3

theorem run_storeVar (hX : TbOK X P) {t : Nat} (hk : kn X t = true) {b o : Nat} {vs cs : List Value} {y : Value} (hy : y.cells.toList = vs) (h1 : ∀ v, v ∈ vs → one v = true)
    (hl : vs.length = (X.td t).size) (hc : CellsOK w b cs) (hb : o + vs.length ≤ cs.length) :
    ∃ w', (storeVar t ⟨b, o, none⟩ y).run P w = .ok () w' ∧ Kept (fun x i => x = b ∧ o ≤ i ∧ i < o + vs.length) w w' ∧ CellsOK w' b (cs.take o ++ vs ++ cs.drop (o + vs.length)) := by
  obtain ⟨k1, k2⟩ := kn_td hk
  obtain ⟨w', h2, h3, h4⟩ := run_storeCells (P := P) (b := b) (o := o) vs 0 w cs h1 hc (by simpa using hb)
  refine ⟨w', ?_, by simpa using h3, by simpa using h4⟩
  have hsz : y.cells.size = (X.td t).size := by rw [← hl, ← hy]; simp
  simp only [storeVar, Sem.run_bind, run_sizeOf hX rfl k1 k2, Result.andThen_ok, hsz, ne_eq, not_true, if_false, hy, h2]
end

end Go.Sk
