/- Sk, part ZO: from a function's contract over closed data to the kit's post-condition of a law. -/
import Derived.Test.YtlheciphihmomaaGreatDoorSkZN
import Derived.ChangeSame
import Derived.ChangeSlices
set_option linter.all false
namespace Go.Sk
open Go Go.WideShapes Go.ChangeShapes

section
variable {X : Tb} {P : Program}

theorem keptBut_of {W W' : World} {E' : Env} (h : Ext (E0 W) W E' W') (may : MemPlace → Prop) : W.keptBut W' may := by
  refine ⟨h.kept.os, h.kept.out, fun i hi => ?_⟩
  obtain ⟨x, hx⟩ : ∃ x, W.heap[i]? = some x := ⟨W.heap[i], by simp [hi]⟩
  cases hc : isCells x with
  | true =>
    cases x <;> simp only [isCells] at hc <;> try (cases hc; done)
    rename_i c t fz
    obtain ⟨c', fz', h1, h2, h3, h4, _⟩ := h.kept.row i c t fz hx
    have := h4 ⟨0, no_own⟩
    subst this
    rw [hx, h1]
    exact ⟨rfl, rfl, h2, fun j _ => h3 j no_own⟩
  | false =>
    obtain ⟨x', h1, h2, h3⟩ := h.kept.obj i x hx hc
    have := h3 ⟨0, no_own⟩
    subst this
    rw [hx, h1]
    cases x' <;> simp only [isCells] at hc <;> first | (cases hc; done) | rfl | exact .inr ⟨rfl, rfl⟩

theorem frozen_of {W W' : World} {E' : Env} (h : Ext (E0 W) W E' W') {b : Nat} (hb : b < W.heap.size) (o : Nat) : W'.frozen? ⟨b, o, none⟩ = W.frozen? ⟨b, o, none⟩ := by
  obtain ⟨x, hx⟩ : ∃ x, W.heap[b]? = some x := ⟨W.heap[b], by simp [hb]⟩
  cases hc : isCells x with
  | true =>
    cases x <;> simp only [isCells] at hc <;> try (cases hc; done)
    rename_i c t fz
    obtain ⟨c', fz', h1, h2, h3, h4, _⟩ := h.kept.row b c t fz hx
    have := h4 ⟨0, no_own⟩
    subst this
    simp only [World.frozen?, hx, h1]
  | false =>
    obtain ⟨x', h1, h2, h3⟩ := h.kept.obj b x hx hc
    have := h3 ⟨0, no_own⟩
    subst this
    simp only [World.frozen?, hx, h1]

theorem cell_of {W W' : World} {E' : Env} (h : Ext (E0 W) W E' W') {b o : Nat} {v : Value} (hv : cellAt W b o = some v) : cellAt W' b o = some v := h.kept.cell hv no_own

variable {H : Type} {enc : TypeId × Value → H}

/-- Where nothing that was there has changed, and the arguments read as they did. -/
theorem post_of_old {f : Func} {s : ChangeSpec} {apart fresh handsOn again : Bool} {W W' : World} {E' : Env} {args : Array Value} {v : Value} {ds gs : List (DataW H)} {before pa pv : List MemPlace}
    (hW : DataW.Whole enc P f.params.toList s.vars apart W args.toList ds gs before) (hx : Ext (E0 W) W E' W')
    (hres : ∀ (b : Nat) (sp : Nat → Bool) (hd : Bool), DataW.TrodAll enc P W' b sp hd f.resultTypes.toList (v.resultList f.resultTypes.size) (s.fn H (ds ++ gs)).results [])
    (hargs : ∀ sp : Nat → Bool, (∀ p ∈ before, sp p.block = true) → DataW.TrodAll enc P W' 0 sp true f.params.toList args.toList (s.fn H (ds ++ gs)).args pa)
    (hvars : ∀ sp : Nat → Bool, (∀ p ∈ before, sp p.block = true) → DataW.TrodVars enc P W' sp s.vars (s.fn H (ds ++ gs)).vars pv)
    (hps : before = pa ++ pv)
    (hok : ∀ (j : Nat) (t : TypeId) (r : Value), f.resultTypes[j]? = some t → (v.resultList f.resultTypes.size)[j]? = some r → Value.okWide P W' .any 0 t r) :
    s.post enc P f apart fresh handsOn again W args v W' := by
  have hold : ∀ p ∈ before, (fun b => decide (b < W.heap.size)) p.block = true := fun p hp => by simpa using hW.lt p hp
  refine ⟨ds, gs, before, [], pa, pv, hW, hres _ _ _, hargs _ hold, hvars _ hold, keptBut_of hx _, fun _ => ?_⟩
  obtain ⟨_, _, _, _, _, hz, hn⟩ := id hW
  refine ⟨hok, _, _, ([] ++ pa) ++ pv, ⟨[] ++ pa, pv, trodAll_append (hargs _ (fun _ _ => rfl)) (hres _ _ _), hvars _ (fun _ _ => rfl), rfl, ?_, ?_⟩, ?_⟩
  · intro b off hp
    have hp' : MemPlace.cell b off ∈ before := by rw [hps]; simpa using hp
    have this : b < W.heap.size := hW.lt _ hp'
    rw [frozen_of hx this]
    exact hz b off hp'
  · intro ha
    have := hn ha
    rw [hps] at this
    simpa using this
  · intro p hp _
    rw [hps]
    simpa using hp

/-! ### Arguments -/
theorem uint8_back {n : Int} (h : (Lit.int .u8 n).wf = true) : ((UInt8.ofNat n.toNat).toNat : Int) = n := by
  simp [Lit.wf, IntKind.min, IntKind.max, IntKind.signed, IntKind.bits] at h
  rw [UInt8.toNat_ofNat']
  omega

/-- A []byte that came in. -/
theorem arg_bytes {W : World} {t e : TypeId} {v : Value} {d : DataW H} {ps : List MemPlace} (ht : P.underlying t = some (.slice e)) (he : P.underlying e = some (.int .u8)) (hc : P.cellsOf e = 1)
    (hv : v.cells.toList = [v]) (hd : DataW.Trod enc P W 0 (fun _ => true) true t v d ps) :
    ∃ l : List UInt8, l.length ≤ maxLen ∧ RV0 X (E0 W) (.d (.sl (.b l))) v ∧
      ∀ W' E' sp, Ext (E0 W) W E' W' → (∀ p ∈ ps, sp p.block = true) → DataW.Trod enc P W' 0 sp true t v d ps := by
  obtain ⟨fuel, hf⟩ := hd
  rw [hv] at hf
  rcases open_ints ht he hc hf with ⟨h1, h2⟩ | ⟨a, len, cap, zs, h1, _, hl, hm, hz, h2, hcell, hw⟩
  · simp only [List.cons.injEq, and_true] at h1; subst h1
    simp only [Prod.mk.injEq] at h2; obtain ⟨rfl, rfl⟩ := h2
    refine ⟨[], by simp, rv_sl.2 ⟨[], by simp [SqR], .inr ⟨_, rfl, rfl⟩⟩, fun W' E' sp _ _ => ⟨1, ?_⟩⟩
    rw [hv]; simp [DataW.trod, ht]
  · simp only [List.cons.injEq, and_true] at h1; subst h1
    simp only [Prod.mk.injEq] at h2; obtain ⟨rfl, rfl⟩ := h2
    simp only [if_true] at hz
    have hsp : zs ≠ [] → a.spot = none := by
      intro hne
      have := hcell 0 (List.length_pos_iff.2 hne)
      obtain ⟨b, o, s⟩ := a
      cases s with
      | none => rfl
      | some s =>
        simp only [Addr.add, if_true, World.cell?] at this
        split at this <;> simp at this
    have hcells : ∀ i, i < zs.length → cellAt W a.block (a.off + i) = some (.int .u8 (zs.getD i 0)) := by
      intro i hi
      have h1 := hcell i hi
      have h2 := hsp (by intro h; rw [h] at hi; simp at hi)
      obtain ⟨b, o, s⟩ := a
      simp only at h2; subst h2
      rw [addr_add] at h1; exact h1
    refine ⟨(zs.take len).map fun n => UInt8.ofNat n.toNat, by simp; omega, rv_sl.2 ⟨(zs.take len).map fun n => .int .u8 n, ?_, ?_⟩, ?_⟩
    · simp only [SqR, List.map_map]
      refine List.map_congr_left fun n hn => ?_
      simp only [Function.comp, uint8_back (hw n (List.mem_of_mem_take hn))]
    · simp only [Sq.length, List.length_map, List.length_take, hz, Nat.min_eq_left hl]
      by_cases h0 : cap = 0
      · subst h0
        have : len = 0 := by omega
        subst this
        exact .inr ⟨_, rfl, rfl⟩
      · have hne := hsp (by intro h; rw [h] at hz; simp at hz; omega)
        obtain ⟨b, o, s⟩ := a
        simp only at hne; subst hne
        refine .inl ⟨b, o, cap, rfl, hl, ?_⟩
        intro i v hv
        have hi := (List.getElem?_eq_some_iff.1 hv).1
        simp only [List.length_map, List.length_take] at hi
        have := hcells i (by omega)
        simp only [List.getElem?_map, List.getElem?_take_of_lt (show i < len by omega)] at hv
        have hzi : zs[i]? = some (zs.getD i 0) := by simp [show i < zs.length by omega]
        rw [hzi] at hv
        simp only [Option.map_some, Option.some.injEq] at hv
        subst hv; exact this
    · intro W' E' sp hx hspar
      have hcell' : ∀ i, i < zs.length → W'.cell? (a.add i) = some (.int .u8 (zs.getD i 0)) := by
        intro i hi
        have h1 := hcells i hi
        have h2 := hsp (by intro h; rw [h] at hi; simp at hi)
        obtain ⟨b, o, s⟩ := a
        simp only at h2; subst h2
        rw [addr_add]; exact cell_of hx h1
      have hzz : zs.length = (if sp a.block = true then cap else len) := by
        by_cases h0 : cap = 0
        · have : len = 0 := by omega
          rw [hz, h0, this]; simp
        · have this : sp a.block = true := hspar (.cell a.block (a.off + 0)) (by
            refine (List.mem_iff_getElem?).2 ⟨0, ?_⟩
            simp [MemPlace.row, hz, show 0 < cap by omega])
          rw [if_pos this, hz]
      have := shut_ints (enc := enc) (P := P) (w := W') (base := 0) (spare := sp) (held := true) (zs := zs) 0 ht he hc (Nat.zero_le _) hl hm hzz hcell' hw
      exact ⟨2, by rw [hv]; exact this⟩

end
end Go.Sk
