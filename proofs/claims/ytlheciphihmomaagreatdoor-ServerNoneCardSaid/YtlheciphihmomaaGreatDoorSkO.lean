/- Sk, part O: a slice read whole; appending; copying. -/
import Derived.Test.YtlheciphihmomaaGreatDoorSkN
set_option linter.all false
namespace Go.Sk
open Go

section
variable {X : Tb} {P : Program} {E : Env} {V : List AO} {w w' : World} {A : Ari}

/-- What reading a slice (or a text) gives the machine. -/
structure Reads (P : Program) (w : World) (y : Value) (st n : Nat) (ds : List Value) : Prop where
  len : (Builtin.lenOf y).run P w = .ok n w
  first : ∀ m, m ≤ n → (Builtin.firstCells st m y).run P w = .ok (ds.take (m * st)).toArray w

theorem reads_at {a : Addr} {n c st : Nat} {ds : List Value} {b o : Nat} (hl : ds.length = n * st) (ha : 0 < n * st → a = ⟨b, o, none⟩) (hc : ∀ j v, ds[j]? = some v → cellAt w b (o + j) = some v) :
    Reads P w (.slice (some a) n c) st n ds := by
  refine ⟨by simp [Builtin.lenOf], fun m hm => ?_⟩
  have hle : m * st ≤ n * st := Nat.mul_le_mul_right _ hm
  by_cases h0 : m * st = 0
  · rw [h0]; simp [Builtin.firstCells, h0, loadCells, loadCellsFrom]
  · have := ha (by omega); subst this
    have hlen : (ds.take (m * st)).length = m * st := by simp; omega
    have := run_loadCells_at (P := P) (w := w) (b := b) (o := o) (cs := ds.take (m * st)) (fun j v hv => by
      have hj : j < m * st := by
        have := (List.getElem?_eq_some_iff.1 hv).1
        simp at this; omega
      rw [List.getElem?_take_of_lt hj] at hv; exact hc j v hv)
    rw [hlen] at this
    simp only [Builtin.firstCells, this]

theorem reads_nil {st : Nat} {a : Option Addr} : Reads P w (.slice a 0 0) st 0 [] :=
  ⟨by simp [Builtin.lenOf], fun m hm => by
    have : m = 0 := by omega
    subst this; cases a <;> simp [Builtin.firstCells, loadCells, loadCellsFrom]⟩

theorem reads_slAt {Γ : Gam} (hΓ : ∀ b o v, Γ b o = some v → cellAt w b o = some v) {y : Value} {n st : Nat} {ds : List Value} (hs : SlAt Γ y n ds) (hl : ds.length = n * st) : Reads P w y st n ds := by
  rcases hs with ⟨b, o, cap, rfl, _, hc⟩ | ⟨a, rfl, rfl⟩
  · exact reads_at hl (fun _ => rfl) fun j v hv => hΓ _ _ _ (hc j v hv)
  · have : ds = [] := List.eq_nil_of_length_eq_zero (by omega)
    subst this; exact reads_nil

theorem reads_str {l : List UInt8} : Reads P w (.string ⟨l.toArray⟩) 1 l.length (l.map fun b => Value.int .u8 (b.toNat : Int)) := by
  refine ⟨by simp [Builtin.lenOf, ByteArray.size], fun m hm => ?_⟩
  simp only [Builtin.firstCells, Lib.extract_eq, Sem.run_pure]
  congr 1
  apply Array.ext'
  simp [List.map_take]

theorem seqOf_ok (hX : TbOK X P) (hi : Inv X P E V w) {e : Nat} {va : AV} {q : Sq D} {y : Value} (h : seqOf A X V e va = some q) (ha : RV0 X E va y) :
    ∃ ds, SqR E.Γ q ds ∧ Reads P w y q.st q.length ds := by
  unfold seqOf at h
  split at h
  · simp only [Option.some.injEq] at h; subst h
    obtain ⟨ds, h1, h2⟩ := rv_sl.1 ha
    exact ⟨ds, h1, reads_slAt hi.fast h2 (SqR.len _ _ h1)⟩
  · simp only [Option.some.injEq] at h; subst h
    obtain ⟨ds, h1, h2, _⟩ := rv_slx.1 ha
    exact ⟨ds, h1, reads_slAt hi.fast h2 (SqR.len _ _ h1)⟩
  · simp only [Option.some.injEq] at h; subst h
    rw [rv_nils] at ha; subst ha
    have hl : (emptySq X e).length = 0 := by unfold emptySq; split <;> rfl
    refine ⟨[], ?_, by rw [hl]; exact reads_nil⟩
    unfold emptySq; split <;> simp [SqR, DsRel, D.shsAll]
  · simp only [Option.some.injEq] at h; subst h
    rw [rv_str] at ha; subst ha
    exact ⟨_, by simp only [SqR], reads_str⟩
  · simp only [Option.some.injEq] at h; subst h
    obtain ⟨ds, τ, c, h1, h2, _⟩ := rv_slt.1 ha
    exact ⟨ds, h1, reads_slAt hi.fast h2 (SqR.len _ _ h1)⟩
  · rename_i r g off len
    split at h
    · rename_i e1 q1 g' hV
      split at h
      · rename_i hg0
        simp only [beq_iff_eq] at hg0; subst hg0
        simp only [Option.some.injEq] at h; subst h
        rw [rv_of_scalar rfl] at ha; simp only [R] at ha
        obtain ⟨b, e0, g0, n, cap, y', hy, hone, hg, hle, hgo⟩ := ha
        simp only [List.cons.injEq, and_true] at hy; subst hy
        obtain ⟨b', cap', hb, hcap, hst, cs, ds, hc, hr, hlen, htake⟩ := hi.arr hV hg
        simp only [Gh.arr.injEq] at hb; obtain ⟨rfl, rfl, rfl, rfl, rfl⟩ := hb
        obtain ⟨h0, h1, h2, bo, rfl, hbo⟩ := hgo rfl
        rw [A.plus_eq]
        have hsz := stOK_size hX hst
        obtain ⟨h3, h4, h5⟩ := Sq.cut_ok (A := A) hr h0 (by omega : off ≤ off + len) h2
        refine ⟨_, h3, ?_⟩
        rw [h4, Sq.kd_st h5]
        have e1 : (off + len - off).toNat = len.toNat := by congr 1; omega
        rw [e1]
        have hlen2 := SqR.len _ _ h3
        rw [h4, e1, Sq.kd_st h5] at hlen2
        refine reads_at (b := b) (o := off.toNat * (X.td e0).size) hlen2 (fun hpos => hbo ?_) ?_
        · have : 0 < len.toNat := Nat.pos_of_ne_zero fun h => by rw [h] at hpos; simp at hpos
          omega
        · intro j v hv
          subst htake
          rw [List.getElem?_drop] at hv
          have hj : off.toNat * q1.st + j < (off + len).toNat * q1.st := by
            have := (List.getElem?_eq_some_iff.1 hv).1
            simp at this; omega
          rw [List.getElem?_take_of_lt hj] at hv
          have hj2 : off.toNat * q1.st + j < q1.length * (X.td e0).size := by
            have := (List.getElem?_eq_some_iff.1 hv).1
            simp at this; omega
          rw [List.getElem?_take_of_lt hj2] at hv
          rw [hc.cell, ← hsz]; exact hv
      · cases h
    · cases h
  · rename_i r p lo hh
    split at h
    · rename_i u v hV
      split at h
      · rename_i n0 q0 hget
        simp only [Option.some.injEq] at h; subst h
        rw [rv_of_scalar rfl] at ha; simp only [R] at ha
        obtain ⟨b, t0, o, u', sz, n, e', bo, hy, hg, hu', htd', hof, hlo, hlh, hhn, hbo⟩ := ha
        simp only [List.cons.injEq, and_true] at hy; subst hy
        obtain ⟨b', hb, hf, cs, hc, hr⟩ := hi.blk hV hg
        simp only [Gh.blk.injEq] at hb; obtain ⟨rfl, rfl⟩ := hb
        obtain ⟨h1, h2, h3⟩ := getP_ok hX A p v _ u' o cs hr hf hof hu'
        rw [hget] at h1 h3
        obtain ⟨_, e2, h6, h7, _⟩ := h3.darr
        rw [htd'] at h6; cases h6
        simp only [R, DRel] at h1
        obtain ⟨h8, h9⟩ := h1
        obtain ⟨h10, h11, h12⟩ := Sq.cut_ok (A := A) h8 hlo hlh (by rw [h9]; exact hhn)
        refine ⟨_, h10, ?_⟩
        rw [h11, Sq.kd_st h12]
        have hlen2 := SqR.len _ _ h10
        rw [h11, Sq.kd_st h12] at hlen2
        refine reads_at (b := b) (o := o + lo.toNat * (X.td e').size) hlen2 (fun hpos => hbo ?_) ?_
        · have : 0 < (hh - lo).toNat := Nat.pos_of_ne_zero fun h => by rw [h] at hpos; simp at hpos
          omega
        · intro j v hv
          rw [List.getElem?_drop] at hv
          have hj : lo.toNat * q0.st + j < hh.toNat * q0.st := by
            have := (List.getElem?_eq_some_iff.1 hv).1
            simp at this; omega
          rw [List.getElem?_take_of_lt hj] at hv
          have := hc.at _ _ hv
          rw [h7] at this
          rw [Nat.add_assoc]; exact this
      · cases h
    · cases h
  · cases h

/-! ### Appending -/
theorem newcap_ok {need old by_ : Nat} (h : old < need) (hb : (need : Int) * (by_ : Int) ≤ 2 ^ 47) : ¬ (Builtin.nextslicecap need old * by_ > 2 ^ 48) := by
  have h1 : need * by_ ≤ 140737488355328 := by
    have : ((need * by_ : Nat) : Int) ≤ 2 ^ 47 := by rw [Int.natCast_mul]; exact hb
    omega
  have := growslice_fits h h1
  omega

/-- The second operand's type: slices, or texts. -/
def srcT (P : Program) (u : Nat) : Prop := (∃ e, P.underlying u = some (.slice e)) ∨ P.underlying u = some .string

/-- The machine's append where there is room. -/
theorem run_append_room (hX : TbOK X P) {t e : Nat} {u ty : Nat} (ht : X.td t = .sl e) (hk : kn X e = true) (hu : srcT P u) {a : Addr} {n c m : Nat} {y : Value} {ds : List Value}
    (hr : Reads P w y (X.td e).size m ds) (hl : ds.length = m * (X.td e).size) (hroom : n + m ≤ c) :
    (Builtin.append_ #[t, u] ty #[.slice (some a) n c, y]).run P w = ((storeCells (a.add (n * (X.td e).size)) ds).run P w).andThen fun _ w' => .ok (.slice (some a) (n + m) c) w' := by
  obtain ⟨u1, hu1, rfl⟩ := (hX.known ht (by simp) (by simp)).und
  obtain ⟨k1, k2⟩ := kn_td hk
  have hs := fun w : World => run_sizeOf (w := w) hX rfl k1 k2
  have hf := hr.first m (Nat.le_refl _)
  rw [← hl, List.take_length] at hf
  rcases hu with ⟨e', hu⟩ | hu <;>
  simp [Builtin.append_, run_und_raw hu1, run_und_raw hu, hs, hr.len, hroom, hl, ← hl, hf]

theorem run_append_none (hX : TbOK X P) {t e : Nat} {u ty : Nat} (ht : X.td t = .sl e) (hk : kn X e = true) (hu : srcT P u) {n c : Nat} {y : Value} {ds : List Value}
    (hr : Reads P w y (X.td e).size 0 ds) (hroom : n ≤ c) :
    (Builtin.append_ #[t, u] ty #[.slice none n c, y]).run P w = .ok (.slice none n c) w := by
  obtain ⟨u1, hu1, rfl⟩ := (hX.known ht (by simp) (by simp)).und
  obtain ⟨k1, k2⟩ := kn_td hk
  have hs := fun w : World => run_sizeOf (w := w) hX rfl k1 k2
  have hf := hr.first 0 (Nat.le_refl _)
  rcases hu with ⟨e', hu⟩ | hu <;>
  simp [Builtin.append_, run_und_raw hu1, run_und_raw hu, hs, hr.len, hroom, hf]

/-- What a new array holds behind what is asked. -/
theorem run_append_grown (hX : TbOK X P) {t e : Nat} {u ty : Nat} (ht : X.td t = .sl e) (hk : kn X e = true) (hu : srcT P u) {a : Option Addr} {n c m : Nat} {y : Value} {ds olds : List Value}
    (hlen : (Builtin.lenOf y).run P w = .ok m w) (hr : Reads P w.drew y (X.td e).size m ds) (hl : ds.length = m * (X.td e).size)
    (ho : (Builtin.firstCells (X.td e).size n (.slice a n c)).run P w.drew = .ok olds.toArray w.drew) (hol : olds.length = n * (X.td e).size)
    (hgrow : c < n + m) (hb : ((n + m : Nat) : Int) * (X.bytes e : Int) ≤ 2 ^ 47) (h63 : ((n + m : Nat) : Int) ≤ 9223372036854775807) :
    ∃ cap rest, n + m ≤ cap ∧ rest.length = (cap - (n + m)) * (X.td e).size ∧
      (Builtin.append_ #[t, u] ty #[.slice a n c, y]).run P w = .ok (.slice (some ⟨w.heap.size, 0, none⟩) (n + m) cap) (w.drew.alloc (.cells (olds ++ ds ++ rest).toArray e)) := by
  obtain ⟨u1, hu1, rfl⟩ := (hX.known ht (by simp) (by simp)).und
  obtain ⟨k1, k2⟩ := kn_td hk
  obtain ⟨i, hi, his, hib, _⟩ := (hX.known (rfl : X.td e = X.td e) k1 k2).info
  obtain ⟨i', hi', hz⟩ := (hX.known (rfl : X.td e = X.td e) k1 k2).zero
  rw [hi] at hi'; cases hi'
  obtain ⟨z, hz⟩ := Option.isSome_iff_exists.1 hz
  have hf := hr.first m (Nat.le_refl _)
  rw [← hl, List.take_length] at hf
  have hn : ¬ (n + m ≤ c) := by omega
  have h63' : ¬ (9223372036854775807 < (n : Int) + (m : Int)) := by omega
  have h48 : ¬ (281474976710656 < Builtin.nextslicecap (n + m) c * i.bytes) := by
    have := newcap_ok (need := n + m) (old := c) (by_ := X.bytes e) hgrow hb
    rw [hib]; omega
  refine ⟨grownCap w (n + m) c e, (Builtin.zeroCells z.cells (grownCap w (n + m) c e - (n + m))).toList, ?_, ?_, ?_⟩
  · exact Nat.le_add_right _ _
  · obtain ⟨i2, hi2, _, _, hzz⟩ := (hX.known (rfl : X.td e = X.td e) k1 k2).info
    rw [hi] at hi2; cases hi2
    obtain ⟨cs, hd, hv, hcl⟩ := hzz z hz
    have := VOf_cells hv (DRel.one _ _ hd)
    simp [Builtin.zeroCells, ← hcl, ← this]
  · rcases hu with ⟨e', hu⟩ | hu
    · simp [Builtin.append_, run_und_raw hu1, run_und_raw hu, sizeOf, typeInfo, zeroValue, hi, hz, his, hlen, hn, h63', h48, Question.forced, hf, ho, newRow, grownCap]
      congr 2
      apply Array.ext'
      simp [List.append_assoc]
    · simp [Builtin.append_, run_und_raw hu1, run_und_raw hu, sizeOf, typeInfo, zeroValue, hi, hz, his, hlen, hn, h63', h48, Question.forced, hf, ho, newRow, grownCap]
      congr 2
      apply Array.ext'
      simp [List.append_assoc]

end
end Go.Sk
