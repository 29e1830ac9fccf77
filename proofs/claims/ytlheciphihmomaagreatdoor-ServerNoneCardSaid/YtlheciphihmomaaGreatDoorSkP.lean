/- Sk, part P: appending, told abstractly. -/
import Derived.Test.YtlheciphihmomaaGreatDoorSkO
set_option linter.all false
namespace Go.Sk
open Go

/-- Cells more. -/
def Gam.add (Γ : Gam) (b lo : Nat) (cs : List Value) : Gam := fun x o => if x = b ∧ lo ≤ o ∧ o < lo + cs.length then cs[o - lo]? else Γ x o

theorem Gam.add_old {Γ : Gam} {b lo : Nat} {cs : List Value} (h : ∀ o, lo ≤ o → o < lo + cs.length → Γ b o = none) : ∀ x o v, Γ x o = some v → Γ.add b lo cs x o = some v := by
  intro x o v hv
  unfold Gam.add
  rw [if_neg]
  · exact hv
  · rintro ⟨rfl, h1, h2⟩
    rw [h o h1 h2] at hv; cases hv

theorem Gam.add_new {Γ : Gam} {b lo : Nat} {cs : List Value} : CellsAt (Γ.add b lo cs) b lo cs := by
  intro i v hv
  have := (List.getElem?_eq_some_iff.1 hv).1
  unfold Gam.add
  rw [if_pos ⟨rfl, by omega, by omega⟩]
  simpa using hv

theorem Gam.add_some {Γ : Gam} {b lo : Nat} {cs : List Value} {x o : Nat} {v : Value} (h : Γ.add b lo cs x o = some v) :
    Γ x o = some v ∨ (x = b ∧ lo ≤ o ∧ o < lo + cs.length ∧ cs[o - lo]? = some v) := by
  unfold Gam.add at h
  split at h
  · rename_i hc; exact .inr ⟨hc.1, hc.2.1, hc.2.2, h⟩
  · exact .inl h

theorem CellsAt.append {Γ : Gam} {b o : Nat} {cs ds : List Value} (h : CellsAt Γ b o cs) (h' : CellsAt Γ b (o + cs.length) ds) : CellsAt Γ b o (cs ++ ds) := by
  intro i v hv
  by_cases hi : i < cs.length
  · rw [List.getElem?_append_left hi] at hv; exact h i v hv
  · rw [List.getElem?_append_right (by omega)] at hv
    have := h' _ _ hv
    have e : o + cs.length + (i - cs.length) = o + i := by omega
    rwa [e] at this

theorem CellsAt.mono {Γ Γ' : Gam} (h : ∀ b o v, Γ b o = some v → Γ' b o = some v) {b o : Nat} {cs : List Value} (hc : CellsAt Γ b o cs) : CellsAt Γ' b o cs :=
  fun i v hv => h _ _ _ (hc i v hv)

section
variable {X : Tb} {P : Program} {E : Env} {V : List AO} {w w' : World} {A : Ari}

theorem grown_kept (O : Nat → Nat → Prop) (w : World) (x : Obj) : Kept O w (w.drew.alloc x) :=
  (Kept.of_heap (O := O) (w := w) (w' := w.drew) rfl rfl rfl rfl).trans (Kept.push O w.drew x) (fun _ _ _ h => h)

theorem grown_new (w : World) (x : Obj) : (w.drew.alloc x).heap[w.heap.size]? = some x := by
  have := push_new w.drew x; simpa [World.push, World.alloc] using this

theorem grown_size (w : World) (x : Obj) : (w.drew.alloc x).heap.size = w.heap.size + 1 := by
  simp [World.alloc]

theorem Inv.noneAt (hi : Inv X P E V w) {b o : Nat} (h : w.heap.size ≤ b) : E.Γ b o = none := by
  cases hc : E.Γ b o with
  | none => rfl
  | some v =>
    obtain ⟨c, t, fz, hb, _⟩ := cellAt_some (hi.fast b o v hc)
    have := (Array.getElem?_eq_some_iff.1 hb).1; omega

theorem Inv.noneOwn (hi : Inv X P E V w) {b o : Nat} (h : Own E.ρ b o) : E.Γ b o = none := by
  cases hc : E.Γ b o with
  | none => rfl
  | some v => exact absurd h (hi.free b o v hc)

/-- A slot for growth, over no memory of its own. -/
theorem Inv.addTok0 (hi : Inv X P E V w) : Inv X P ⟨E.Γ, E.ρ ++ [.tok (fun _ => none) 0]⟩ (V ++ [.grow 0]) w ∧ Ext E w ⟨E.Γ, E.ρ ++ [.tok (fun _ => none) 0]⟩ w :=
  hi.add (g' := .tok (fun _ => none) 0) (o' := .grow 0) (Γ' := E.Γ) (.refl _ w) (fun _ _ _ h => h) (fun b o ⟨_, _, _, h, _⟩ => by cases h) (fun b o v hv => .inl hv) ⟨rfl, fun _ _ _ h => by cases h⟩

/-- A slot for growth, over a new array. -/
theorem Inv.addTok (hi : Inv X P E V w) {cs rest : List Value} {e : Nat} :
    let E' : Env := ⟨E.Γ.add w.heap.size 0 cs, E.ρ ++ [.tok (fun k => if k = 0 then some (w.heap.size, cs.length, cs.length + rest.length) else none) 0]⟩
    Inv X P E' (V ++ [.grow 0]) (w.drew.alloc (.cells (cs ++ rest).toArray e)) ∧ Ext E w E' (w.drew.alloc (.cells (cs ++ rest).toArray e)) := by
  have hn := grown_new w (.cells (cs ++ rest).toArray e)
  have hcok : CellsOK (w.drew.alloc (.cells (cs ++ rest).toArray e)) w.heap.size (cs ++ rest) := ⟨_, e, (0, 0), hn, .inl rfl, by simp⟩
  refine hi.add (g' := .tok _ 0) (o' := .grow 0) (grown_kept _ w _) (Gam.add_old fun o _ _ => hi.noneAt (Nat.le_refl _)) ?_ ?_ ?_
  · rintro b o ⟨b', lo, hh, hτ, rfl, _, _⟩
    simp only [if_true, Option.some.injEq, Prod.mk.injEq] at hτ
    obtain ⟨rfl, _⟩ := hτ
    exact ⟨Nat.le_refl _, by rw [grown_size]; omega⟩
  · intro b o v hv
    rcases Gam.add_some hv with h | ⟨rfl, _, h2, h3⟩
    · exact .inl h
    · refine .inr ⟨Nat.le_refl _, ?_, ?_⟩
      · rintro ⟨b', lo, hh, hτ, _, h4, _⟩
        simp only [if_true, Option.some.injEq, Prod.mk.injEq] at hτ
        omega
      · rw [hcok.cell, List.getElem?_append_left (by omega)]; simpa using h3
  · refine ⟨rfl, fun b lo hh hτ => ?_⟩
    simp only [if_true, Option.some.injEq, Prod.mk.injEq] at hτ
    obtain ⟨rfl, _, rfl⟩ := hτ
    exact ⟨_, hcok, by simp⟩

/-- Growth goes over into a new array. -/
theorem Inv.moveTok (hi : Inv X P E V w) {r k : Nat} {τ : Nat → Option (Nat × Nat × Nat)} (hg : E.ρ[r]? = some (.tok τ k)) {cs rest : List Value} {e : Nat} :
    let E' : Env := ⟨E.Γ.add w.heap.size 0 cs, E.ρ.set r (.tok (fun j => if j = k + 1 then some (w.heap.size, cs.length, cs.length + rest.length) else τ j) (k + 1))⟩
    Inv X P E' (V.set r (.grow (k + 1))) (w.drew.alloc (.cells (cs ++ rest).toArray e)) ∧ Ext E w E' (w.drew.alloc (.cells (cs ++ rest).toArray e)) := by
  have hn := grown_new w (.cells (cs ++ rest).toArray e)
  have hcok : CellsOK (w.drew.alloc (.cells (cs ++ rest).toArray e)) w.heap.size (cs ++ rest) := ⟨_, e, (0, 0), hn, .inl rfl, by simp⟩
  refine hi.upd (g' := .tok _ (k + 1)) (o' := .grow (k + 1)) hg (grown_kept _ w _) ⟨_, _, rfl, by omega, fun j hj => by rw [if_neg (by omega)]⟩ (Gam.add_old fun o _ _ => hi.noneAt (Nat.le_refl _)) ?_ ?_ ?_
  · rintro b o ⟨b', lo, hh, hτ, rfl, _, _⟩
    simp only [if_true, Option.some.injEq, Prod.mk.injEq] at hτ
    obtain ⟨rfl, _⟩ := hτ
    exact ⟨.inr (Nat.le_refl _), by rw [grown_size]; omega⟩
  · intro b o v hv
    rcases Gam.add_some hv with h | ⟨rfl, _, h2, h3⟩
    · exact .inl h
    · refine .inr ⟨.inr (Nat.le_refl _), ?_, ?_⟩
      · rintro ⟨b', lo, hh, hτ, _, h4, _⟩
        simp only [if_true, Option.some.injEq, Prod.mk.injEq] at hτ
        omega
      · rw [hcok.cell, List.getElem?_append_left (by omega)]; simpa using h3
  · refine ⟨rfl, fun b lo hh hτ => ?_⟩
    simp only [if_true, Option.some.injEq, Prod.mk.injEq] at hτ
    obtain ⟨rfl, _, rfl⟩ := hτ
    exact ⟨_, hcok, by simp⟩

/-- Growth without a change. -/
theorem Inv.stayTok (hi : Inv X P E V w) {r k : Nat} {τ : Nat → Option (Nat × Nat × Nat)} (hg : E.ρ[r]? = some (.tok τ k)) :
    let E' : Env := ⟨E.Γ, E.ρ.set r (.tok (fun j => if j = k + 1 then none else τ j) (k + 1))⟩
    Inv X P E' (V.set r (.grow (k + 1))) w ∧ Ext E w E' w := by
  refine hi.upd (g' := .tok _ (k + 1)) (o' := .grow (k + 1)) hg (.refl _ w) ⟨_, _, rfl, by omega, fun j hj => by rw [if_neg (by omega)]⟩ (fun _ _ _ h => h) ?_ (fun b o v hv => .inl hv) ⟨rfl, fun b lo hh hτ => by simp at hτ⟩
  rintro b o ⟨b', lo, hh, hτ, _⟩
  simp at hτ

/-- Growth in place. -/
theorem Inv.growTok (hi : Inv X P E V w) {r k b lo hh : Nat} {τ : Nat → Option (Nat × Nat × Nat)} (hg : E.ρ[r]? = some (.tok τ k)) (hτ : τ k = some (b, lo, hh)) {cs news : List Value} {w' : World}
    (hk : Kept (fun x i => x = b ∧ lo ≤ i ∧ i < lo + news.length) w w') (hc : CellsOK w' b cs) (hlen : hh ≤ cs.length) (hle : lo + news.length ≤ hh) (hat : ∀ i v, news[i]? = some v → cs[lo + i]? = some v) :
    let E' : Env := ⟨E.Γ.add b lo news, E.ρ.set r (.tok (fun j => if j = k + 1 then some (b, lo + news.length, hh) else τ j) (k + 1))⟩
    Inv X P E' (V.set r (.grow (k + 1))) w' ∧ Ext E w E' w' := by
  have hown : ∀ o, lo ≤ o → o < hh → own (.tok τ k) b o := fun o h1 h2 => ⟨b, lo, hh, hτ, rfl, h1, h2⟩
  have hblt : b < w'.heap.size := by obtain ⟨c, te, fz, h1, _⟩ := hc; exact (Array.getElem?_eq_some_iff.1 h1).1
  refine hi.upd (g' := .tok _ (k + 1)) (o' := .grow (k + 1)) hg (hk.mono ?_) ⟨_, _, rfl, by omega, fun j hj => by rw [if_neg (by omega)]⟩ (Gam.add_old fun o h1 h2 => hi.noneOwn ⟨r, _, hg, hown o h1 (by omega)⟩) ?_ ?_ ?_
  · rintro x i _ ⟨rfl, h1, h2⟩; exact hown i h1 (by omega)
  · rintro x o ⟨b', lo', hh', hτ', rfl, h1, h2⟩
    simp only [if_true, Option.some.injEq, Prod.mk.injEq] at hτ'
    obtain ⟨rfl, rfl, rfl⟩ := hτ'
    exact ⟨.inl (hown o (by omega) h2), hblt⟩
  · intro x o v hv
    rcases Gam.add_some hv with h | ⟨rfl, h1, h2, h3⟩
    · exact .inl h
    · refine .inr ⟨.inl (hown o h1 (by omega)), ?_, ?_⟩
      · rintro ⟨b', lo', hh', hτ', _, h4, _⟩
        simp only [if_true, Option.some.injEq, Prod.mk.injEq] at hτ'
        omega
      · rw [hc.cell]
        have := hat _ _ h3
        have e : lo + (o - lo) = o := by omega
        rwa [e] at this
  · refine ⟨rfl, fun x lo' hh' hτ' => ?_⟩
    simp only [if_true, Option.some.injEq, Prod.mk.injEq] at hτ'
    obtain ⟨rfl, _, rfl⟩ := hτ'
    exact ⟨cs, hc, hlen⟩

end
end Go.Sk
