/- Sk, part D: three ways in which memory and objects change together; lists. -/
import Derived.Test.YtlheciphihmomaaGreatDoorSkC
set_option linter.all false
namespace Go.Sk
open Go

theorem lset_eq {α : Type} : ∀ (l : List α) (n : Nat) (v : α), lset l n v = l.set n v
  | [], _, _ => rfl
  | _ :: _, 0, _ => rfl
  | a :: l, n + 1, v => by simp only [lset, List.set_cons_succ, lset_eq l n v]

theorem lget_eq {α : Type} [Inhabited α] : ∀ (l : List α) (n : Nat), lget l n = l.getD n default
  | [], _ => rfl
  | _ :: _, 0 => rfl
  | a :: l, n + 1 => by simp only [lget, lget_eq l n]; rfl

theorem llen_eq {α : Type} : ∀ (l : List α), llen l = l.length
  | [] => rfl
  | a :: l => by simp only [llen, llen_eq l, List.length_cons]

theorem lrep_eq {α : Type} : ∀ (n : Nat) (x : α), lrep n x = List.replicate n x
  | 0, _ => rfl
  | n + 1, x => by simp only [lrep, lrep_eq n x, List.replicate_succ]

theorem lget_of {α : Type} [Inhabited α] {l : List α} {n : Nat} {v : α} (h : l[n]? = some v) : lget l n = v := by
  rw [lget_eq]; simp [h]

theorem lget_some {α : Type} [Inhabited α] {l : List α} {n : Nat} (h : n < l.length) : l[n]? = some (lget l n) := by
  rw [lget_eq]; simp [h]

/-- A slot that isn't the default is there. -/
theorem lget_there {α : Type} [Inhabited α] {l : List α} {n : Nat} {v : α} (h : lget l n = v) (hv : v ≠ default) : l[n]? = some v := by
  rw [lget_eq] at h
  cases hc : l[n]? with
  | none => simp [hc] at h; exact absurd h.symm hv
  | some x => simp [hc] at h; rw [h]

section
variable {X : Tb} {P : Program} {E : Env} {V : List AO} {w w' : World}

theorem Inv.slotOf (hi : Inv X P E V w) {r : Nat} {o : AO} (hr : V[r]? = some o) : ∃ g, E.ρ[r]? = some g ∧ SlotOK X P E g o w := by
  have hlt : r < V.length := (List.getElem?_eq_some_iff.1 hr).1
  have hlt' : r < E.ρ.length := by rw [hi.len]; exact hlt
  exact ⟨E.ρ[r], by simp [hlt'], hi.slot r _ o (by simp [hlt']) hr⟩

theorem Inv.voOf (hi : Inv X P E V w) {r : Nat} {g : Gh} (hr : E.ρ[r]? = some g) : ∃ o, V[r]? = some o ∧ SlotOK X P E g o w := by
  have hlt : r < E.ρ.length := (List.getElem?_eq_some_iff.1 hr).1
  have hlt' : r < V.length := by rw [← hi.len]; exact hlt
  exact ⟨V[r], by simp [hlt'], hi.slot r _ _ hr (by simp [hlt'])⟩

/-- One slot changes; what it owned may go fast; new memory may be made. -/
theorem Inv.upd (hi : Inv X P E V w) {r : Nat} {g g' : Gh} {o' : AO} {Γ' : Gam} (hg : E.ρ[r]? = some g) (hk : Kept (own g) w w') (hle : g.le g')
    (hΓ : ∀ b o v, E.Γ b o = some v → Γ' b o = some v)
    (hown : ∀ b o, own g' b o → (own g b o ∨ w.heap.size ≤ b) ∧ b < w'.heap.size)
    (hnew : ∀ b o v, Γ' b o = some v → E.Γ b o = some v ∨ ((own g b o ∨ w.heap.size ≤ b) ∧ ¬ own g' b o ∧ cellAt w' b o = some v))
    (hs : SlotOK X P ⟨Γ', E.ρ.set r g'⟩ g' o' w') :
    Inv X P ⟨Γ', E.ρ.set r g'⟩ (V.set r o') w' ∧ Ext E w ⟨Γ', E.ρ.set r g'⟩ w' := by
  have hlt : r < E.ρ.length := (List.getElem?_eq_some_iff.1 hg).1
  have hltV : r < V.length := by rw [← hi.len]; exact hlt
  have hEle : E.le ⟨Γ', E.ρ.set r g'⟩ := by
    refine ⟨hΓ, fun r2 g2 h2 => ?_⟩
    by_cases e : r = r2
    · subst e; rw [hg] at h2; cases h2; exact ⟨g', by simp [hlt], hle⟩
    · exact ⟨g2, by simp [List.getElem?_set_ne e, h2], g2.le_refl⟩
  have hOwn : ∀ b o, Own (E.ρ.set r g') b o → Own E.ρ b o ∨ w.heap.size ≤ b := by
    rintro b o ⟨r2, g2, h2, ho⟩
    by_cases e : r = r2
    · subst e; simp [hlt] at h2; subst h2
      rcases (hown b o ho).1 with h | h
      · exact .inl ⟨r, g, hg, h⟩
      · exact .inr h
    · rw [List.getElem?_set_ne e] at h2; exact .inl ⟨r2, g2, h2, ho⟩
  refine ⟨⟨by simp [hi.len], ?_, ?_, ?_, ?_, ?_, hi.glob.mono hΓ⟩, ⟨hEle, hk.mono fun b o _ ho => ⟨r, g, hg, ho⟩, hOwn, ?_⟩⟩
  · intro r2 g2 o2 h2 ho2
    by_cases e : r = r2
    · subst e; simp [hlt] at h2; simp [hltV] at ho2; subst h2 ho2; exact hs
    · rw [List.getElem?_set_ne e] at h2 ho2
      refine ((hi.slot r2 g2 o2 h2 ho2).kept hk fun b x hx hgx => e ?_).mono hEle
      exact hi.lone r r2 g g2 b x hg h2 hgx hx
  · intro r1 r2 g1 g2 b o h1 h2 ho1 ho2
    have key : ∀ r2 g2 b o, r ≠ r2 → E.ρ[r2]? = some g2 → own g' b o → own g2 b o → False := by
      intro r2 g2 b o e h2 ho1 ho2
      rcases (hown b o ho1).1 with h | h
      · exact e (hi.lone r r2 g g2 b o hg h2 h ho2)
      · have := hi.old b o ⟨r2, g2, h2, ho2⟩; omega
    by_cases e1 : r = r1
    · by_cases e2 : r = r2
      · exact e1.symm.trans e2
      · subst e1; simp [hlt] at h1; subst h1
        rw [List.getElem?_set_ne e2] at h2
        exact (key r2 g2 b o e2 h2 ho1 ho2).elim
    · rw [List.getElem?_set_ne e1] at h1
      by_cases e2 : r = r2
      · subst e2; simp [hlt] at h2; subst h2
        exact (key r1 g1 b o e1 h1 ho2 ho1).elim
      · rw [List.getElem?_set_ne e2] at h2
        exact hi.lone r1 r2 g1 g2 b o h1 h2 ho1 ho2
  · intro b o v hv
    rcases hnew b o v hv with h | h
    · exact hk.cell (hi.fast b o v h) fun ho => hi.free b o v h ⟨r, g, hg, ho⟩
    · exact h.2.2
  · rintro b o v hv ⟨r2, g2, h2, ho2⟩
    by_cases e : r = r2
    · subst e; simp [hlt] at h2; subst h2
      rcases hnew b o v hv with h | h
      · rcases (hown b o ho2).1 with h3 | h3
        · exact hi.free b o v h ⟨r, g, hg, h3⟩
        · obtain ⟨c, t, fz, hc, _⟩ := cellAt_some (hi.fast b o v h)
          have := (Array.getElem?_eq_some_iff.1 hc).1; omega
      · exact h.2.1 ho2
    · rw [List.getElem?_set_ne e] at h2
      rcases hnew b o v hv with h | h
      · exact hi.free b o v h ⟨r2, g2, h2, ho2⟩
      · rcases h.1 with h3 | h3
        · exact e (hi.lone r r2 g g2 b o hg h2 h3 ho2)
        · have := hi.old b o ⟨r2, g2, h2, ho2⟩; omega
  · rintro b o ⟨r2, g2, h2, ho2⟩
    by_cases e : r = r2
    · subst e; simp [hlt] at h2; subst h2; exact (hown b o ho2).2
    · rw [List.getElem?_set_ne e] at h2; exact Nat.lt_of_lt_of_le (hi.old b o ⟨r2, g2, h2, ho2⟩) hk.size
  · intro b o v hv
    rcases hnew b o v hv with h | h
    · exact .inl h
    · rcases h.1 with h3 | h3
      · exact .inr (.inl ⟨r, g, hg, h3⟩)
      · exact .inr (.inr h3)

/-- A slot more, over new memory; new fast memory. -/
theorem Inv.add (hi : Inv X P E V w) {g' : Gh} {o' : AO} {Γ' : Gam} (hk : Kept (fun _ _ => False) w w')
    (hΓ : ∀ b o v, E.Γ b o = some v → Γ' b o = some v)
    (hown : ∀ b o, own g' b o → w.heap.size ≤ b ∧ b < w'.heap.size)
    (hnew : ∀ b o v, Γ' b o = some v → E.Γ b o = some v ∨ (w.heap.size ≤ b ∧ ¬ own g' b o ∧ cellAt w' b o = some v))
    (hs : SlotOK X P ⟨Γ', E.ρ ++ [g']⟩ g' o' w') :
    Inv X P ⟨Γ', E.ρ ++ [g']⟩ (V ++ [o']) w' ∧ Ext E w ⟨Γ', E.ρ ++ [g']⟩ w' := by
  have hEle : E.le ⟨Γ', E.ρ ++ [g']⟩ := ⟨hΓ, fun r2 g2 h2 => ⟨g2, by
    have := (List.getElem?_eq_some_iff.1 h2).1
    simp [List.getElem?_append_left this, h2], g2.le_refl⟩⟩
  have hcases : ∀ r2 g2, (E.ρ ++ [g'])[r2]? = some g2 → E.ρ[r2]? = some g2 ∨ (r2 = E.ρ.length ∧ g2 = g') := by
    intro r2 g2 h2
    by_cases hlt : r2 < E.ρ.length
    · rw [List.getElem?_append_left hlt] at h2; exact .inl h2
    · rw [List.getElem?_append_right (by omega)] at h2
      have : r2 - E.ρ.length = 0 := by
        have := (List.getElem?_eq_some_iff.1 h2).1; simp at this; omega
      rw [this] at h2; simp at h2; exact .inr ⟨by omega, h2.symm⟩
  refine ⟨⟨by simp [hi.len], ?_, ?_, ?_, ?_, ?_, hi.glob.mono hΓ⟩, ⟨hEle, hk.mono fun b o _ ho => ho.elim, ?_, ?_⟩⟩
  · intro r2 g2 o2 h2 ho2
    rcases hcases r2 g2 h2 with h | ⟨rfl, rfl⟩
    · have hlt := (List.getElem?_eq_some_iff.1 h).1
      rw [hi.len] at hlt
      rw [List.getElem?_append_left hlt] at ho2
      exact ((hi.slot r2 g2 o2 h ho2).kept hk fun b x _ hf => hf).mono hEle
    · rw [hi.len] at ho2; simp at ho2; subst ho2; exact hs
  · intro r1 r2 g1 g2 b o h1 h2 ho1 ho2
    rcases hcases r1 g1 h1 with h | ⟨rfl, rfl⟩ <;> rcases hcases r2 g2 h2 with h' | ⟨rfl, rfl⟩
    · exact hi.lone r1 r2 g1 g2 b o h h' ho1 ho2
    · have := hi.old b o ⟨r1, g1, h, ho1⟩; have := (hown b o ho2).1; omega
    · have := hi.old b o ⟨r2, g2, h', ho2⟩; have := (hown b o ho1).1; omega
    · rfl
  · intro b o v hv
    rcases hnew b o v hv with h | h
    · exact hk.cell (hi.fast b o v h) fun ho => ho
    · exact h.2.2
  · rintro b o v hv ⟨r2, g2, h2, ho2⟩
    rcases hcases r2 g2 h2 with h | ⟨rfl, rfl⟩
    · rcases hnew b o v hv with h3 | h3
      · exact hi.free b o v h3 ⟨r2, g2, h, ho2⟩
      · have := hi.old b o ⟨r2, g2, h, ho2⟩; omega
    · rcases hnew b o v hv with h3 | h3
      · obtain ⟨c, t, fz, hc, _⟩ := cellAt_some (hi.fast b o v h3)
        have := (Array.getElem?_eq_some_iff.1 hc).1; have := (hown b o ho2).1; omega
      · exact h3.2.1 ho2
  · rintro b o ⟨r2, g2, h2, ho2⟩
    rcases hcases r2 g2 h2 with h | ⟨rfl, rfl⟩
    · exact Nat.lt_of_lt_of_le (hi.old b o ⟨r2, g2, h, ho2⟩) hk.size
    · exact (hown b o ho2).2
  · rintro b o ⟨r2, g2, h2, ho2⟩
    rcases hcases r2 g2 h2 with h | ⟨rfl, rfl⟩
    · exact .inl ⟨r2, g2, h, ho2⟩
    · exact .inr (hown b o ho2).1
  · intro b o v hv
    rcases hnew b o v hv with h | h
    · exact .inl h
    · exact .inr (.inr h.1)

/-- New fast memory alone. -/
theorem Inv.more (hi : Inv X P E V w) {Γ' : Gam} (hk : Kept (fun _ _ => False) w w')
    (hΓ : ∀ b o v, E.Γ b o = some v → Γ' b o = some v)
    (hnew : ∀ b o v, Γ' b o = some v → E.Γ b o = some v ∨ (w.heap.size ≤ b ∧ cellAt w' b o = some v)) :
    Inv X P ⟨Γ', E.ρ⟩ V w' ∧ Ext E w ⟨Γ', E.ρ⟩ w' := by
  have hEle : E.le ⟨Γ', E.ρ⟩ := ⟨hΓ, fun r2 g2 h2 => ⟨g2, h2, g2.le_refl⟩⟩
  refine ⟨⟨hi.len, ?_, hi.lone, ?_, ?_, ?_, hi.glob.mono hΓ⟩, ⟨hEle, hk.mono fun b o _ ho => ho.elim, fun _ _ h => .inl h, ?_⟩⟩
  · intro r2 g2 o2 h2 ho2
    exact ((hi.slot r2 g2 o2 h2 ho2).kept hk fun b x _ hf => hf).mono hEle
  · intro b o v hv
    rcases hnew b o v hv with h | h
    · exact hk.cell (hi.fast b o v h) fun ho => ho
    · exact h.2
  · intro b o v hv ho
    rcases hnew b o v hv with h | h
    · exact hi.free b o v h ho
    · have := hi.old b o ho; omega
  · intro b o ho; exact Nat.lt_of_lt_of_le (hi.old b o ho) hk.size
  · intro b o v hv
    rcases hnew b o v hv with h | h
    · exact .inl h
    · exact .inr (.inr h.1)
end

/-! ### Worlds -/
def World.push (w : World) (x : Obj) : World := { w with heap := w.heap.push x }

theorem push_new (w : World) (x : Obj) : (World.push w x).heap[w.heap.size]? = some x := by simp [World.push]
theorem push_old (w : World) (x : Obj) {b : Nat} (h : b < w.heap.size) : (World.push w x).heap[b]? = w.heap[b]? := by
  simp [World.push, Array.getElem?_push, Nat.ne_of_lt h]
theorem push_size (w : World) (x : Obj) : (World.push w x).heap.size = w.heap.size + 1 := by simp [World.push]
theorem Kept.push (O : Nat → Nat → Prop) (w : World) (x : Obj) : Kept O w (World.push w x) :=
  ⟨by rw [push_size]; omega, rfl, rfl, rfl,
    fun b c t fz hb => ⟨c, fz, by rw [push_old w x (Array.getElem?_eq_some_iff.1 hb).1]; exact hb, rfl, fun _ _ => rfl, fun _ => rfl, fun h => h⟩,
    fun b y hb hy => ⟨y, by rw [push_old w x (Array.getElem?_eq_some_iff.1 hb).1]; exact hb, hy, fun _ => rfl⟩⟩

/-- Cells from o on overwritten. -/
def putRow (c : Array Value) (o : Nat) (vs : List Value) : Array Value := ((c.toList.take o ++ vs ++ c.toList.drop (o + vs.length)).take c.size).toArray

def World.putCells (w : World) (b o : Nat) (vs : List Value) : World :=
  { w with heap := w.heap.modify b fun
      | .cells c t fz => .cells (putRow c o vs) t fz
      | x => x }

end Go.Sk
