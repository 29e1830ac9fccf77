/- Sk, part ZG: contracts of functions that take and give closed data hold over any memory. -/
import Derived.Test.YtlheciphihmomaaGreatDoorSkZF
set_option linter.all false
namespace Go.Sk
open Go

section
variable {X : Tb} {P : Program} {M : Mt} {F : FuncId} {C : Code} {A : Ari}

def allClosed : List AV → Bool
  | [] => true
  | .d _ :: l => allClosed l
  | _ => false

def closedV : AV → Bool
  | .d _ => true
  | .tup l => allClosed l
  | _ => false

def closedCh : List (AV × Bool) → Bool
  | [] => true
  | (.d _, _) :: l => closedCh l
  | _ => false

def closedE : AE → Bool
  | .ret v => closedV v
  | .pan ch => closedCh ch

theorem closed_d {E E' : Env} (hΓ : ∀ b o v, E.Γ b o = some v → E'.Γ b o = some v) {x : D} {y : Value} (h : RV0 X E (.d x) y) : RV0 X E' (.d x) y := by
  obtain ⟨cs, h1, h2⟩ := h
  simp only [R] at h1
  exact ⟨cs, by simp only [R]; exact DRel.mono hΓ _ _ h1, h2⟩

theorem closed_all {E E' : Env} (hΓ : ∀ b o v, E.Γ b o = some v → E'.Γ b o = some v) : ∀ {l : List AV} {ys : List Value}, allClosed l = true → RVs X E l ys → RVs X E' l ys
  | [], ys, _, h => by simpa only [RVs] using h
  | v :: l, ys, hc, h => by
    obtain ⟨y, r, rfl, h1, h2⟩ := RVs.cons_iff.1 h
    cases v with
    | d x => exact RVs.cons_iff.2 ⟨y, r, rfl, closed_d hΓ h1, closed_all hΓ hc h2⟩
    | _ => cases hc

theorem closed_v {E E' : Env} (hΓ : ∀ b o v, E.Γ b o = some v → E'.Γ b o = some v) {v : AV} {y : Value} (hc : closedV v = true) (h : RV0 X E v y) : RV0 X E' v y := by
  cases v with
  | d x => exact closed_d hΓ h
  | tup l => obtain ⟨ys, h1, h2⟩ := rv_tup.1 h; exact rv_tup.2 ⟨ys, h1, closed_all hΓ hc h2⟩
  | _ => cases hc

theorem closed_ch {E E' : Env} (hΓ : ∀ b o v, E.Γ b o = some v → E'.Γ b o = some v) : ∀ {ch : List (AV × Bool)} {l : List PanicEntry}, closedCh ch = true → ChR X E ch l → ChR X E' ch l
  | [], _, _, h => h
  | (v, b) :: ch, l, hc, ⟨y, k, h1, h2, h3, h4, h5⟩ => by
    cases v with
    | d x => exact ⟨y, k, h1, closed_d hΓ h2, h3, h4, closed_ch hΓ hc h5⟩
    | _ => cases hc

theorem Runs.pure {f : FuncId} {args : List AV} {Ψ : AE → List AO → Prop} (V : List AO) (h : Runs X P f args [] Ψ) (ha : allClosed args = true) (hc : ∀ e V', Ψ e V' → closedE e = true) :
    Runs X P f args V fun e V' => V' = V ∧ ∃ V0, Ψ e V0 := by
  intro E w ys cs hi hys
  have hi0 : Inv X P ⟨E.Γ, []⟩ [] w := ⟨rfl, fun r g o h => by simp at h, fun r r' g g' b o h => by simp at h, hi.fast, fun b o v hv ⟨r, g, h, _⟩ => by simp at h, fun b o ⟨r, g, h, _⟩ => by simp at h, hi.glob⟩
  obtain ⟨e, V', E', w', fr, h1, h2, h3, h4, h5, h6⟩ := h ⟨E.Γ, []⟩ w ys cs hi0 (closed_all (E := E) (E' := ⟨E.Γ, []⟩) (fun _ _ _ h => h) ha hys)
  have hno : ∀ b o, ¬ Own ([] : List Gh) b o := fun b o ⟨r, g, h, _⟩ => by simp at h
  obtain ⟨g1, g2⟩ := hi.more (w' := w') (Γ' := E'.Γ) (h4.kept.mono fun b o _ ho => hno b o ho) h4.le.Γ fun b o v hv => by
    rcases h4.fast b o v hv with h | h | h
    · exact .inl h
    · exact absurd h (hno b o)
    · exact .inr ⟨h, h3.fast b o v hv⟩
  refine ⟨e, V, ⟨E'.Γ, E.ρ⟩, w', fr, ⟨rfl, V', h1⟩, h2, g1, g2, h5, ?_⟩
  have hce := hc e V' h1
  cases e with
  | ret v => obtain ⟨y, hy, hl⟩ := h6; exact ⟨y, closed_v (E := E') (E' := ⟨E'.Γ, E.ρ⟩) (fun _ _ _ h => h) hce hy, hl⟩
  | pan ch => obtain ⟨l, hy, hl⟩ := h6; exact ⟨l, closed_ch (E := E') (E' := ⟨E'.Γ, E.ρ⟩) (fun _ _ _ h => h) hce hy, hl⟩

/-- To the kit's own judgement. -/
theorem Runs.calls {f : FuncId} {args : List AV} {Ψ : AE → List AO → Prop} {E : Env} {w : World} {ys : List Value} {V : List AO} (h : Runs X P f args V Ψ) (hi : Inv X P E V w) (hys : RVs X E args ys) :
    Calls P f ys.toArray w fun e w' => ∃ a V' E', Ψ a V' ∧ Inv X P E' V' w' ∧ Ext E w E' w' ∧ match a with
      | .ret v => ∃ y, e = .returned y ∧ RV0 X E' v y
      | .pan ch => ∃ l, e = .panicked l ∧ ChR X E' ch l := by
  intro cs
  obtain ⟨a, V', E', w', fr, h1, h2, h3, h4, h5, h6⟩ := h E w ys cs hi hys
  cases a with
  | ret v =>
    obtain ⟨y, hy, hl⟩ := h6
    exact ⟨.returned y, w', fr, ⟨_, V', E', h1, h3, h4, y, rfl, hy⟩, h2, h5, hl⟩
  | pan ch =>
    obtain ⟨l, hy, hl⟩ := h6
    exact ⟨.panicked l, w', fr, ⟨_, V', E', h1, h3, h4, l, rfl, hy⟩, h2, h5, hl⟩

/-- A walk to the next pause. -/
theorem AW.walk {S : FuncId → List AV → Option (AV × List Bool)} (hS : Sound X P A M S F C) (n : Nat) {s : St} {Φ : St → Prop} (h : ∀ r, adv A X M S F C n s [] = r → Obl r.2 ∧ Pz.ok X P A M F C r.1 Φ) : AW X P A M F C s Φ :=
  adv_ok hS n s [] _ _ rfl (h _ rfl).1 (h _ rfl).2

end
end Go.Sk
