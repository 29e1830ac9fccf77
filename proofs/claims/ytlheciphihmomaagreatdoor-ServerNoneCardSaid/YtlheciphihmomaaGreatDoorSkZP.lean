/- Sk, part ZP: a contract becomes a summary. -/
import Derived.Test.YtlheciphihmomaaGreatDoorSkZO
import Derived.Deep.Draws
import Derived.Lib.Bytes
import Derived.Lib.Bytealg
import Derived.Lib.Index
set_option linter.all false
namespace Go.Sk
open Go

section
variable {X : Tb} {P : Program}

theorem Ext.of_heap {E : Env} {w w' : World} (h : w'.heap = w.heap) (ho : w'.output = w.output) (hos : w'.os = w.os) (ht : w'.tape = w.tape) : Ext E w E w' :=
  ⟨.refl E, .of_heap h ho hos ht, fun _ _ h => .inl h, fun _ _ _ h => .inl h⟩

theorem Does.of_calls {g : FuncId} (hb : bodyOK P g) {args : List AV} {r : AV} {V : List AO}
    (h : ∀ E w ys, Inv X P E V w → RVs X E args ys → Calls P g ys.toArray w fun e w' => ∃ y, e = .returned y ∧ RV0 X E r y ∧ ∃ q, w' = w.drewN q) :
    Does X P (.fn g [] []) args V fun e V' => e = .ret r ∧ V' = V := by
  intro E w v ys hi hv hys
  obtain ⟨a', c', rfl, h2, h3⟩ := rv_fn.1 hv
  simp only [RVs] at h2 h3
  subst h2; subst h3
  refine ⟨.enter g ys.toArray, w, ?_, .inr ⟨rfl, _, rfl, fun fc cs => ?_⟩⟩
  · simp [Deferred.ofValue, invoke, callFunc_body hb]
  · obtain ⟨e, w', fr, ⟨y, rfl, hy, q, rfl⟩, hc, hf, hl⟩ := h E w ys hi hys (fc :: cs)
    refine ⟨.ret r, V, E, w.drewN q, ⟨rfl, rfl⟩, hi.of_heap rfl, .of_heap rfl rfl rfl rfl, y, hy, ?_⟩
    exact Steps.trans hc (.one (step_leave_returned hl))

def bsOf : AV → Option (List UInt8)
  | .d (.sl (.b l)) => some l
  | .d (.slx (.b l)) => some l
  | .d .nils => some []
  | _ => none

def nums (l : List UInt8) : List Int := l.map fun b => (b.toNat : Int)

theorem bytesOf_nums (l : List UInt8) : Lib.bytesOf (nums l) = l := by
  simp only [Lib.bytesOf, nums, List.map_map]
  conv => rhs; rw [← List.map_id l]
  apply List.map_congr_left
  intro b _
  simp

theorem nums_rng (l : List UInt8) : ∀ x ∈ nums l, 0 ≤ x ∧ x < 256 := by
  intro x hx
  simp only [nums, List.mem_map] at hx
  obtain ⟨b, _, rfl⟩ := hx
  have := b.toNat_lt
  omega

theorem bs_of_slat {E : Env} {V : List AO} {w : World} (hi : Inv X P E V w) {l : List UInt8} {y : Value} {ds : List Value} (h1 : SqR E.Γ (.b l) ds) (h2 : SlAt E.Γ y l.length ds) :
    (∃ ad cap, y = .slice (some ad) l.length cap ∧ l.length ≤ cap ∧ (∀ i, i < l.length → w.cell? (ad.add i) = some (.int .u8 ((nums l).getD i 0))) ∧ (l ≠ [] → ad.spot = none)) ∨ (y = .slice none 0 0 ∧ l = []) := by
  simp only [SqR] at h1; subst h1
  rcases h2 with ⟨b, o, cap, rfl, hc, hcell⟩ | ⟨a, rfl, h0⟩
  · refine .inl ⟨⟨b, o, none⟩, cap, rfl, hc, fun i hl => ?_, fun _ => rfl⟩
    have := hi.fast _ _ _ (hcell i (.int .u8 ((nums l).getD i 0)) (by simp [nums, hl]))
    rw [← this]
    simp only [cellAt, Addr.add]
    split
    · rename_i h0; subst h0; rfl
    · rfl
  · have : l = [] := List.length_eq_zero_iff.1 h0
    subst this
    cases a with
    | none => exact .inr ⟨rfl, rfl⟩
    | some ad => exact .inl ⟨ad, 0, rfl, by simp, fun i hl => by simp at hl, fun h => (h rfl).elim⟩

theorem bsOf_ok {E : Env} {V : List AO} {w : World} (hi : Inv X P E V w) {a : AV} {l : List UInt8} {y : Value} (h : bsOf a = some l) (hv : RV0 X E a y) :
    (∃ ad cap, y = .slice (some ad) l.length cap ∧ l.length ≤ cap ∧ (∀ i, i < l.length → w.cell? (ad.add i) = some (.int .u8 ((nums l).getD i 0))) ∧ (l ≠ [] → ad.spot = none)) ∨ (y = .slice none 0 0 ∧ l = []) := by
  unfold bsOf at h
  split at h
  · cases h
    obtain ⟨ds, h1, h2⟩ := rv_sl.1 hv
    exact bs_of_slat hi h1 h2
  · cases h
    obtain ⟨ds, h1, h2, _⟩ := rv_slx.1 hv
    exact bs_of_slat hi h1 h2
  · cases h
    exact .inr ⟨rv_nils.1 hv, rfl⟩
  · cases h

theorem glob_int {E : Env} {V : List AO} {w : World} (hi : Inv X P E V w) {g : Nat} (hg : g ∈ X.gi) : ∃ m : Int, w.cell? ⟨g, 0, none⟩ = some (.int .i64 m) := by
  obtain ⟨m, h⟩ := hi.glob.2 g hg
  exact ⟨m, hi.fast _ _ _ h⟩

theorem R_d {E : Env} {E' : Env} (h : E.Γ = E'.Γ) {x : D} {y : Value} (hr : RV0 X E (.d x) y) : RV0 X E' (.d x) y := by
  obtain ⟨cs, h1, h2⟩ := hr
  refine ⟨cs, ?_, h2⟩
  simp only [R] at h1 ⊢
  rw [← h]; exact h1

theorem RVs_d {E : Env} {E' : Env} (h : E.Γ = E'.Γ) : ∀ {l : List AV} {ys : List Value}, allDs l = true → RVs X E l ys → RVs X E' l ys
  | [], ys, _, hr => by simpa only [RVs] using hr
  | a :: l, ys, ha, hr => by
    obtain ⟨y, r, rfl, h1, h2⟩ := RVs.cons_iff.1 hr
    cases a <;> simp only [allDs] at ha <;> first
      | (cases ha; done)
      | exact RVs.cons_iff.2 ⟨y, r, rfl, R_d h h1, RVs_d h (by simpa using ha) h2⟩

/-- What a call does beside memory that it doesn't know of: closed data comes of closed data. -/
theorem Does.frame {g : FuncId} {args : List AV} {x : D} (h : Does X P (.fn g [] []) args [] fun e _ => e = .ret (.d x)) (ha : allDs args = true) (V : List AO) :
    Does X P (.fn g [] []) args V fun e V' => e = .ret (.d x) ∧ V' = V := by
  intro E w v ys hi hv hys
  obtain ⟨a', c', rfl, h2, h3⟩ := rv_fn.1 hv
  simp only [RVs] at h2 h3
  subst h2; subst h3
  have hi0 : Inv X P ⟨E.Γ, []⟩ [] w := ⟨rfl, fun r g o h => by simp at h, fun r r' g g' b o h => by simp at h, hi.fast, fun b o v _ ⟨r, g, h, _⟩ => by simp at h, fun b o ⟨r, g, h, _⟩ => by simp at h, hi.glob⟩
  have no : ∀ b o, ¬ Own (⟨E.Γ, []⟩ : Env).ρ b o := fun b o ⟨r, g, h, _⟩ => by simp at h
  have key : ∀ {E1 : Env} {V1 : List AO} {w1 : World} {y : Value}, RV0 X E1 (.d x) y → Inv X P E1 V1 w1 → Ext ⟨E.Γ, []⟩ w E1 w1 →
      ∃ E', RV0 X E' (.d x) y ∧ Inv X P E' V w1 ∧ Ext E w E' w1 := by
    intro E1 V1 w1 y hy hi1 he
    obtain ⟨g1, g2⟩ := hi.more (Γ' := E1.Γ) (he.kept.mono fun b o _ h => (no b o h).elim) (fun b o v hv => he.le.Γ b o v hv) (fun b o v hv => by
      rcases he.fast b o v hv with h | h | h
      · exact .inl h
      · exact (no b o h).elim
      · exact .inr ⟨h, hi1.fast b o v hv⟩)
    exact ⟨⟨E1.Γ, E.ρ⟩, R_d (E := E1) rfl hy, g1, g2⟩
  obtain ⟨n, w1, hrun, hc⟩ := h ⟨E.Γ, []⟩ w _ ys hi0 (rv_fn.2 ⟨[], [], rfl, by simp [RVs], by simp [RVs]⟩) (RVs_d (E := E) (E' := ⟨E.Γ, []⟩) rfl ha hys)
  refine ⟨n, w1, hrun, ?_⟩
  rcases hc with ⟨r, y, V', E1, rfl, hΦ, hy, hi1, he⟩ | ⟨rfl, fr0, hb, hc⟩
  · cases hΦ
    obtain ⟨E', h4, h5, h6⟩ := key hy hi1 he
    exact .inl ⟨_, y, V, E', rfl, ⟨rfl, rfl⟩, h4, h5, h6⟩
  · refine .inr ⟨rfl, fr0, hb, fun c cs => ?_⟩
    obtain ⟨e, V', E1, w', rfl, hi1, he, y, hy, hst⟩ := hc c cs
    obtain ⟨E', h4, h5, h6⟩ := key hy hi1 he
    exact ⟨_, V, E', w', ⟨rfl, rfl⟩, h5, h6, y, h4, hst⟩

/-- Two tables of summaries, one behind the other. -/
theorem SumOK.or {S S' S2 : FuncId → List AV → Option (AV × List Bool)} (h : SumOK X P S) (h' : SumOK X P S') (h2 : ∀ g args r, S2 g args = some r → S g args = some r ∨ S' g args = some r) : SumOK X P S2 :=
  ⟨fun g args r ob hs ho V => (h2 g args _ hs).elim (fun hs => h.1 g args r ob hs ho V) (fun hs => h'.1 g args r ob hs ho V),
   fun g args r ob hs => (h2 g args _ hs).elim (fun hs => h.2 g args r ob hs) (fun hs => h'.2 g args r ob hs)⟩

end
end Go.Sk
