/- Sk, part ZD: the stepper's pauses, and its whole runs. -/
import Derived.Test.YtlheciphihmomaaGreatDoorSkZC
set_option linter.all false
namespace Go.Sk
open Go

section
variable (X : Tb) (P : Program) (A : Ari) (M : Mt) (S : FuncId → List AV → Option (AV × List Bool)) (F : FuncId) (C : Code)

/-- What is to be shown at a pause. -/
def Pz.ok (z : Pz) (Φ : St → Prop) : Prop :=
  match z with
  | .more s => AW X P A M F C s Φ
  | .cond b s1 s2 => (b = true → AW X P A M F C s1 Φ) ∧ (b = false → AW X P A M F C s2 Φ)
  | .guard c s1 s2 => (c = true → AW X P A M F C s1 Φ) ∧ (c = false → AW X P A M F C s2 Φ)
  | .loop s => match s.todo with
    | .loop p :: _ => AW X P A M F C { s with todo := .c (p ++ [0]) :: s.todo } Φ
    | _ => False
  | .el s => AW X P A M F C s Φ
  | .leave s => Φ s
  | .call f args dst s sp => ∃ Ψ, Does X P f args s.V Ψ ∧ ∀ e V', Ψ e V' → match e with
      | .ret v => isGd v = false ∧ AW X P A M F C { s with fr := put s.fr dst v, V := V' } Φ
      | .pan ch => AW X P A M F C { sp with V := V', md := .pan ch } Φ
  | .dcall f args s => match f with
    | .fn g a c => ∃ Ψ, bodyOK P g ∧ RunsD X P g (a ++ args ++ c) s.V s.md Ψ ∧ ∀ V' m', Ψ V' m' → m' ≠ .run ∧ AW X P A M F C { s with V := V', md := m' } Φ
    | _ => False
  | .rfun f r s => ∃ Ψ k, s.todo = .rf r :: k ∧ Does X P f [.yield r] s.V Ψ ∧ ∀ e V', Ψ e V' → match e with
      | .ret _ => AW X P A M F C { s with todo := .erf r :: k, V := V' } Φ
      | .pan ch => AW X P A M F C { s with V := V', md := .pan ch } Φ
  | _ => False

structure Sound : Prop where
  go : ∀ s s' ob, Sk.step A X M S F C s = .go s' ob → Obl ob → AW X P A M F C s (· = s')
  pz : ∀ s z ob Φ, Sk.step A X M S F C s = .pz z ob → Obl ob → Pz.ok X P A M F C z Φ → AW X P A M F C s Φ
end

section
variable {X : Tb} {P : Program} {M : Mt} {F : FuncId} {C : Code} {A : Ari} {S : FuncId → List AV → Option (AV × List Bool)}

theorem adv_ob : ∀ (n : Nat) (s : St) (o : List Bool) (z : Pz) (ob : List Bool), adv A X M S F C n s o = (z, ob) → Obl ob → Obl o
  | 0, s, o, z, ob, h, ho => by
    simp only [adv, Prod.mk.injEq] at h; obtain ⟨_, rfl⟩ := h; exact ho
  | n + 1, s, o, z, ob, h, ho => by
    simp only [adv] at h
    split at h
    · rename_i s' o' hs
      exact (Obl_append.1 (adv_ob n s' _ z ob h ho)).2
    · rename_i z' o' hs
      simp only [Prod.mk.injEq] at h; obtain ⟨_, rfl⟩ := h
      exact (Obl_append.1 ho).2

theorem adv_ok (hS : Sound X P A M S F C) {Φ : St → Prop} : ∀ (n : Nat) (s : St) (o : List Bool) (z : Pz) (ob : List Bool), adv A X M S F C n s o = (z, ob) → Obl ob → Pz.ok X P A M F C z Φ → AW X P A M F C s Φ
  | 0, s, o, z, ob, h, ho, hz => by
    simp only [adv, Prod.mk.injEq] at h; obtain ⟨rfl, _⟩ := h; exact hz
  | n + 1, s, o, z, ob, h, ho, hz => by
    simp only [adv] at h
    split at h
    · rename_i s' o' hs
      have ho' := (Obl_append.1 (adv_ob n s' _ z ob h ho)).1
      refine (hS.go s s' o' hs ho').trans fun s1 h1 => ?_
      subst h1
      exact adv_ok hS n s1 _ z ob h ho hz
    · rename_i z' o' hs
      simp only [Prod.mk.injEq] at h; obtain ⟨rfl, rfl⟩ := h
      exact hS.pz s _ _ Φ hs (Obl_append.1 ho).1 hz

/-! ### The pauses of code -/
theorem cond_ok {s : St} {p : List Nat} {k : List It} {x : Operand} {c1 c2 : Code} {b : Bool} {Φ : St → Prop} (hmd : s.md = .run) (htd : s.todo = .c p :: k) (hc : sub p C = some (.cond x c1 c2)) (hb : opd s.fr x = .d (.bool b))
    (h1 : b = true → AW X P A M F C { s with todo := .c (p ++ [0]) :: k } Φ) (h2 : b = false → AW X P A M F C { s with todo := .c (p ++ [1]) :: k } Φ) : AW X P A M F C s Φ := by
  have hog : noOg C s := noOg.of htd (by intro _ _ h; cases h) (by intro _ h; cases h)
  have key : ∀ n, sub (p ++ [n]) C = some (if b then c1 else c2) → AW X P A M F C s (· = { s with todo := .c (p ++ [n]) :: k }) := by
    intro n hn
    refine AW.todo hmd (fun E real hr => ?_) hog
    rw [htd] at hr
    obtain ⟨y, k0, rfl, h3, h4⟩ := hr
    cases h3 with
    | c hc' =>
      rw [hc] at hc'; cases hc'
      refine ⟨_, ⟨_, _, rfl, .c hn, h4⟩, fun f a cs w _ hf => .one (stepR_cond ?_)⟩
      have hok : RV0 X E (.d (.bool b)) (a.eval x) := by
        cases x with
        | tmp t =>
          have hb' : lget s.fr t = .d (.bool b) := hb
          have hlt : t < s.fr.length := by
            by_cases hlt : t < s.fr.length
            · exact hlt
            · have : lget s.fr t = .undef := by rw [lget_eq]; simp [List.getD, List.getElem?_eq_none (Nat.not_lt.1 hlt)]; rfl
              rw [this] at hb'; cases hb'
          have := hf t hlt
          rw [hb'] at this; exact this
        | const v =>
          have := ofConst_ok (X := X) (E := E) v
          have hb' : ofConst v = .d (.bool b) := hb
          rw [hb'] at this; exact this
        | global g => cases hb
        | func g => cases hb
      exact rv_bool.1 hok
  cases b with
  | true => exact (key 0 (by rw [sub_snoc _ _ _ hc]; rfl)).trans fun s1 h => by subst h; exact h1 rfl
  | false => exact (key 1 (by rw [sub_snoc _ _ _ hc]; rfl)).trans fun s1 h => by subst h; exact h2 rfl

theorem loop_ok {s : St} {p : List Nat} {k : List It} {c : Code} {Φ : St → Prop} (hmd : s.md = .run) (htd : s.todo = .c p :: k ∨ s.todo = .loop p :: k) (hc : sub p C = some (.loop c))
    (h1 : AW X P A M F C { s with todo := .c (p ++ [0]) :: .loop p :: k } Φ) : AW X P A M F C s Φ := by
  have hog : noOg C s := by rcases htd with htd | htd <;> exact noOg.of htd (by intro _ _ h; cases h) (by intro _ h; cases h)
  have key : AW X P A M F C s (· = { s with todo := .c (p ++ [0]) :: .loop p :: k }) := by
    refine AW.todo hmd (fun E real hr => ?_) hog
    rcases htd with htd | htd
    · rw [htd] at hr
      obtain ⟨y, k0, rfl, h3, h4⟩ := hr
      cases h3 with
      | c hc' =>
        rw [hc] at hc'; cases hc'
        exact ⟨_, ⟨_, _, rfl, .c (by rw [sub_snoc _ _ _ hc]; rfl), ⟨_, _, rfl, .loop hc, h4⟩⟩, fun b a cs w _ _ => .one stepR_loop⟩
    · rw [htd] at hr
      obtain ⟨y, k0, rfl, h3, h4⟩ := hr
      cases h3 with
      | loop hc' =>
        rw [hc] at hc'; cases hc'
        exact ⟨_, ⟨_, _, rfl, .c (by rw [sub_snoc _ _ _ hc]; rfl), ⟨_, _, rfl, .loop hc, h4⟩⟩, fun b a cs w _ _ => .one stepR_inLoop⟩
  exact key.trans fun s1 h => by subst h; exact h1

/-- A struct's element, told. -/
theorem el_ok (hX : TbOK X P) {s s' : St} {p : List Nat} {x0 : Sx} {i : Nat} {pn : List Nat} {rest : List Sx} {k : List It} {o : Oper} {ob : List Bool} {Φ : St → Prop} (h : runOp A X M S s p o x0 i pn rest k = .pz (.el s') ob) (hob : Obl ob)
    (ha : Ready X P A M F C s p i pn rest k o) (h1 : AW X P A M F C s' Φ) : AW X P A M F C s Φ := by
  have key : AW X P A M F C s (· = s') := by
    intro E0 fr0 cs0 cs w0 hi0 hs0
    obtain ⟨E, fr, w, hst0, hi, hs, hext0, hk0, hro0, hat⟩ := ha E0 fr0 cs0 cs w0 hi0 hs0
    unfold runOp at h
    split at h
    · split at h <;> cases h
    · rename_i x V1 ob1 hex
      split at h
      · rename_i hgd
        cases h
        obtain ⟨E', fr', w', h1, h2, h3, h4, h5, h6⟩ := exec_ok hX hi hs hat (.inr hex) hob (fun E y hy => RV.of hy (isGd_false hgd))
        exact ⟨_, E', fr', cs, w', rfl, hst0.trans h1, h2, h3, hext0.trans h4, h5.trans hk0, h6.trans hro0⟩
      · cases h
    · split at h
      · split at h <;> cases h
      · cases h
    · cases h
    · split at h <;> cases h
    · split at h
      · split at h <;> cases h
      · cases h
      · cases h
    · cases h
    · cases h
  exact key.trans fun s1 h => by subst h; exact h1

/-- A deferred call. -/
theorem dcall_ok {s : St} {g : FuncId} {a args c : List AV} {ds : List AD} {Ψ : List AO → AMode → Prop} {Φ : St → Prop} (hmd : s.md ≠ .run) (hdf : s.df = .call (.fn g a c) args :: ds) (hb : bodyOK P g) (hr : RunsD X P g (a ++ args ++ c) s.V s.md Ψ)
    (h : ∀ V' m', Ψ V' m' → m' ≠ .run ∧ AW X P A M F C { s with df := ds, V := V', md := m' } Φ) : AW X P A M F C s Φ := by
  intro E fr cs0 cs w hi hs
  have hd := hs.df
  rw [hdf] at hd
  obtain ⟨d, k, hfd, ⟨v, ys, d0, hv, hys, hd0, rfl⟩, hk⟩ := hd
  obtain ⟨a', c', rfl, h2, h3⟩ := rv_fn.1 hv
  have hd1 := hd0 w
  simp [Deferred.ofValue] at hd1
  subst hd1
  have hm := hs.md
  have hmr : fr.mode ≠ .run := by
    intro he
    rw [he] at hm
    cases hq : s.md with
    | run => exact hmd hq
    | ret => rw [hq] at hm; simp [MdR] at hm
    | pan ch => rw [hq] at hm; obtain ⟨l, h, _⟩ := hm; cases h
  have hinv : (invoke (.fn (.func g) c'.toArray) (a' ++ ys).toArray).run P w = .ok (.enter g (a' ++ ys ++ c').toArray) w := by
    simp [invoke, callFunc_body hb]
  have hst := step_defer (P := P) (cs := cs) hmr hfd rfl hinv
  have hft : FrX X E s.fr fr.tmps [] := by
    have ht := hs.todo
    cases hq : s.md with
    | run => exact absurd hq hmd
    | ret => simpa only [hq] using ht
    | pan ch => simpa only [hq] using ht
  obtain ⟨V', m', E', w', u, g1, g2, g3, g4, g5⟩ := hr E w (a' ++ ys ++ c') { fr with defers := k } cs hi (RVs.append (RVs.append h2 hys) h3) hm
  obtain ⟨hne, hA⟩ := h V' m' g1
  have hro : match s.ro with | none => fr.roundOf = none | some r => ∃ l, fr.roundOf = some l ∧ E'.ρ[r]? = some (.loop l) := by
    have := hs.ro
    revert this
    cases hro : s.ro with
    | none => exact fun h => h
    | some r => rintro ⟨l, h1, h2⟩; obtain ⟨g, hg, hle⟩ := g3.le.ρ _ _ h2; simp only [Gh.le] at hle; subst hle; exact ⟨l, h1, hg⟩
  have hcm : match s.cm with | none => fr.kind = .normal ∧ cs = cs0 | some m => fr.kind = .deferred ∧ ∃ c k m', cs0 = c :: k ∧ cs = { c with mode := m' } :: k ∧ MdR X E' m m' := by
    have := hs.cm
    revert this
    cases hcm : s.cm with
    | none => exact fun h => h
    | some m => rintro ⟨hk, c, k, m', h1, h2, h3⟩; exact ⟨hk, c, k, m', h1, h2, h3.mono g3.le⟩
  obtain ⟨s2, E2, fr2, cs2, w2, f1, f2, f3, f4, f5, f6, f7⟩ := hA E' { fr with defers := k, mode := u } cs0 cs w' g2 ⟨hs.fn, g4, by
    cases m' with
    | run => exact absurd rfl hne
    | ret => exact hft.mono g3.le
    | pan ch => exact hft.mono g3.le, hk.mono g3.le, hro, hcm⟩
  exact ⟨s2, E2, fr2, cs2, w2, f1, .head hst (g5.trans f2), f3, f4, g3.trans f5, f6, f7⟩

end
end Go.Sk
