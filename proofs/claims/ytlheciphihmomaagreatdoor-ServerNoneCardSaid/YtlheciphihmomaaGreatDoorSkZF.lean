/- Sk, part ZF: the stepper is sound. -/
import Derived.Test.YtlheciphihmomaaGreatDoorSkZE
set_option linter.all false
namespace Go.Sk
open Go

section
variable {X : Tb} {P : Program} {M : Mt} {F : FuncId} {C : Code} {A : Ari} {S : FuncId → List AV → Option (AV × List Bool)}

/-- A loop over a function is entered. -/
theorem rfun_ok' {s s1 : St} {p : List Nat} {k : List It} {r : Nat} {f : Operand} {ps : Array Tmp} {c1 c2 : Code} {Ψ : AE → List AO → Prop} {Φ : St → Prop} (hmd : s.md = .run) (htd : s.todo = .c p :: k) (hc : sub p C = some (.rangeFunc f ps c1 c2))
    (hob : Obl (oo A s.fr f)) (hD : Does X P (ov s.fr f) [.yield r] s1.V Ψ) (h1 : s1.fr = s.fr ∧ s1.md = .run ∧ s1.ro = s.ro ∧ s1.cm = s.cm)
    (hent : ∀ (E : Env) (fr : Frame) (w : World), Inv X P E s.V w → fr.fn = F → FrX X E s.fr fr.tmps [] → DfsR X P E s.df fr.defers → (match s.ro with | none => fr.roundOf = none | some r => ∃ l, fr.roundOf = some l ∧ E.ρ[r]? = some (.loop l)) →
      ∃ l mark w1 E1, (Instr.enterLoop fr.fn fr.tmps ps c1 c2 fr.roundOf).run P w = .ok (l, mark) w1 ∧ Inv X P E1 s1.V w1 ∧ Ext E w E1 w1 ∧ E1.ρ[r]? = some (.loop l) ∧ DfsR X P E1 s1.df (mark ++ fr.defers))
    (hz : ∀ e V', Ψ e V' → match e with
      | .ret _ => AW X P A M F C { s1 with todo := .erf r :: k, V := V' } Φ
      | .pan ch => AW X P A M F C { s1 with V := V', md := .pan ch } Φ) : AW X P A M F C s Φ := by
  intro E fr cs0 cs w hi hs
  have hm := hs.md
  rw [hmd] at hm
  simp only [MdR] at hm
  have ht := hs.todo
  simp only [hmd] at ht
  obtain ⟨hf, ht⟩ := (noOg.of htd (by intro _ _ h; cases h) (by intro _ h; cases h)).todo ht
  rw [htd] at ht
  obtain ⟨y, k', he, h3, h4⟩ := ht
  cases h3 with
  | c hc' =>
  rw [hc] at hc'; cases hc'
  obtain ⟨l, mark, w1, E1, hrun, hi1, hext1, hρ1, hdf1⟩ := hent E fr w hi hs.fn hf hs.df hs.ro
  have hfE1 := hf.mono hext1.le
  have hv := ov_ok (a := ⟨fr.tmps, fr.defers⟩) hfE1.ok f hob
  have hyv : RVs X E1 [.yield r] [.func (.yield l) #[] #[]] := RVs.cons_iff.2 ⟨_, _, rfl, ⟨_, by simp only [R]; exact ⟨l, rfl, hρ1⟩, rfl⟩, by simp [RVs]⟩
  obtain ⟨n, w2, hcall, hcase⟩ := hD E1 w1 _ _ hi1 hv hyv
  have hargs : (rangeCall f l).args.map (Act.eval ⟨fr.tmps, mark ++ fr.defers⟩) = #[.func (.yield l) #[] #[]] := by simp [rangeCall, Act.eval]
  have hev : (Act.eval ⟨fr.tmps, mark ++ fr.defers⟩) f = (Act.eval ⟨fr.tmps, fr.defers⟩) f := by cases f <;> rfl
  obtain ⟨d, w1', hres, hinv⟩ : ∃ d w1', (resolve (Act.eval ⟨fr.tmps, mark ++ fr.defers⟩) (rangeCall f l) 0).run P w1 = .ok d w1' ∧ (invoke d.target d.args).run P w1' = .ok n w2 := by
    have he : resolve (Act.eval ⟨fr.tmps, mark ++ fr.defers⟩) (rangeCall f l) 0 = Deferred.ofValue (Act.eval ⟨fr.tmps, fr.defers⟩ f) #[.func (.yield l) #[] #[]] := by
      simp only [resolve, hargs, hev]
    rw [he]
    rw [Sem.run_bind] at hcall
    revert hcall
    cases hq : (Deferred.ofValue (Act.eval ⟨fr.tmps, fr.defers⟩ f) #[.func (.yield l) #[] #[]]).run P w1 with
    | ok d w1' => intro hcall; exact ⟨d, w1', rfl, by simpa [hq, Result.andThen] using hcall⟩
    | halt h w1' => intro hcall; simp [hq, Result.andThen] at hcall
  have hevR := Frame.eval_atR fr ⟨fr.tmps, mark ++ fr.defers⟩ (.inRangeFunc l :: k')
  simp only [Frame.atR] at hevR
  have hres' : Sem.run P (resolve ({ tmps := fr.tmps, defers := mark ++ fr.defers } : Act).eval { callee := .value f, args := #[.const (.func (.yield l) #[] #[])], argTypes := #[] } 0) w1 = .ok d w1' := hres
  have fin : ∀ (E' : Env) (V' : List AO) (w' : World) (y : Value), Inv X P E' V' w' → Ext E1 w1 E' w' → AW X P A M F C { s1 with todo := .erf r :: k, V := V' } Φ →
      Steps P (lone fr cs w) (lone ((fr.atR ⟨fr.tmps, mark ++ fr.defers⟩ (.inRangeFunc l :: k')).finish y) cs w') →
      ∃ s' E' fr' cs' w', Φ s' ∧ Steps P (lone fr cs w) (lone fr' cs' w') ∧ Inv X P E' s'.V w' ∧ StR X P A M F C E' s' fr' cs0 cs' ∧ Ext E w E' w' ∧ fr'.kind = fr.kind ∧ fr'.roundOf = fr.roundOf := by
    intro E' V' w' y hi' he' hA hst
    rw [finish_atR_inRangeFunc] at hst
    have hle := hext1.le.trans he'.le
    obtain ⟨s2, E2, fr2, cs2, w2, g1, g2, g3, g4, g5, g6, g7⟩ := hA E' (fr.atR ⟨fr.tmps, mark ++ fr.defers⟩ (.endRangeFunc l :: k')) cs0 cs w' hi' ⟨hs.fn, by simp only [h1.2.1, MdR]; rfl, by
      simp only [h1.2.1]
      refine .plain (by simp only [h1.1]; exact hf.mono hle) ⟨_, _, rfl, ?_, h4.mono hle⟩
      obtain ⟨g, hg, hl⟩ := he'.le.ρ _ _ hρ1; simp only [Gh.le] at hl; subst hl; exact .erf hg, hdf1.mono he'.le, by
      have := hs.ro
      simp only [h1.2.2.1]
      revert this
      cases hro : s.ro with
      | none => exact fun h => h
      | some r => rintro ⟨l, h1, h2⟩; obtain ⟨g, hg, hl⟩ := hle.ρ _ _ h2; simp only [Gh.le] at hl; subst hl; exact ⟨l, h1, hg⟩, by
      have := hs.cm
      simp only [h1.2.2.2]
      revert this
      cases hcm : s.cm with
      | none => exact fun h => h
      | some m => rintro ⟨hk, c, k, m', h1, h2, h3⟩; exact ⟨hk, c, k, m', h1, h2, h3.mono hle⟩⟩
    exact ⟨s2, E2, fr2, cs2, w2, g1, hst.trans g2, g3, g4, hext1.trans (he'.trans g5), g6, g7⟩
  rcases hcase with ⟨v, y, V', E', rfl, g1, g2, g3, g4⟩ | ⟨rfl, fr0, hbeg, hfr⟩
  · refine fin E' V' w2 y g3 g4 (hz _ _ g1) (.one ?_)
    refine step_lone_go ?_
    rw [frame_run hm, he]
    simp [stepG, stepG.exec, Frame.atR, Sem.runT_eq, hrun, GStep.bare_after, stepG.apply, hevR, Sem.run_bind, hres', hinv, Result.andThen]
  · have henter : Go.step P (lone fr cs w) = .next (lone fr0 (fr.atR ⟨fr.tmps, mark ++ fr.defers⟩ (.inRangeFunc l :: k') :: cs) w2) := by
      refine step_lone_go ?_
      rw [frame_run hm, he]
      cases n with
      | enter g args => simp only [Begins] at hbeg; subst hbeg; simp [stepG, stepG.exec, Frame.atR, Sem.runT_eq, hrun, GStep.bare_after, stepG.apply, hevR, Sem.run_bind, hres', hinv, Result.andThen]
      | round l2 f2 tmps2 a2 b2 => simp only [Begins] at hbeg; subst hbeg; simp [stepG, stepG.exec, Frame.atR, Sem.runT_eq, hrun, GStep.bare_after, stepG.apply, hevR, Sem.run_bind, hres', hinv, Result.andThen]
      | _ => exact hbeg.elim
    obtain ⟨e, V', E', w', g1, g2, g3, g4⟩ := hfr (fr.atR ⟨fr.tmps, mark ++ fr.defers⟩ (.inRangeFunc l :: k')) cs
    have hz := hz e V' g1
    cases e with
    | ret v =>
      obtain ⟨y, hy, hl⟩ := g4
      exact fin E' V' w' y g2 g3 hz (.head henter hl)
    | pan ch =>
      obtain ⟨l', hch, hl⟩ := g4
      have hraise : (fr.atR ⟨fr.tmps, mark ++ fr.defers⟩ (.inRangeFunc l :: k')).raise l' = { fr.atR ⟨fr.tmps, mark ++ fr.defers⟩ (.inRangeFunc l :: k') with mode := .panicking l' } := by simp [Frame.raise, Frame.atR]
      rw [hraise] at hl
      have hle := hext1.le.trans g3.le
      obtain ⟨s2, E2, fr2, cs2, w2, f1, f2, f3, f4, f5, f6, f7⟩ := hz E' { fr.atR ⟨fr.tmps, mark ++ fr.defers⟩ (.inRangeFunc l :: k') with mode := .panicking l' } cs0 cs w' g2 ⟨hs.fn, ⟨l', rfl, hch⟩, by
        simp only [h1.1]; exact hf.mono hle, hdf1.mono g3.le, by
        have := hs.ro
        simp only [h1.2.2.1]
        revert this
        cases hro : s.ro with
        | none => exact fun h => h
        | some r => rintro ⟨l, h1, h2⟩; obtain ⟨g, hg, hl⟩ := hle.ρ _ _ h2; simp only [Gh.le] at hl; subst hl; exact ⟨l, h1, hg⟩, by
        have := hs.cm
        simp only [h1.2.2.2]
        revert this
        cases hcm : s.cm with
        | none => exact fun h => h
        | some m => rintro ⟨hk, c, k, m', h1, h2, h3⟩; exact ⟨hk, c, k, m', h1, h2, h3.mono hle⟩⟩
      exact ⟨s2, E2, fr2, cs2, w2, f1, .head henter (hl.trans f2), f3, f4, hext1.trans (g3.trans f5), f6, f7⟩

/-- The code's regions are as M tells. -/
def GoodC (X : Tb) (M : Mt) (C : Code) : Prop := ∀ p id ops, sub p C = some (.region id ops true) → goodR X M ops.toList (schedOf M id) = true

theorem good_sub : ∀ (p : List Nat) (C D : Code), goodC X M C = true → sub p C = some D → goodC X M D = true
  | [], C, D, h, hs => by simp only [sub, Option.some.injEq] at hs; subst hs; exact h
  | n :: p, C, D, h, hs => by
    unfold sub at hs
    split at hs <;> first
      | (rename_i heq; cases heq; done)
      | (rename_i heq; injection heq with h1 h2; subst h1 h2
         simp only [goodC, Bool.and_eq_true] at h
         first
         | exact good_sub _ _ _ h.1 hs
         | exact good_sub _ _ _ h.2 hs
         | exact good_sub _ _ _ h hs)
      | (cases hs; done)

theorem GoodC.of (h : goodC X M C = true) : GoodC X M C := by
  intro p id ops hs
  have := good_sub p C _ h hs
  simpa [goodC] using this

structure Known (X : Tb) (P : Program) (M : Mt) (S : FuncId → List AV → Option (AV × List Bool)) (F : FuncId) (C : Code) : Prop where
  tb : TbOK X P
  sum : SumOK X P S
  mixed : P.follows .mixedOrders = true
  code : codeOf P F = some C
  good : GoodC X M C

theorem leave_go (hK : Known X P M S F C) {s s' : St} {ob : List Bool} (h : leaveStep s = .go s' ob) (hmd : s.md ≠ .run) : AW X P A M F C s (· = s') := by
  unfold leaveStep at h
  split at h
  · cases h
  · rename_i r ds hdf
    split at h
    · rename_i hV
      cases h
      exact col_ok hmd hdf hV
    · cases h
  · cases h

theorem step_go (hK : Known X P M S F C) {s s' : St} {ob : List Bool} (h : Sk.step A X M S F C s = .go s' ob) (hob : Obl ob) : AW X P A M F C s (· = s') := by
  have hX := hK.tb
  unfold Sk.step at h
  split at h
  · rename_i hmd; exact leave_go hK h (by rw [hmd]; intro h; cases h)
  · rename_i ch hmd; exact leave_go hK h (by rw [hmd]; intro h; cases h)
  · rename_i hmd
    split at h
    · rename_i htd
      split at h
      · rename_i hro
        cases h
        have := AW.toRet (X := X) (P := P) (A := A) (M := M) (F := F) (C := C) (s := s) (k := []) hmd hro (noOg.nil htd) (fun E real hr b a cs w hb => by
          rw [htd] at hr; simp only [ItsR] at hr; subst hr
          exact ⟨[], .one (stepR_end hb)⟩)
        refine this.mono fun s' hs' => ?_
        rw [hs', htd]
      · cases h
    · rename_i p k htd
      by_cases hd : ∃ id ops, sub p C = some (.region id ops true)
      · obtain ⟨id, ops, hc⟩ := hd
        simp only [codeStep, hc, if_true] at h
        cases h
        exact AW.draw hK.mixed hmd htd hc (hK.good p id ops hc)
      · exact codeStep_ok h hmd htd fun id ops hc => hd ⟨id, ops, hc⟩
    · rename_i n k htd
      cases h
      refine AW.todo hmd (fun E real hr => ?_) (noOg.of htd (by intro _ _ h; cases h) (by intro _ h; cases h))
      rw [htd] at hr
      obtain ⟨z, k', rfl, h3, h4⟩ := hr
      cases h3
      exact ⟨k', h4, fun b a cs w _ _ => .one stepR_inBlock⟩
    · rename_i n k htd
      cases h
      refine AW.todo hmd (fun E real hr => ?_) (noOg.of htd (by intro _ _ h; cases h) (by intro _ h; cases h))
      rw [htd] at hr
      obtain ⟨z, k', rfl, h3, h4⟩ := hr
      cases h3
      exact ⟨k', h4, fun b a cs w _ _ => .one (step_lone_go (by simp [stepG, stepG.exec, Frame.atR]))⟩
    · cases h
    · rename_i p k htd
      cases h
      by_cases hd : ∃ id ops, sub p C = some (.region id ops true)
      · obtain ⟨id, ops, hc⟩ := hd
        exact AW.endD hX hmd htd hc
      · refine AW.todo hmd (fun E real hr => ?_) (noOg.ops htd (by intro _ _ h; cases h) fun id ops hc => hd ⟨id, ops, hc⟩)
        rw [htd] at hr
        obtain ⟨z, k', rfl, h3, h4⟩ := hr
        cases h3 with
        | ops hc hl =>
          rename_i idx
          cases idx with
          | nil => exact ⟨k', h4, fun b a cs w _ _ => .one stepR_region_end⟩
          | cons => cases hl
    · rename_i p x rest k htd
      split at h
      · rename_i id ops draw hc
        cases draw with
        | true => exact opStepD_ok hX hK.sum (by simpa using h) hob hmd htd hc
        | false => exact opStep_ok hX hK.sum (by simpa using h) hob hmd htd hc
      · cases h
    · cases h
    · cases h
    · rename_i r k htd
      split at h
      · rename_i L hV
        split at h
        · cases h
        · rename_i hst
          exact erf_ok hmd htd hV (fun hb => hst hb) h
      · cases h
    · rename_i k htd
      split at h
      · rename_i r hro
        split at h
        · rename_i L hV
          split at h
          · rename_i hst
            cases h
            exact beg_ok hmd htd hro hV hst
          · cases h
        · cases h
      · cases h

theorem AW.vac {s : St} {Φ : St → Prop} (h : ∀ E fr cs0 cs, ¬ StR X P A M F C E s fr cs0 cs) : AW X P A M F C s Φ := fun E fr cs0 cs w _ hs => absurd hs (h E fr cs0 cs)

theorem loopAt_ok {s : St} {p : List Nat} {k : List It} {Φ : St → Prop} (hmd : s.md = .run) (htd : s.todo = .loop p :: k) (h1 : AW X P A M F C { s with todo := .c (p ++ [0]) :: .loop p :: k } Φ) : AW X P A M F C s Φ := by
  by_cases hc : ∃ c, sub p C = some (.loop c)
  · obtain ⟨c, hc⟩ := hc
    exact loop_ok hmd (.inr htd) hc h1
  · refine AW.vac fun E fr cs0 cs hs => ?_
    have ht := hs.todo
    simp only [hmd] at ht
    obtain ⟨hf, ht⟩ := (noOg.of htd (by intro _ _ h; cases h) (by intro _ h; cases h)).todo ht
    rw [htd] at ht
    obtain ⟨z, k', he, h3, h4⟩ := ht
    cases h3 with
    | loop h5 => exact hc ⟨_, h5⟩

theorem runOp_pz (hX : TbOK X P) {s : St} {p : List Nat} {x0 : Sx} {i : Nat} {pn : List Nat} {rest : List Sx} {k : List It} {o : Oper} {z : Pz} {ob : List Bool} {Φ : St → Prop} (h : runOp A X M S s p o x0 i pn rest k = .pz z ob) (hob : Obl ob)
    (ha : Ready X P A M F C s p i pn rest k o) (hz : Pz.ok X P A M F C z Φ) : AW X P A M F C s Φ := by
  have h0 := h
  unfold runOp at h
  split at h
  · split at h
    · cases h
    · cases h; exact hz.elim
  · split at h
    · cases h; exact el_ok hX h0 hob ha hz
    · cases h; exact hz.elim
  · rename_i f args ob1 hex
    split at h
    · split at h
      · cases h
      · cases h; exact hz.elim
    · cases h
      obtain ⟨Ψ, hr, hz⟩ := hz
      exact call_ok hex hob ha hr hz
  · cases h
  · split at h
    · cases h
    · cases h; exact hz.elim
  · split at h
    · split at h
      · cases h
      · cases h; exact hz.elim
    · cases h
    · cases h; exact hz.elim
  · cases h; exact hz.elim
  · cases h; exact hz.elim

theorem opStep_pz (hX : TbOK X P) {s : St} {p : List Nat} {x : Sx} {rest : List Sx} {k : List It} {z : Pz} {ob : List Bool} {id : Nat} {ops : Array Oper} {Φ : St → Prop} (h : opStep A X M S s p ops.toList x rest k = .pz z ob) (hob : Obl ob)
    (hmd : s.md = .run) (htd : s.todo = .ops p (x :: rest) :: k) (hc : sub p C = some (.region id ops false)) (hz : Pz.ok X P A M F C z Φ) : AW X P A M F C s Φ := by
  cases x with
  | o i =>
    simp only [opStep] at h
    split at h
    · cases h; exact hz.elim
    · rename_i o ho
      split at h
      · cases h; exact hz.elim
      · rename_i hw
        refine runOp_pz hX h hob (Ready.of hmd htd hc (nth?_arr ho) fun E tmps hf => ?_) hz
        have := wanted_ok hw hf
        simpa using this
      · rename_i c hw
        have fin : ∀ {z}, z = Pz.guard c { s with todo := .ops p (.og i :: rest) :: k } { s with todo := .ops p rest :: k, fr := put s.fr o.dst (.gd false (.d (.bool false))) } → Pz.ok X P A M F C z Φ → AW X P A M F C s Φ := by
          rintro z rfl hz
          exact AW.guard hmd htd hc (nth?_arr ho) hw hz.1 hz.2
        split at h
        · split at h
          · split at h
            · cases h
            · cases h; exact fin rfl hz
          · cases h; exact fin rfl hz
        · cases h; exact fin rfl hz
  | og i =>
    simp only [opStep] at h
    split at h
    · cases h; exact hz.elim
    · rename_i o ho
      exact runOp_pz hX h hob (Ready.ofG hmd htd hc (nth?_arr ho)) hz
  | n i an pn => simp only [opStep] at h; cases h; exact hz.elim
  | ng i an pn => simp only [opStep] at h; cases h; exact hz.elim
  | chk i => simp only [opStep] at h; cases h; exact hz.elim

/-- The two ways of a calm operation's guard. -/
theorem AW.guardC {s : St} {p : List Nat} {i : Nat} {rest : List Sx} {k : List It} {o : Oper} {id : Nat} {ops : Array Oper} {c : Bool} {Φ : St → Prop} (hmd : s.md = .run) (htd : s.todo = .ops p (.o i :: rest) :: k)
    (hc : sub p C = some (.region id ops true)) (ho : ops[i]? = some o) (hw : wantedOf A s.fr ops.toList o = some (some c))
    (h1 : c = true → AW X P A M F C { s with todo := .ops p (.og i :: rest) :: k } Φ) (h2 : c = false → AW X P A M F C { s with todo := .ops p rest :: k, fr := put s.fr o.dst (.gd false (.d (.bool false))) } Φ) : AW X P A M F C s Φ := by
  cases hcc : c with
  | true =>
    refine (show AW X P A M F C s (· = { s with todo := .ops p (.og i :: rest) :: k }) from ?_).trans fun s1 hs1 => by subst hs1; exact h1 hcc
    intro E fr cs0 cs w hi hs
    have ht := hs.todo
    simp only [hmd] at ht
    obtain ⟨L, done, D, k', hr, hk, hd, hog, hng⟩ := ht.drawn htd hc
    simp only [deog] at hd
    refine ⟨_, E, fr, cs, w, rfl, .refl P _, hi, ⟨hs.fn, hs.md, ?_, hs.df, hs.ro, hs.cm⟩, .refl E w, rfl, rfl⟩
    simp only [hmd]
    exact .dr rfl hr hc hk (by simp only [deog]; exact hd) (fun i' rest' h => by cases h; exact ⟨o, c, ho, hw, hcc⟩) (fun i' an pn rest' h => by cases h)
  | false =>
    refine (tell_ok hmd htd rfl hc ho fun E tmps L done D hd hog => pend_of (x := .undef) (V' := s.V) (ob := []) hd ho hw (.inr ⟨c, rfl, .inl ⟨.d (.bool false), by rw [hcc]⟩⟩) fun h => by simp [hcc] at h).trans fun s1 hs1 => by
      subst hs1; exact h2 hcc

theorem opStepD_pz (hX : TbOK X P) {s : St} {p : List Nat} {x : Sx} {rest : List Sx} {k : List It} {z : Pz} {ob : List Bool} {id : Nat} {ops : Array Oper} {Φ : St → Prop} (h : opStepD A X M S s p ops.toList x rest k = .pz z ob) (hob : Obl ob)
    (hmd : s.md = .run) (htd : s.todo = .ops p (x :: rest) :: k) (hc : sub p C = some (.region id ops true)) (hz : Pz.ok X P A M F C z Φ) : AW X P A M F C s Φ := by
  have calm : ∀ {x0 : Sx} {i : Nat} {o : Oper}, s.todo = .ops p (x0 :: rest) :: k → (x0 = .o i ∨ x0 = .og i) → ops[i]? = some o → (x0 = .o i → wantedOf A s.fr ops.toList o = some none) → calmOp A X M s p o rest k = .pz z ob → AW X P A M F C s Φ := by
    intro x0 i o htd hx0 ho hw h
    unfold calmOp at h
    split at h
    · split at h
      · cases h
      · cases h; exact hz.elim
    · rename_i y V1 ob1 hex
      split at h
      · rename_i hgd
        cases h
        exact (calmOp_tell hmd htd hx0 hc ho hw (.inr hex) hob hgd).trans fun s1 hs1 => by subst hs1; exact hz
      · cases h; exact hz.elim
    · cases h; exact hz.elim
    · cases h; exact hz.elim
  cases x with
  | o i =>
    simp only [opStepD] at h
    split at h
    · cases h; exact hz.elim
    · rename_i o ho
      split at h
      · cases h; exact hz.elim
      · rename_i hw
        exact calm htd (.inl rfl) (nth?_arr ho) (fun _ => hw) h
      · rename_i c hw
        have fin : ∀ {z}, z = Pz.guard c { s with todo := .ops p (.og i :: rest) :: k } { s with todo := .ops p rest :: k, fr := put s.fr o.dst (.gd false (.d (.bool false))) } → Pz.ok X P A M F C z Φ → AW X P A M F C s Φ := by
          rintro z rfl hz
          exact AW.guardC hmd htd hc (nth?_arr ho) hw hz.1 hz.2
        split at h
        · split at h
          · cases h
          · cases h; exact fin rfl hz
        · cases h; exact fin rfl hz
  | og i =>
    simp only [opStepD] at h
    split at h
    · cases h; exact hz.elim
    · rename_i o ho
      exact calm htd (.inr rfl) (nth?_arr ho) (fun h => by cases h) h
  | n i an pn =>
    simp only [opStepD] at h
    split at h
    · cases h; exact hz.elim
    · rename_i o ho
      split at h
      · cases h; exact hz.elim
      · rename_i hw
        exact runOp_pz hX h hob (Ready.dr hX hmd htd hc (nth?_arr ho) hw) hz
      · rename_i c hw
        cases h
        exact AW.guardD hX hmd htd hc (nth?_arr ho) hw hz.1 hz.2
  | ng i an pn =>
    simp only [opStepD] at h
    split at h
    · cases h; exact hz.elim
    · rename_i o ho
      exact runOp_pz hX h hob (Ready.drG hmd htd hc (nth?_arr ho)) hz
  | chk i =>
    simp only [opStepD] at h
    split at h
    · cases h; exact hz.elim
    · split at h
      · cases h
      · cases h
      · split at h <;> cases h; exact hz.elim
      · split at h <;> cases h; exact hz.elim
      · cases h; exact hz.elim

theorem leave_pz {s : St} {z : Pz} {ob : List Bool} {Φ : St → Prop} (h : leaveStep s = .pz z ob) (hmd : s.md ≠ .run) (hz : Pz.ok X P A M F C z Φ) : AW X P A M F C s Φ := by
  unfold leaveStep at h
  split at h
  · cases h; exact .refl hz
  · split at h
    · cases h
    · cases h; exact hz.elim
  · rename_i f args ds hdf
    cases h
    cases f <;> try exact hz.elim
    obtain ⟨Ψ, hb, hr, hz⟩ := hz
    exact dcall_ok hmd hdf hb hr hz

theorem enter_outer (hK : Known X P M S F C) {s : St} {p : List Nat} {f : Operand} {ps : Array Tmp} {c1 c2 : Code} (hc : sub p C = some (.rangeFunc f ps c1 c2)) {E : Env} {fr : Frame} {w : World} (hi : Inv X P E s.V w) (hfn : fr.fn = F) (hf : FrX X E s.fr fr.tmps []) (hd : DfsR X P E s.df fr.defers)
    (hro : fr.roundOf = none) :
    ∃ l mark w1 E1, (Instr.enterLoop fr.fn fr.tmps ps c1 c2 fr.roundOf).run P w = .ok (l, mark) w1 ∧ Inv X P E1 (s.V ++ [.dfr true, .loop ⟨.ready, none, F, s.fr, ps.toList, p, llen s.V⟩]) w1 ∧ Ext E w E1 w1 ∧ E1.ρ[llen s.V + 1]? = some (.loop l) ∧ DfsR X P E1 (.col (llen s.V) :: s.df) (mark ++ fr.defers) := by
  rw [hro]
  have hlen := hi.len
  obtain ⟨h1, h2⟩ := hi.add (g' := .dfr w.heap.size) (o' := .dfr true) (Γ' := E.Γ) (w' := World.push w (.deferred (some []))) (Kept.push _ _ _) (fun _ _ _ h => h) (fun b o h => by simp only [own] at h; subst h; rw [push_size]; omega) (fun b o v h => .inl h)
    (by simp only [SlotOK]; exact push_new _ _)
  obtain ⟨h3, h4⟩ := h1.add (g' := .loop (w.heap.size + 1)) (o' := .loop ⟨.ready, none, F, s.fr, ps.toList, p, llen s.V⟩) (Γ' := E.Γ) (w' := World.push (World.push w (.deferred (some []))) (.loop { state := .ready, pending := none, fn := fr.fn, tmps := fr.tmps, params := ps, assign := c1, body := c2, defers := w.heap.size }))
    (Kept.push _ _ _) (fun _ _ _ h => h) (fun b o h => by simp only [own] at h; subst h; simp only [push_size]; omega) (fun b o v h => .inl h)
    (by
      have := push_new (World.push w (.deferred (some []))) (.loop { state := .ready, pending := none, fn := fr.fn, tmps := fr.tmps, params := ps, assign := c1, body := c2, defers := w.heap.size })
      rw [push_size] at this
      simp only [SlotOK]
      refine ⟨_, this, rfl, rfl, hfn, rfl, ?_, ⟨C, f, hK.code, hc⟩, ?_⟩
      · have hm : E.le ⟨E.Γ, E.ρ ++ [.dfr w.heap.size] ++ [.loop (w.heap.size + 1)]⟩ := h2.le.trans ⟨fun _ _ _ h => h, fun r g h => ⟨g, by
          have := (List.getElem?_eq_some_iff.1 h).1
          simp only
          rw [List.getElem?_append_left this]; exact h, g.le_refl⟩⟩
        exact (hf.mono hm).ok
      · simp [llen_eq, ← hlen])
  have hV : s.V ++ [.dfr true, .loop ⟨.ready, none, F, s.fr, ps.toList, p, llen s.V⟩] = s.V ++ [.dfr true] ++ [.loop ⟨.ready, none, F, s.fr, ps.toList, p, llen s.V⟩] := by simp
  refine ⟨_, _, _, _, run_enterLoop_outer _ _ _ _ _, hV ▸ h3, h2.trans h4, ?_, ?_⟩
  · simp [llen_eq, ← hlen]
  · refine ⟨_, _, rfl, ⟨w.heap.size, ?_, rfl, rfl⟩, hd.mono (h2.trans h4).le⟩
    simp [llen_eq, ← hlen]

theorem run_enterLoop_in (fn : FuncId) (tmps : Array Value) (ps : Array Tmp) (assign body : Code) {l : Nat} {r : Loop} {w : World} (h : w.heap[l]? = some (.loop r)) :
    (Instr.enterLoop fn tmps ps assign body (some l)).run P w = .ok (w.heap.size, []) (w.alloc (.loop { state := .ready, pending := none, fn, tmps, params := ps, assign, body, defers := r.defers })) := by
  unfold Instr.enterLoop
  simp only [Sem.run_bind, run_getLoop h, run_newObj_alloc, Result.andThen, Sem.run_pure]

theorem enter_inner (hK : Known X P M S F C) {s : St} {p : List Nat} {r0 : Nat} {L : ALoop} {f : Operand} {ps : Array Tmp} {c1 c2 : Code} (hc : sub p C = some (.rangeFunc f ps c1 c2)) {E : Env} {fr : Frame} {w : World} (hi : Inv X P E s.V w) (hfn : fr.fn = F) (hf : FrX X E s.fr fr.tmps []) (hd : DfsR X P E s.df fr.defers)
    (hV : lget s.V r0 = .loop L) (hro : ∃ l, fr.roundOf = some l ∧ E.ρ[r0]? = some (.loop l)) :
    ∃ l mark w1 E1, (Instr.enterLoop fr.fn fr.tmps ps c1 c2 fr.roundOf).run P w = .ok (l, mark) w1 ∧ Inv X P E1 (s.V ++ [.loop ⟨.ready, none, F, s.fr, ps.toList, p, L.df⟩]) w1 ∧ Ext E w E1 w1 ∧ E1.ρ[llen s.V]? = some (.loop l) ∧ DfsR X P E1 s.df (mark ++ fr.defers) := by
  obtain ⟨l0, hr1, hr2⟩ := hro
  rw [hr1]
  have hlen := hi.len
  obtain ⟨R, k1, k2, _⟩ := hi.loopAt hr2 hV
  obtain ⟨h3, h4⟩ := hi.add (g' := .loop w.heap.size) (o' := .loop ⟨.ready, none, F, s.fr, ps.toList, p, L.df⟩) (Γ' := E.Γ) (w' := World.push w (.loop { state := .ready, pending := none, fn := fr.fn, tmps := fr.tmps, params := ps, assign := c1, body := c2, defers := R.defers }))
    (Kept.push _ _ _) (fun _ _ _ h => h) (fun b o h => by simp only [own] at h; subst h; rw [push_size]; omega) (fun b o v h => .inl h)
    (by
      have := push_new w (.loop { state := .ready, pending := none, fn := fr.fn, tmps := fr.tmps, params := ps, assign := c1, body := c2, defers := R.defers })
      simp only [SlotOK]
      have hm : E.le ⟨E.Γ, E.ρ ++ [.loop w.heap.size]⟩ := ⟨fun _ _ _ h => h, fun r g h => ⟨g, by
          have := (List.getElem?_eq_some_iff.1 h).1
          simp only
          rw [List.getElem?_append_left this]; exact h, g.le_refl⟩⟩
      refine ⟨_, this, rfl, rfl, hfn, rfl, (hf.mono hm).ok, ⟨C, f, hK.code, hc⟩, ?_⟩
      obtain ⟨g, hg, hl⟩ := hm.ρ _ _ k2.df; simp only [Gh.le] at hl; subst hl; exact hg)
  refine ⟨_, _, _, _, run_enterLoop_in _ _ _ _ _ k1, h3, h4, ?_, ?_⟩
  · simp [llen_eq, ← hlen]
  · simpa using hd.mono h4.le

/-- A loop over a function has ended, in a round, with a jump out of it. -/
theorem erf_pz {s : St} {k : List It} {r : Nat} {L : ALoop} {j : AJ} {z : Pz} {ob : List Bool} {Φ : St → Prop} (hmd : s.md = .run) (htd : s.todo = .erf r :: k) (hV : lget s.V r = .loop L) (hst : L.state ≠ .busy) (hj : L.pend = some j)
    (h : jumpTo C { s with todo := k, V := lset s.V r (.loop { L with state := .exhausted }) } k j = .pz z ob) (hz : Pz.ok X P A M F C z Φ) : AW X P A M F C s Φ := by
  intro E fr cs0 cs w hi hs
  have hm := hs.md
  rw [hmd] at hm
  simp only [MdR] at hm
  have ht := hs.todo
  simp only [hmd] at ht
  obtain ⟨hf, ht⟩ := (noOg.of htd (by intro _ _ h; cases h) (by intro _ h; cases h)).todo ht
  rw [htd] at ht
  obtain ⟨y, k', he, h3, h4⟩ := ht
  cases h3 with
  | erf hg =>
    rename_i b
    obtain ⟨R, h5, h6, h7⟩ := hi.loopAt hg hV
    have hrun := run_endLoop (P := P) h5 (by rw [h6.state]; exact hst)
    obtain ⟨h8, h9⟩ := h7 _ _ (h6.state' .exhausted)
    replace hrun : (Instr.endLoop b).run P w = .ok (L.pend.map jumpOf) (w.putObj b (.loop { R with state := .exhausted })) := by rw [← h6.pend]; exact hrun
    clear h7
    generalize w.putObj b (.loop { R with state := .exhausted }) = w1 at hrun h8 h9
    generalize lset s.V r (.loop { L with state := .exhausted }) = V1 at h h8
    have hstep := stepR_endRangeFunc (P := P) (b := fr) (a := ⟨fr.tmps, fr.defers⟩) (k := k') (cs := cs) hrun
    rw [← he, ← frame_run hm] at hstep
    rw [hj] at hstep
    simp only [Option.map_some, Option.toList_some, List.singleton_append] at hstep
    have go : Φ { s with todo := [.rend (some j)], V := V1 } → RendR (.code (jumpOf j) :: k') (some j) →
        ∃ s' E' fr' cs' w', Φ s' ∧ Steps P (lone fr cs w) (lone fr' cs' w') ∧ Inv X P E' s'.V w' ∧ StR X P A M F C E' s' fr' cs0 cs' ∧ Ext E w E' w' ∧ fr'.kind = fr.kind ∧ fr'.roundOf = fr.roundOf := by
      intro hΦ hr
      refine ⟨_, E, _, cs, _, hΦ, .one hstep, h8, ⟨hs.fn, ?_, ?_, hs.df, hs.ro, hs.cm⟩, h9, rfl, rfl⟩
      · simp only [hmd, MdR]; rfl
      · simp only [hmd]; exact .rend hf rfl hr
    cases j with
    | ret =>
      simp only [jumpTo] at h
      split at h
      · cases h
      · cases h; exact go hz ⟨k', rfl⟩
    | exit id =>
      simp only [jumpTo] at h
      split at h
      · cases h
      · rename_i hx
        split at h
        · cases h; exact hz.elim
        · cases h; exact go hz ⟨k', rfl, exit_none h4 hx⟩
    | goto l =>
      simp only [jumpTo] at h
      split at h
      · cases h
      · rename_i hx
        split at h
        · cases h; exact hz.elim
        · cases h; exact go hz ⟨k', rfl, goto_none h4 hx⟩

theorem step_pz (hK : Known X P M S F C) {s : St} {z : Pz} {ob : List Bool} {Φ : St → Prop} (h : Sk.step A X M S F C s = .pz z ob) (hob : Obl ob) (hz : Pz.ok X P A M F C z Φ) : AW X P A M F C s Φ := by
  have hX := hK.tb
  unfold Sk.step at h
  split at h
  · rename_i hmd; exact leave_pz h (by rw [hmd]; intro h; cases h) hz
  · rename_i ch hmd; exact leave_pz h (by rw [hmd]; intro h; cases h) hz
  · rename_i hmd
    split at h
    · rename_i htd
      split at h
      · cases h
      · cases h; exact rend0_ok (r := 0) hmd htd hz
    · rename_i p k htd
      unfold codeStep at h
      split at h
      · cases h; exact hz.elim
      · rename_i c hc
        split at h
        · cases h
        · cases h
        · cases h
        · split at h
          · rename_i b hb
            cases h
            exact cond_ok hmd htd hc hb hz.1 hz.2
          · cases h; exact hz.elim
        · cases h
        · cases h
          exact loop_ok hmd (.inl htd) hc hz
        · cases h
        · exact rend_ok h hmd htd hc hz
        · exact rend_ok h hmd htd hc hz
        · exact rend_ok h hmd htd hc hz
        · cases h
        · rename_i f ps c1 c2
          split at h
          · rename_i hro
            cases h
            obtain ⟨Ψ, k2, hk2, hD, hz⟩ := hz
            cases hk2
            refine rfun_ok' hmd htd hc hob hD ⟨rfl, hmd, rfl, rfl⟩ (fun E fr w hi hfn hf hd hr => ?_) hz
            rw [hro] at hr
            exact enter_outer hK hc hi hfn hf hd hr
          · rename_i r0 hro
            split at h
            · rename_i L hV
              cases h
              obtain ⟨Ψ, k2, hk2, hD, hz⟩ := hz
              cases hk2
              refine rfun_ok' hmd htd hc hob hD ⟨rfl, hmd, rfl, rfl⟩ (fun E fr w hi hfn hf hd hr => ?_) hz
              rw [hro] at hr
              exact enter_inner hK hc hi hfn hf hd hV hr
            · cases h; exact hz.elim
        · cases h; exact hz.elim
    · cases h
    · cases h
    · rename_i p k htd
      cases h
      simp only [Pz.ok, htd] at hz
      exact loopAt_ok hmd htd hz
    · cases h
    · rename_i p x rest k htd
      split at h
      · rename_i id ops draw hc
        cases draw with
        | true => exact opStepD_pz hX (by simpa using h) hob hmd htd hc hz
        | false => exact opStep_pz hX (by simpa using h) hob hmd htd hc hz
      · cases h; exact hz.elim
    · cases h; exact hz.elim
    · cases h; exact hz.elim
    · rename_i r k htd
      split at h
      · rename_i L hV
        split at h
        · cases h; exact hz.elim
        · rename_i hst
          split at h
          · cases h
          · rename_i j hj
            exact erf_pz hmd htd hV (fun hb => hst hb) hj h hz
      · cases h; exact hz.elim
    · split at h
      · split at h
        · split at h
          · cases h
          · cases h; exact hz.elim
        · cases h; exact hz.elim
      · cases h; exact hz.elim

theorem sound (hK : Known X P M S F C) : Sound X P A M S F C :=
  ⟨fun _ _ _ h ho => step_go hK h ho, fun _ _ _ _ h ho hz => step_pz hK h ho hz⟩

end
end Go.Sk
