/- Sk, part ZA: an operation's step, whole (regions in the text's order). -/
import Derived.Test.YtlheciphihmomaaGreatDoorSkZI
set_option linter.all false
namespace Go.Sk
open Go

section
variable {X : Tb} {P : Program} {M : Mt} {F : FuncId} {C : Code} {A : Ari}

theorem nilMsg : strVal "invalid memory address or nil pointer dereference" = .string ⟨[105, 110, 118, 97, 108, 105, 100, 32, 109, 101, 109, 111, 114, 121, 32, 97, 100, 100, 114, 101, 115, 115, 32, 111, 114, 32, 110, 105, 108, 32, 112, 111, 105, 110, 116, 101, 114, 32, 100, 101, 114, 101, 102, 101, 114, 101, 110, 99, 101].toArray⟩ := by
  rfl

theorem vO_pan {r : Option (AV × List Bool)} {V : List AO} {o : List Bool} {n : Nat} {x : AV} {ob : List Bool} (h : vO r V o n = .pan x ob) : False := by
  unfold vO at h; split at h <;> cases h
theorem vE_pan {r : Option (AV × List Bool × Bool)} {V : List AO} {o : List Bool} {n : Nat} {x : AV} {ob : List Bool} (h : vE r V o n = .pan x ob) : False := by
  unfold vE at h; split at h <;> cases h
theorem vV_pan {r : Option (AV × List AO × List Bool)} {o : List Bool} {n : Nat} {x : AV} {ob : List Bool} (h : vV r o n = .pan x ob) : False := by
  unfold vV at h; split at h <;> cases h
theorem vO_df {r : Option (AV × List Bool)} {V : List AO} {o : List Bool} {n : Nat} {x : AD} {ob : List Bool} (h : vO r V o n = .df x ob) : False := by
  unfold vO at h; split at h <;> cases h
theorem vE_df {r : Option (AV × List Bool × Bool)} {V : List AO} {o : List Bool} {n : Nat} {x : AD} {ob : List Bool} (h : vE r V o n = .df x ob) : False := by
  unfold vE at h; split at h <;> cases h
theorem vV_df {r : Option (AV × List AO × List Bool)} {o : List Bool} {n : Nat} {x : AD} {ob : List Bool} (h : vV r o n = .df x ob) : False := by
  unfold vV at h; split at h <;> cases h

theorem deref_nil {v : AV} (h : deref X v = .d .nilp) : v = .d .nilp := by
  cases v <;> try exact h
  simp only [deref] at h
  split at h <;> cases h

theorem told_pan (hX : TbOK X P) {E : Env} {fr : List AV} {V : List AO} {a : Act} {w : World} {o : Oper} {x : AV} {ob : List Bool} (h : exec A X M fr V o = .pan x ob) (ho : Obl ob) (hf : FrOK X E fr a.tmps) :
    ∃ v, (execOp a.eval o).run P w = .halt (.panic v) w ∧ RV0 X E x v ∧ ∀ c, o.op ≠ .defer c := by
  cases hop : o.op with
  | nilCheck u =>
    simp only [exec, hop] at h
    split at h <;> try (cases h; done)
    · rename_i hv
      cases h
      have hr := ov_ok hf u ho
      rw [deref_nil hv, rv_nilp] at hr
      refine ⟨.iface P.rt.errorString (strVal "invalid memory address or nil pointer dereference"), ?_, ?_, by intro c hc; cases hc⟩
      · simp [execOp, hop, hr, runtimePanic, goPanic]
      · rw [nilDeref, ← hX.err]; exact rv_difc.2 ⟨_, rfl, rv_str.2 nilMsg⟩
    · split at h
      · split at h <;> cases h
      · cases h
  | panic u =>
    simp only [exec, hop] at h
    split at h
    · rename_i t v hv
      cases h
      have hr := ov_ok hf u ho
      rw [hv] at hr
      obtain ⟨y, h1, h2⟩ := rv_difc.1 hr
      exact ⟨_, by simp [execOp, hop, h1, Instr.panic, goPanic], rv_difc.2 ⟨y, rfl, h2⟩, by intro c hc; cases hc⟩
    · rename_i t v hv
      cases h
      have hr := ov_ok hf u ho
      rw [hv] at hr
      obtain ⟨y, h1, h2⟩ := rv_ifc.1 hr
      exact ⟨_, by simp [execOp, hop, h1, Instr.panic, goPanic], rv_ifc.2 ⟨y, rfl, h2⟩, by intro c hc; cases hc⟩
    · cases h
  | makeMap t r => cases r <;> (simp only [exec, hop] at h; cases h)
  | _ =>
    simp only [exec, hop] at h
    repeat' first
      | (cases h; done)
      | exact (vO_pan h).elim
      | exact (vE_pan h).elim
      | exact (vV_pan h).elim
      | (unfold execBuiltin at h; simp only at h)
      | (unfold buildSl at h)
      | split at h

theorem told_df {E : Env} {fr : List AV} {V : List AO} {a : Act} {w : World} {o : Oper} {x : AD} {ob : List Bool} (h : exec A X M fr V o = .df x ob) (ho : Obl ob) (hf : FrOK X E fr a.tmps) :
    ∃ d, (execOp a.eval o).run P w = .ok (.defer d) w ∧ DfR X P E x d ∧ ∃ c, o.op = .defer c := by
  cases hop : o.op with
  | defer c =>
    simp only [exec, hop] at h
    split at h
    · rename_i f hc
      split at h
      · rename_i g x1 y1 hv
        cases h
        rw [Obl_append] at ho
        have hr := ov_ok hf f ho.1
        rw [hv] at hr
        obtain ⟨a', c', h1, h2⟩ := rv_fn.1 hr
        have hargs : c.args.map a.eval = (c.args.toList.map a.eval).toArray := by simp [← Array.toList_map]
        refine ⟨{ target := .fn (.func g) c'.toArray, args := a'.toArray ++ (c.args.toList.map a.eval).toArray }, ?_, ?_, c, rfl⟩
        · simp [execOp, hop, resolve, hc, h1, Deferred.ofValue, hargs]
        · exact ⟨_, _, _, rv_fn.2 ⟨a', c', rfl, h2⟩, ovs_ok hf _ ho.2, fun w => by simp [Deferred.ofValue], rfl⟩
      · cases h
    · cases h
  | makeMap t r => cases r <;> (simp only [exec, hop] at h; cases h)
  | _ =>
    simp only [exec, hop] at h
    repeat' first
      | (cases h; done)
      | exact (vO_df h).elim
      | exact (vE_df h).elim
      | exact (vV_df h).elim
      | (unfold execBuiltin at h; simp only at h)
      | (unfold buildSl at h)
      | split at h

variable {S : FuncId → List AV → Option (AV × List Bool)}

theorem exec_rcv {fr : List AV} {V : List AO} {o : Oper} (h : exec A X M fr V o = .rcv) : ∃ (c : Call) (args : Array Operand), o.op = .call c ∧ c.callee = .builtin .recover := by
  cases hop : o.op with
  | call c =>
    simp only [exec, hop] at h
    split at h
    · rename_i b hc
      cases b
      case recover => exact ⟨c, c.args, rfl, hc⟩
      all_goals
        exfalso
        revert h; unfold execBuiltin
        intro h
        repeat' first
          | (cases h; done)
          | contradiction
          | (unfold vV at h)
          | split at h
    · cases h
    · cases h
  | makeMap t r => cases r <;> (simp only [exec, hop] at h; cases h)
  | _ =>
    exfalso
    simp only [exec, hop] at h
    repeat' first
      | (cases h; done)
      | (unfold vO at h)
      | (unfold vE at h)
      | (unfold buildSl at h)
      | split at h

theorem runOp_ok (hX : TbOK X P) (hS : SumOK X P S) {s s' : St} {p : List Nat} {x0 : Sx} {i : Nat} {pn : List Nat} {rest : List Sx} {k : List It} {o : Oper} {ob : List Bool} (h : runOp A X M S s p o x0 i pn rest k = .go s' ob) (hob : Obl ob)
    (ha : Ready X P A M F C s p i pn rest k o) : AW X P A M F C s (· = s') := by
  unfold runOp at h
  split at h
  · rename_i x V1 ob1 hex
    split at h
    · rename_i hgd
      cases h
      intro E0 fr0 cs0 cs w0 hi0 hs0
      obtain ⟨E, fr, w, hst0, hi, hs, hext0, hk0, hro0, hat⟩ := ha E0 fr0 cs0 cs w0 hi0 hs0
      obtain ⟨E', fr', w', h1, h2, h3, h4, h5, h6⟩ := exec_ok hX hi hs hat (.inl hex) hob (fun E y hy => RV.of hy (isGd_false hgd))
      exact ⟨_, E', fr', cs, w', rfl, hst0.trans h1, h2, h3, hext0.trans h4, h5.trans hk0, h6.trans hro0⟩
    · cases h
  · split at h <;> cases h
  · rename_i f args ob1 hex
    split at h
    · rename_i r ob2 hsum
      split at h
      · rename_i hgd
        cases h
        rw [Obl_append] at hob
        refine call_ok hex hob.2 ha (sumOf_ok hX hS hsum hob.1) fun e V' he => ?_
        obtain ⟨rfl, rfl⟩ := he
        exact ⟨hgd, .refl rfl⟩
      · cases h
    · cases h
  · rename_i x ob1 hex
    cases h
    intro E0 fr0 cs0 cs w0 hi0 hs0
    obtain ⟨E, fr, w, hst0, hi, hs, hext0, hk0, hro0, hat⟩ := ha E0 fr0 cs0 cs w0 hi0 hs0
    obtain ⟨frU, hfU, hexU⟩ := hat.tm
    obtain ⟨v, h1, h2, hnd⟩ := told_pan (w := w) (a := ⟨fr.tmps, fr.defers⟩) hX (hexU.trans hex) hob hfU.ok
    obtain ⟨ops, idx, k', ht, hop, hw, hcont⟩ := hat.todo
    have hg := stepGR_op (P := P) (b := fr) (a := ⟨fr.tmps, fr.defers⟩) (k := k') (cs := cs) (w := w) (rest := idx) hop hw
    rw [← ht, ← frame_run hat.mode, Oper.semAt_eq _ _ _ hnd] at hg
    have hraise : fr.raise [{ v, recovered := false }] = { fr with mode := .panicking [{ v, recovered := false }] } := by simp [Frame.raise, hat.mode]
    have hst : Go.step P (lone fr cs w) = .next (lone { fr with mode := .panicking [{ v, recovered := false }] } cs w) :=
      step_lone_go (by rw [hg, ← hraise]; simp [stepG.apply, h1])
    refine ⟨_, E, _, cs, w, rfl, hst0.trans (.one hst), hi, ⟨hs.fn, ?_, ?_, hs.df, hs.ro, hs.cm⟩, hext0, hk0, hro0⟩
    · exact ⟨_, rfl, _, [], rfl, h2, rfl, rfl, rfl⟩
    · exact hat.pan
  · rename_i d ob1 hex
    split at h
    · rename_i hro
      cases h
      intro E0 fr0 cs0 cs w0 hi0 hs0
      obtain ⟨E, fr, w, hst0, hi, hs, hext0, hk0, hro0, hat⟩ := ha E0 fr0 cs0 cs w0 hi0 hs0
      obtain ⟨frU, hfU, hexU⟩ := hat.tm
      obtain ⟨v, h1, h2, c, hnd⟩ := told_df (P := P) (w := w) (a := ⟨fr.tmps, fr.defers⟩) (hexU.trans hex) hob hfU.ok
      obtain ⟨ops, idx, k', ht, hop, hw, hcont⟩ := hat.todo
      have hro' := hs.ro
      simp only [hro] at hro'
      have hg := stepGR_op (P := P) (b := fr) (a := ⟨fr.tmps, fr.defers⟩) (k := k') (cs := cs) (w := w) (rest := idx) hop hw
      rw [← ht, ← frame_run hat.mode, hro', Oper.semAt_none] at hg
      have hfin : ({ fr with defers := v :: fr.defers } : Frame).finish undef = fr.atR ((⟨fr.tmps, v :: fr.defers⟩ : Act).put o.dst undef) (.inRegion ops idx :: k') := by
        have := Frame.finish_atR fr ⟨fr.tmps, v :: fr.defers⟩ ops i idx k' undef
        rw [hop] at this
        have e2 : ({ fr with defers := v :: fr.defers } : Frame) = fr.atR ⟨fr.tmps, v :: fr.defers⟩ (.inRegion ops (i :: idx) :: k') := by
          rw [← ht]; simp only [Frame.atR, hat.mode]
        rw [e2]; exact this
      have hst : Go.step P (lone fr cs w) = .next (lone (fr.atR ((⟨fr.tmps, v :: fr.defers⟩ : Act).put o.dst undef) (.inRegion ops idx :: k')) cs w) := by
        refine step_lone_go ?_
        rw [hg]; simp only [stepG.apply, Sem.runT_eq, h1, GStep.bare_after]
        exact congrArg (fun fr => GStep.go { frame := fr, callers := cs, status := .running, dying := none } w) hfin
      refine ⟨_, E, _, cs, w, rfl, hst0.trans (.one hst), hi, ⟨hs.fn, ?_, ?_, ?_, ?_, hs.cm⟩, hext0, hk0, hro0⟩
      · simp only [hat.md, MdR]; rfl
      · simp only [hat.md]
        exact hcont E s.V .undef undef _ (.refl E) (fun _ => rfl) rv_undef
      · simp only [Frame.atR, put_defers]; exact ⟨_, _, rfl, h2, hs.df⟩
      · simp only [hro]; exact hro'
    · cases h
  · rename_i hex
    obtain ⟨c, args, hop0, hcal⟩ := exec_rcv hex
    have key : ∀ (v : AV) (cm' : Option AMode), isGd v = false → s.ro = none →
        (∀ E fr cs0 cs, StR X P A M F C E s fr cs0 cs → ∃ y cs', (tryRecover fr cs = some (y, cs') ∨ (tryRecover fr cs = none ∧ y = .nilIface ∧ cs' = cs)) ∧ RV0 X E v y ∧
          (match cm' with | none => fr.kind = .normal ∧ cs' = cs0 | some m => fr.kind = .deferred ∧ ∃ c k m', cs0 = c :: k ∧ cs' = { c with mode := m' } :: k ∧ MdR X E m m')) →
        AW X P A M F C s (· = { s with todo := .ops p rest :: k, fr := put s.fr o.dst v, cm := cm' }) := by
      intro v cm' hgd hro hrec E0 fr0 cs0 cs w0 hi0 hs0
      obtain ⟨E, fr, w, hst0, hi, hs, hext0, hk0, hro0, hat⟩ := ha E0 fr0 cs0 cs w0 hi0 hs0
      obtain ⟨ops, idx, k', ht, hop, hw, hcont⟩ := hat.todo
      have hro' := hs.ro
      simp only [hro] at hro'
      have hnd : ∀ c, o.op ≠ .defer c := by intro c' hc'; rw [hop0] at hc'; cases hc'
      have hg := stepGR_op (P := P) (b := fr) (a := ⟨fr.tmps, fr.defers⟩) (k := k') (cs := cs) (w := w) (rest := idx) hop hw
      rw [← ht, ← frame_run hat.mode, Oper.semAt_eq _ _ _ hnd] at hg
      have hexec : (execOp (Act.eval ⟨fr.tmps, fr.defers⟩) o).run P w = .ok .recover w := by
        simp [execOp, hop0, resolve, hcal, invoke, builtin]
      obtain ⟨y, cs', hy, hv, hcm⟩ := hrec E fr cs0 cs hs
      have hfin : fr.finish y = fr.atR ((⟨fr.tmps, fr.defers⟩ : Act).put o.dst y) (.inRegion ops idx :: k') := by
        have := Frame.finish_atR fr ⟨fr.tmps, fr.defers⟩ ops i idx k' y
        rw [← ht, ← frame_run hat.mode, hop] at this; exact this
      have hst : Go.step P (lone fr cs w) = .next (lone (fr.finish y) cs' w) := by
        refine step_lone_go ?_
        rw [hg]
        rcases hy with hy | ⟨hy, rfl, rfl⟩
        · simp [stepG.apply, hexec, hro', hy]
        · simp [stepG.apply, hexec, hro', hy]
      rw [hfin] at hst
      refine ⟨_, E, _, cs', w, rfl, hst0.trans (.one hst), hi, ⟨hs.fn, ?_, ?_, ?_, ?_, hcm⟩, hext0, hk0, hro0⟩
      · simp only [hat.md, MdR]; rfl
      · simp only [hat.md]
        exact hcont E s.V v y _ (.refl E) (fun _ => rfl) (RV.of hv (isGd_false hgd))
      · simp only [Frame.atR, put_defers]; exact hs.df
      · simp only [hro]; exact hro'
    split at h
    · rename_i v older hro hcm
      split at h
      · rename_i hgd
        cases h
        refine key v _ hgd hro fun E fr cs0 cs hs => ?_
        have hc := hs.cm
        rw [hcm] at hc
        obtain ⟨hk, c, k, m', rfl, rfl, l, rfl, y, l', rfl, h2, h3, h4, h5⟩ := hc
        obtain ⟨yv, yr, yg⟩ := y
        simp only at h2 h3 h4; subst h3 h4
        exact ⟨yv, _, .inl (by simp [tryRecover, hk]), h2, hk, c, k, _, rfl, rfl, _, rfl, ⟨yv, true, false⟩, l', rfl, h2, rfl, rfl, h5⟩
      · cases h
    · rename_i hro hcm
      cases h
      refine key _ s.cm rfl hro fun E fr cs0 cs hs => ⟨.nilIface, cs, ?_, rv_nili.2 rfl, hs.cm⟩
      right
      refine ⟨?_, rfl, rfl⟩
      have hc := hs.cm
      cases hq : s.cm with
      | none =>
        rw [hq] at hc
        simp [tryRecover, hc.1]
      | some m =>
        rw [hq] at hc
        obtain ⟨hk, c, k, m', rfl, rfl, hm⟩ := hc
        cases m with
        | run => simp only [MdR] at hm; subst hm; simp [tryRecover, hk]
        | ret => simp only [MdR] at hm; subst hm; simp [tryRecover, hk]
        | pan ch =>
          obtain ⟨l, rfl, hch⟩ := hm
          cases ch with
          | nil => simp only [ChR] at hch; subst hch; simp [tryRecover, hk]
          | cons a ch =>
            obtain ⟨v, b⟩ := a
            obtain ⟨y, l', rfl, h2, h3, h4, h5⟩ := hch
            cases b with
            | false => exact absurd hq (hcm v ch)
            | true =>
              obtain ⟨yv, yr, yg⟩ := y
              simp only at h3; subst h3
              simp [tryRecover, hk]
    · cases h
  · cases h
  · cases h

end
end Go.Sk
