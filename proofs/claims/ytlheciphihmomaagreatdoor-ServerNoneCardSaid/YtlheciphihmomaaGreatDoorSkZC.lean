/- Sk, part ZC: runs of functions: entered, and left. -/
import Derived.Test.YtlheciphihmomaaGreatDoorSkZB
import Derived.Defers
set_option linter.all false
namespace Go.Sk
open Go

section
variable {X : Tb} {P : Program} {M : Mt} {F : FuncId} {C : Code} {A : Ari}

/-- How an activation's end is told. -/
def EndR (X : Tb) (P : Program) (E : Env) (w : World) (fr : Frame) : AE → Prop
  | .ret v => ∃ y, RV0 X E v y ∧ fr.leaving P w (.returned y)
  | .pan ch => ∃ l, ChR X E ch l ∧ fr.leaving P w (.panicked l)

/-- A function's contract: whatever the memory, it ends as Φ says. -/
def Runs (X : Tb) (P : Program) (f : FuncId) (args : List AV) (V : List AO) (Φ : AE → List AO → Prop) : Prop :=
  ∀ E w ys cs, Inv X P E V w → RVs X E args ys → ∃ e V' E' w' fr, Φ e V' ∧ Steps P (lone (Frame.enter P f ys.toArray .normal) cs w) (lone fr cs w') ∧ Inv X P E' V' w' ∧ Ext E w E' w' ∧ fr.fn = f ∧ EndR X P E' w' fr e

def noGds : List AV → Bool
  | [] => true
  | v :: l => !isGd v && noGds l

theorem noGds_get : ∀ {l : List AV}, noGds l = true → ∀ i, isGd (lget l i) = false
  | [], _, i => rfl
  | v :: l, h, 0 => by simp only [noGds, Bool.and_eq_true, Bool.not_eq_true'] at h; exact h.1
  | v :: l, h, i + 1 => by simp only [noGds, Bool.and_eq_true] at h; exact noGds_get h.2 i

/-- The frame of a call, as the stepper has it. -/
def frame0 (args : List AV) (n : Nat) : List AV := args ++ lrep (n - llen args) .undef

theorem frame0_ok {E : Env} {args : List AV} {ys : List Value} (h : RVs X E args ys) (hg : noGds args = true) (n : Nat) : FrX X E (frame0 args n) (ys.toArray ++ Array.replicate (n - ys.length) undef) [] := by
  have hl := h.length
  refine ⟨by simp [frame0, lrep_eq, llen_eq, hl], fun i hi _ => ?_⟩
  by_cases hlt : i < args.length
  · obtain ⟨y, hy, hv⟩ := h.get i hlt
    have h1 : lget (frame0 args n) i = lget args i := lget_of (by rw [frame0, List.getElem?_append_left hlt]; exact lget_some hlt)
    have h2 : (ys.toArray ++ Array.replicate (n - ys.length) undef).getD i undef = y := by
      have hlt' : i < ys.length := by omega
      rw [Array.getD_eq_getD_getElem?, Array.getElem?_append_left (by simpa using hlt')]
      simp [hy]
    rw [h1, h2]; exact RV.of hv (isGd_false (noGds_get hg i))
  · have h1 : lget (frame0 args n) i = .undef := by
      rw [lget_eq, frame0, lrep_eq, List.getD_eq_getElem?_getD, List.getElem?_append_right (by omega), List.getElem?_replicate]
      split <;> rfl
    rw [h1]; exact rv_undef

def start (args : List AV) (n : Nat) (V : List AO) : St := ⟨[.c []], frame0 args n, V, [], .run, none, none⟩

theorem start_ok {E : Env} {args : List AV} {ys : List Value} {V : List AO} {fn : Func} {cs : List Frame} (hf : P.funcs[F]? = some fn) (hb : fn.body = some C) (h : RVs X E args ys) (hg : noGds args = true) :
    StR X P A M F C E (start args fn.ntmps V) (Frame.enter P F ys.toArray .normal) cs cs := by
  have he : Frame.enter P F ys.toArray .normal = { fn := F, tmps := ys.toArray ++ Array.replicate (fn.ntmps - ys.length) undef, todo := [.code C], defers := [], mode := .run, kind := .normal } := by
    simp [Frame.enter, hf, hb]
  rw [he]
  exact ⟨rfl, rfl, .plain (frame0_ok h hg _) ⟨_, [], rfl, .c rfl, rfl⟩, rfl, rfl, rfl, rfl⟩

/-- What a function hands back. -/
def resAVs (A : Ari) (X : Tb) (fr : List AV) (V : List AO) : List ResultVar → Option (List AV × List Bool)
  | [] => some ([], [])
  | .tmp t :: r => match resAVs A X fr V r with
    | some (l, o) => some (strip (lget fr t) :: l, stripO A (lget fr t) ++ o)
    | none => none
  | .cell a t :: r => match loadAV A X V t (strip (lget fr a)), resAVs A X fr V r with
    | some v, some (l, o) => some (v :: l, stripO A (lget fr a) ++ o)
    | _, _ => none

def resAV : List AV → AV
  | [v] => v
  | l => .tup l

theorem FrX.at {E : Env} {fr : List AV} {tmps : Array Value} (hf : FrX X E fr tmps []) (t : Nat) (ho : Obl (stripO A (lget fr t))) : RV0 X E (strip (lget fr t)) (tmps.getD t undef) := by
  by_cases ht : t < fr.length
  · exact strip_ok (hf.2 t ht rfl) ho
  · have : lget fr t = .undef := by rw [lget_eq]; simp [List.getD, List.getElem?_eq_none (Nat.not_lt.1 ht)]; rfl
    rw [this]; exact rv_undef

theorem asAddr_of {t : Nat} {y u : Value} {w : World} (h : (Instr.loadAt t y).run P w = .ok u w) : (do loadVar t (← asAddr y) : Sem Value).run P w = .ok u w := by
  revert h
  cases y with
  | pointer a => cases a with
    | none => intro h; simp [Instr.loadAt, Instr.sureAddr, runtimePanic, goPanic] at h
    | some a => intro h; simpa [Instr.loadAt, Instr.sureAddr, asAddr] using h
  | _ => intro h; simp [Instr.loadAt, Instr.sureAddr, stuck] at h

theorem resAVs_ok (hX : TbOK X P) {E : Env} {w : World} {V : List AO} {fr : List AV} {tmps : Array Value} (hi : Inv X P E V w) (hf : FrX X E fr tmps []) : ∀ (l : List ResultVar) (vs : List AV) (o : List Bool), resAVs A X fr V l = some (vs, o) → Obl o →
    ∃ ys, (l.mapM fun | .tmp t => pure (tmps.getD t undef) | .cell a t => do loadVar t (← asAddr (tmps.getD a undef)) : Sem (List Value)).run P w = .ok ys w ∧ RVs X E vs ys
  | [], vs, o, h, ho => by
    simp only [resAVs, Option.some.injEq, Prod.mk.injEq] at h; obtain ⟨rfl, rfl⟩ := h
    exact ⟨[], by simp, by simp [RVs]⟩
  | .tmp t :: r, vs, o, h, ho => by
    simp only [resAVs] at h
    split at h
    · rename_i l o1 hr
      cases h
      rw [Obl_append] at ho
      obtain ⟨ys, h1, h2⟩ := resAVs_ok hX hi hf r l o1 hr ho.2
      exact ⟨_ :: ys, by simp only [List.mapM_cons, Sem.run_bind, Sem.run_pure, Result.andThen, h1], RVs.cons_iff.2 ⟨_, _, rfl, hf.at t ho.1, h2⟩⟩
    · cases h
  | .cell a t :: r, vs, o, h, ho => by
    simp only [resAVs] at h
    split at h
    · rename_i v l o1 hv hr
      cases h
      rw [Obl_append] at ho
      obtain ⟨ys, h1, h2⟩ := resAVs_ok hX hi hf r l o1 hr ho.2
      obtain ⟨u, h3, h4⟩ := load_ok hX hi hv (hf.at a ho.1)
      have h5 := asAddr_of h3
      refine ⟨u :: ys, ?_, RVs.cons_iff.2 ⟨_, _, rfl, h4, h2⟩⟩
      simp only [List.mapM_cons, Sem.run_bind]
      simp only [Sem.run_bind] at h5
      rw [h5]; simp only [Result.andThen, Sem.run_bind, Sem.run_pure, h1]
    · cases h

theorem results_ok (hX : TbOK X P) {E : Env} {w : World} {V : List AO} {fr : List AV} {tmps : Array Value} {fn : Func} {vs : List AV} {o : List Bool} (hi : Inv X P E V w) (hf : FrX X E fr tmps []) (h : resAVs A X fr V fn.results.toList = some (vs, o)) (ho : Obl o) :
    ∃ y, (results fn tmps).run P w = .ok y w ∧ RV0 X E (resAV vs) y := by
  obtain ⟨ys, h1, h2⟩ := resAVs_ok hX hi hf _ _ _ h ho
  have hl := h2.length
  have h3 : (fn.results.mapM fun | .tmp t => pure (tmps.getD t undef) | .cell a t => do loadVar t (← asAddr (tmps.getD a undef)) : Sem (Array Value)).run P w = .ok ys.toArray w := by
    rw [Array.mapM_eq_mapM_toList]; simp only [Sem.run_map]; rw [h1]; rfl
  have hres : (results fn tmps).run P w = .ok (if h : ys.toArray.size = 1 then ys.toArray[0] else .tuple ys.toArray) w := by
    unfold results
    rw [Sem.run_bind]
    exact (congrArg (fun r => Result.andThen r (fun vs w => (pure (if h : vs.size = 1 then vs[0] else Value.tuple vs) : Sem Value).run P w)) h3).trans rfl
  refine ⟨_, hres, ?_⟩
  clear h h1 h3 hres ho
  match vs, ys, hl, h2 with
  | [], [], _, h2 => exact rv_tup.2 ⟨[], rfl, h2⟩
  | [v], [y], _, h2 =>
    obtain ⟨y', r, e, h3, _⟩ := RVs.cons_iff.1 h2
    cases e
    simpa [resAV] using h3
  | v :: v2 :: l, y :: y2 :: r, _, h2 => simp only [List.size_toArray, List.length_cons]; rw [dif_neg (by omega)]; exact rv_tup.2 ⟨_, rfl, h2⟩

/-- The end of a walk, and what it hands back. -/
def EndS (A : Ari) (X : Tb) (fn : Func) (s : St) (Φ : AE → List AO → Prop) : Prop :=
  s.df = [] ∧ match s.md with
    | .run => False
    | .ret => ∃ vs o, resAVs A X s.fr s.V fn.results.toList = some (vs, o) ∧ Obl o ∧ Φ (.ret (resAV vs)) s.V
    | .pan ch => Φ (.pan ch) s.V

/-- A function runs as its body's walk says. -/
theorem Runs.of (hX : TbOK X P) {args : List AV} {V : List AO} {Φ : AE → List AO → Prop} {fn : Func} (hf : P.funcs[F]? = some fn) (hb : fn.body = some C) (hg : noGds args = true)
    (h : AW X P A M F C (start args fn.ntmps V) fun s => s.cm = none ∧ EndS A X fn s Φ) : Runs X P F args V Φ := by
  intro E w ys cs hi hys
  obtain ⟨s, E', fr, cs', w', ⟨hcm0, hdf, hmd⟩, h1, h2, h3, h4, h5, h6⟩ := h E _ cs cs w hi (start_ok hf hb hys hg)
  have hcm := h3.cm
  simp only [hcm0] at hcm
  obtain ⟨_, rfl⟩ := hcm
  have hdd := h3.df
  rw [hdf] at hdd
  simp only [DfsR] at hdd
  have hm := h3.md
  have ht := h3.todo
  cases hq : s.md with
  | run => rw [hq] at hmd; exact hmd.elim
  | ret =>
    rw [hq] at hmd hm
    simp only [hq] at ht
    obtain ⟨vs, o, h7, h8, h9⟩ := hmd
    obtain ⟨y, h10, h11⟩ := results_ok hX h2 ht h7 h8
    exact ⟨_, _, E', w', fr, h9, h1, h2, h4, h3.fn, y, h11, hm, hdd, h5, fn, by rw [h3.fn]; exact hf, h10⟩
  | pan ch =>
    rw [hq] at hmd hm
    obtain ⟨l, h7, h8⟩ := hm
    exact ⟨_, _, E', w', fr, hmd, h1, h2, h4, h3.fn, l, h8, h7, hdd, fn, by rw [h3.fn]; exact hf⟩

/-- A function that is entered when it is called. -/
def bodyOK (P : Program) (g : FuncId) : Prop := ∃ fn, P.funcs[g]? = some fn ∧ fn.body.isSome = true ∧ (fn.name == "runtime.NumGoroutine") = false

theorem callFunc_body {g : FuncId} (hb : bodyOK P g) (args : Array Value) (w : World) : (callFunc g args).run P w = .ok (.enter g args) w := by
  obtain ⟨fn, hfn, hbd, hnm⟩ := hb
  have hbn : ¬ fn.body = none := by intro hq; rw [hq] at hbd; cases hbd
  have hnm' : ¬ fn.name = "runtime.NumGoroutine" := by intro hq; rw [hq] at hnm; simp at hnm
  simp [callFunc, hfn]
  rw [if_neg hnm', if_neg hbn]

theorem Runs.mono {f : FuncId} {args : List AV} {V : List AO} {Ψ Ψ' : AE → List AO → Prop} (h : Runs X P f args V Ψ) (hm : ∀ e V', Ψ e V' → Ψ' e V') : Runs X P f args V Ψ' := by
  intro E w ys cs hi hys
  obtain ⟨e, V', E', w', fr, h1, h2⟩ := h E w ys cs hi hys
  exact ⟨e, V', E', w', fr, hm _ _ h1, h2⟩

/-- A function's contract as what its call does. -/
theorem Runs.does {g : FuncId} {a c args : List AV} {V : List AO} {Φ : AE → List AO → Prop} (hb : bodyOK P g) (h : Runs X P g (a ++ args ++ c) V Φ) : Does X P (.fn g a c) args V Φ := by
  intro E w v ys hi hv hys
  obtain ⟨a', c', rfl, h2, h3⟩ := rv_fn.1 hv
  refine ⟨.enter g (a' ++ ys ++ c').toArray, w, ?_, .inr ⟨rfl, _, rfl, fun fc cs => ?_⟩⟩
  · simp [Deferred.ofValue, invoke, callFunc_body hb]
  · obtain ⟨e, V', E', w', fr, g1, g2, g3, g4, g5, g6⟩ := h E w (a' ++ ys ++ c') (fc :: cs) hi (RVs.append (RVs.append h2 hys) h3)
    refine ⟨e, V', E', w', g1, g3, g4, ?_⟩
    cases e with
    | ret v => obtain ⟨y, hy, hl⟩ := g6; exact ⟨y, hy, g2.trans (.one (step_leave_returned hl))⟩
    | pan ch => obtain ⟨l, hy, hl⟩ := g6; exact ⟨l, hy, g2.trans (.one (step_leave_panicked hl))⟩

/-- The caller's mode behind a deferred call. -/
def settleA : AMode → AMode
  | .pan ((_, true) :: _) => .ret
  | m => m
def raisedA (m : AMode) (ch : List (AV × Bool)) : AMode :=
  match m with
  | .pan old => .pan (ch ++ old)
  | _ => .pan ch

theorem ChR.drop {E : Env} : ∀ {ch : List (AV × Bool)} {l : List PanicEntry}, ChR X E ch l → l.dropWhile (fun e => !e.goexit) = []
  | [], l, h => by simp only [ChR] at h; subst h; rfl
  | x :: r, l, h => by
    obtain ⟨y, k, rfl, _, _, h3, h4⟩ := h
    simp only [List.dropWhile_cons, h3, Bool.not_false, if_true]
    exact h4.drop

theorem ChR.append {E : Env} : ∀ {ch ch' : List (AV × Bool)} {l l' : List PanicEntry}, ChR X E ch l → ChR X E ch' l' → ChR X E (ch ++ ch') (l ++ l')
  | [], _, l, _, h, h' => by simp only [ChR] at h; subst h; exact h'
  | x :: r, _, l, _, h, h' => by
    obtain ⟨y, k, rfl, h1, h2, h3, h4⟩ := h
    exact ⟨y, _, rfl, h1, h2, h3, h4.append h'⟩

theorem settle_ok {E : Env} {m : AMode} {u : FrameMode} (h : MdR X E m u) : MdR X E (settleA m) (settle u) := by
  cases m with
  | run => simp only [MdR] at h; subst h; rfl
  | ret => simp only [MdR] at h; subst h; rfl
  | pan ch =>
    obtain ⟨l, rfl, h⟩ := h
    cases ch with
    | nil => simp only [ChR] at h; subst h; exact ⟨[], rfl, rfl⟩
    | cons x r =>
      obtain ⟨v, b⟩ := x
      obtain ⟨y, k, rfl, h1, h2, h3, h4⟩ := h
      obtain ⟨yv, yr, yg⟩ := y
      simp only at h1 h2 h3; subst h2 h3
      cases yr with
      | true =>
        have hd : List.dropWhile (fun x => !x.goexit) k = [] := h4.drop
        simp only [settleA, settle, MdR]
        rw [hd]
      | false => exact ⟨_, rfl, ⟨yv, false, false⟩, k, rfl, h1, rfl, rfl, h4⟩

theorem raised_ok {E : Env} {m : AMode} {u : FrameMode} {ch : List (AV × Bool)} {l : List PanicEntry} (h : MdR X E m u) (hc : ChR X E ch l) : MdR X E (raisedA m ch) (raised u l) := by
  cases m with
  | run => simp only [MdR] at h; subst h; exact ⟨l, rfl, hc⟩
  | ret => simp only [MdR] at h; subst h; exact ⟨l, rfl, hc⟩
  | pan old =>
    obtain ⟨l0, rfl, h⟩ := h
    exact ⟨_, rfl, hc.append h⟩

/-- The caller's mode behind a deferred call that ended so. -/
def afterD (m : AMode) : AE → AMode
  | .ret _ => settleA m
  | .pan ch => raisedA m ch

/-- A deferred call's contract: what it leaves, and its caller's mode. -/
def RunsD (X : Tb) (P : Program) (g : FuncId) (args : List AV) (V : List AO) (m : AMode) (Φ : List AO → AMode → Prop) : Prop :=
  ∀ E w ys c cs, Inv X P E V w → RVs X E args ys → MdR X E m c.mode → ∃ V' m' E' w' u, Φ V' m' ∧ Inv X P E' V' w' ∧ Ext E w E' w' ∧ MdR X E' m' u ∧
    Steps P (lone (Frame.enter P g ys.toArray .deferred) (c :: cs) w) (lone { c with mode := u } cs w')

theorem startD_ok {E : Env} {args : List AV} {ys : List Value} {V : List AO} {fn : Func} {c : Frame} {cs : List Frame} {m : AMode} (hf : P.funcs[F]? = some fn) (hb : fn.body = some C) (h : RVs X E args ys) (hg : noGds args = true) (hm : MdR X E m c.mode) :
    StR X P A M F C E { start args fn.ntmps V with cm := some m } (Frame.enter P F ys.toArray .deferred) (c :: cs) (c :: cs) := by
  have he : Frame.enter P F ys.toArray .deferred = { fn := F, tmps := ys.toArray ++ Array.replicate (fn.ntmps - ys.length) undef, todo := [.code C], defers := [], mode := .run, kind := .deferred } := by
    simp [Frame.enter, hf, hb]
  rw [he]
  exact ⟨rfl, rfl, .plain (frame0_ok h hg _) ⟨_, [], rfl, .c rfl, rfl⟩, rfl, rfl, rfl, c, cs, c.mode, rfl, rfl, hm⟩

theorem RunsD.of (hX : TbOK X P) {args : List AV} {V : List AO} {m : AMode} {Φ : List AO → AMode → Prop} {fn : Func} (hf : P.funcs[F]? = some fn) (hb : fn.body = some C) (hg : noGds args = true)
    (h : AW X P A M F C { start args fn.ntmps V with cm := some m } fun s => ∃ m1, s.cm = some m1 ∧ EndS A X fn s fun e V' => Φ V' (afterD m1 e)) : RunsD X P F args V m Φ := by
  intro E w ys c cs hi hys hmc
  obtain ⟨s, E', fr, cs', w', ⟨m1, hcm0, hdf, hmd⟩, h1, h2, h3, h4, h5, h6⟩ := h E _ (c :: cs) (c :: cs) w hi (startD_ok hf hb hys hg hmc)
  have hcm := h3.cm
  simp only [hcm0] at hcm
  obtain ⟨hkind, c', k', u, e1, rfl, hu⟩ := hcm
  cases e1
  have hdd := h3.df
  rw [hdf] at hdd
  simp only [DfsR] at hdd
  have hm := h3.md
  have ht := h3.todo
  cases hq : s.md with
  | run => rw [hq] at hmd; exact hmd.elim
  | ret =>
    rw [hq] at hmd hm
    simp only [hq] at ht
    obtain ⟨vs, o, h7, h8, h9⟩ := hmd
    obtain ⟨y, h10, h11⟩ := results_ok hX h2 ht h7 h8
    have hgo : fr.going P w' (.returned y) := ⟨hm, hdd, fn, by rw [h3.fn]; exact hf, h10⟩
    exact ⟨_, _, E', w', _, h9, h2, h4, settle_ok hu, h1.trans (.one (step_going_returned hkind hgo))⟩
  | pan ch =>
    rw [hq] at hmd hm
    obtain ⟨l, h7, h8⟩ := hm
    have hgo : fr.going P w' (.panicked l) := ⟨h7, hdd, fn, by rw [h3.fn]; exact hf⟩
    exact ⟨_, _, E', w', _, hmd, h2, h4, raised_ok hu h8, h1.trans (.one (step_going_panicked hgo))⟩

end
end Go.Sk
