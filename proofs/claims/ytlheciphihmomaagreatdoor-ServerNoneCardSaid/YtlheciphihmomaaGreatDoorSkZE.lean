/- Sk, part ZE: the records of loops over functions. -/
import Derived.Test.YtlheciphihmomaaGreatDoorSkZD
import Derived.RangeFuncIn
import Derived.RangeFuncRecord
set_option linter.all false
namespace Go.Sk
open Go

section
variable {X : Tb} {P : Program} {M : Mt} {F : FuncId} {C : Code} {A : Ari} {E : Env} {V : List AO} {w : World}

theorem kept_putObj {b : Nat} {x : Obj} {o' : Obj} (hb : w.heap[b]? = some x) (hx : isCells x = false) (ho : isCells o' = false) {O : Nat → Nat → Prop} (hO : ∀ o, O b o) : Kept O w (w.putObj b o') := by
  have hlt := (Array.getElem?_eq_some_iff.1 hb).1
  refine ⟨by simp [World.putObj], rfl, rfl, rfl, ?_, ?_⟩
  · intro b' c t fz h
    by_cases he : b' = b
    · subst he; rw [hb] at h; cases h; cases hx
    · exact ⟨c, fz, by rw [World.putObj_heap_other he]; exact h, rfl, fun _ _ => rfl, fun _ => rfl, fun h => h⟩
  · intro b' y h hy
    by_cases he : b' = b
    · subst he
      exact ⟨o', World.putObj_heap_same hlt, ho, fun ⟨o, hn⟩ => absurd (hO o) hn⟩
    · exact ⟨y, by rw [World.putObj_heap_other he]; exact h, hy, fun _ => rfl⟩

theorem Inv.loopAt (hi : Inv X P E V w) {r b : Nat} {L : ALoop} (hg : E.ρ[r]? = some (.loop b)) (hV : lget V r = .loop L) :
    ∃ R, w.heap[b]? = some (.loop R) ∧ LoopOK X P E L R ∧ ∀ L' R', LoopOK X P E L' R' → Inv X P E (lset V r (.loop L')) (w.putObj b (.loop R')) ∧ Ext E w E (w.putObj b (.loop R')) := by
  obtain ⟨R, h1, h2⟩ := hi.slot r _ _ hg (lget_there hV AO.ne_default_loop)
  refine ⟨R, h1, h2, fun L' R' h => ?_⟩
  rw [lset_eq]
  exact hi.putIn hg (kept_putObj h1 rfl rfl fun o => by simp [own]) ⟨R', World.putObj_heap_same (Array.getElem?_eq_some_iff.1 h1).1, h⟩

theorem LoopOK.state' {L : ALoop} {R : Loop} (h : LoopOK X P E L R) (st : LoopState) : LoopOK X P E { L with state := st } { R with state := st } :=
  ⟨rfl, h.pend, h.fn, h.ps, h.fr, h.code, h.df⟩

/-- A round begins. -/
theorem beg_ok {s : St} {k : List It} {r : Nat} {L : ALoop} (hmd : s.md = .run) (htd : s.todo = .beg :: k) (hro : s.ro = some r) (hV : lget s.V r = .loop L) (hst : L.state = .ready) :
    AW X P A M F C s (· = { s with todo := k, V := lset s.V r (.loop { L with state := .busy }) }) := by
  intro E fr cs0 cs w hi hs
  have hm := hs.md
  rw [hmd] at hm
  simp only [MdR] at hm
  have ht := hs.todo
  simp only [hmd] at ht
  have hr := hs.ro
  simp only [hro] at hr
  obtain ⟨l, hr1, hr2⟩ := hr
  obtain ⟨hf, ht⟩ := (noOg.of htd (by intro _ _ h; cases h) (by intro _ h; cases h)).todo ht
  · rw [htd] at ht
    obtain ⟨z, k', he, h3, h4⟩ := ht
    cases h3
    obtain ⟨R, h5, h6, h7⟩ := hi.loopAt hr2 hV
    have hrun := run_beginRound (P := P) h5 (by rw [h6.state]; exact hst)
    obtain ⟨h8, h9⟩ := h7 _ _ (h6.state' .busy)
    have hstep := stepR_beginRound (P := P) (b := fr) (a := ⟨fr.tmps, fr.defers⟩) (k := k') (cs := cs) hr1 hrun
    rw [← he, ← frame_run hm] at hstep
    refine ⟨_, E, _, cs, _, rfl, .one hstep, h8, ⟨hs.fn, ?_, ?_, hs.df, ?_, hs.cm⟩, h9, rfl, rfl⟩
    · simp only [hmd, MdR]; rfl
    · simp only [hmd]; exact .plain hf h4
    · simp only [hro]; exact ⟨l, hr1, hr2⟩

/-- A loop over a function has ended. -/
theorem erf_ok {s s' : St} {k : List It} {r : Nat} {L : ALoop} {ob : List Bool} (hmd : s.md = .run) (htd : s.todo = .erf r :: k) (hV : lget s.V r = .loop L) (hst : L.state ≠ .busy)
    (h : (match L.pend with
      | none => Rs.go { s with todo := k, V := lset s.V r (.loop { L with state := .exhausted }) } []
      | some j => jumpTo C { s with todo := k, V := lset s.V r (.loop { L with state := .exhausted }) } k j) = .go s' ob) : AW X P A M F C s (· = s') := by
  intro E fr cs0 cs w hi hs
  have hm := hs.md
  rw [hmd] at hm
  simp only [MdR] at hm
  have ht := hs.todo
  simp only [hmd] at ht
  obtain ⟨hf, ht⟩ := (noOg.of htd (by intro _ _ h; cases h) (by intro _ h; cases h)).todo ht
  · rw [htd] at ht
    obtain ⟨z, k', he, h3, h4⟩ := ht
    cases h3 with
    | erf hg =>
      rename_i b
      obtain ⟨R, h5, h6, h7⟩ := hi.loopAt hg hV
      have hrun := run_endLoop (P := P) h5 (by rw [h6.state]; exact hst)
      obtain ⟨h8, h9⟩ := h7 _ _ (h6.state' .exhausted)
      replace hrun : (Instr.endLoop b).run P w = .ok (L.pend.map jumpOf) (w.putObj b (.loop { R with state := .exhausted })) := by rw [← h6.pend]; exact hrun
      clear h7
      generalize w.putObj b (.loop { R with state := .exhausted }) = w1 at hrun h8 h9
      generalize lset s.V r (.loop { L with state := .exhausted }) = V1 at h h8
      have hstep := stepR_endRangeFunc (P := P) (b := fr) (a := ⟨fr.tmps, fr.defers⟩) (k := k') (cs := cs) hrun
      rw [← he, ← frame_run hm] at hstep
      cases hp : L.pend with
      | none =>
        rw [hp] at h hstep
        cases h
        simp only [Option.map_none, Option.toList_none, List.nil_append] at hstep
        refine ⟨_, E, _, cs, _, rfl, .one hstep, h8, ⟨hs.fn, ?_, ?_, hs.df, hs.ro, hs.cm⟩, h9, rfl, rfl⟩
        · simp only [hmd, MdR]; rfl
        · simp only [hmd]; exact .plain hf h4
      | some j =>
        rw [hp] at h hstep
        simp only [Option.map_some, Option.toList_some, List.singleton_append] at hstep
        cases j with
        | ret =>
          simp only [jumpTo] at h
          split at h
          · rename_i hro
            cases h
            have hr := hs.ro
            simp only [hro] at hr
            have h2 := stepR_ret (P := P) (b := fr) (a := ⟨fr.tmps, fr.defers⟩) (k := k') (cs := cs) (w := w1) hr
            refine ⟨_, E, _, cs, _, rfl, .head hstep (.one h2), h8, ⟨hs.fn, ?_, ?_, hs.df, ?_, hs.cm⟩, h9, rfl, rfl⟩
            · simp only [MdR]
            · exact hf
            · simp only [hro]; exact hr
          · cases h
        | exit id =>
          simp only [jumpTo] at h
          split at h
          · rename_i k2 hk
            cases h
            obtain ⟨y', g3, g4⟩ := exit_ok h4 hk
            have h2 := stepR_exit (P := P) (b := fr) (a := ⟨fr.tmps, fr.defers⟩) (k := k') (cs := cs) (w := w1) g3
            refine ⟨_, E, _, cs, _, rfl, .head hstep (.one h2), h8, ⟨hs.fn, ?_, ?_, hs.df, hs.ro, hs.cm⟩, h9, rfl, rfl⟩
            · simp only [hmd, MdR]; rfl
            · simp only [hmd]; exact .plain hf g4
          · split at h <;> cases h
        | goto l =>
          simp only [jumpTo] at h
          split at h
          · rename_i k2 hk
            cases h
            obtain ⟨y1, y', g3, g4, g5⟩ := goto_ok (P := P) h4 hk
            have h2 := stepR_goto (P := P) (b := fr) (a := ⟨fr.tmps, fr.defers⟩) (k := k') (cs := cs) (w := w1) g3
            refine ⟨_, E, _, cs, _, rfl, .head hstep (.head h2 (g5 fr ⟨fr.tmps, fr.defers⟩ cs _)), h8, ⟨hs.fn, ?_, ?_, hs.df, hs.ro, hs.cm⟩, h9, rfl, rfl⟩
            · simp only [hmd, MdR]; rfl
            · simp only [hmd]; exact .plain hf g4
          · split at h <;> cases h


/-- The block of a loop's deferred calls is taken: there are none. -/
theorem col_ok {s : St} {r : Nat} {ds : List AD} (hmd : s.md ≠ .run) (hdf : s.df = .col r :: ds) (hV : lget s.V r = .dfr true) : AW X P A M F C s (· = { s with df := ds, V := lset s.V r (.dfr false) }) := by
  intro E fr cs0 cs w hi hs
  have hd := hs.df
  rw [hdf] at hd
  obtain ⟨d, k, hfd, ⟨b, hg, ht, _⟩, hk⟩ := hd
  have hVr : s.V[r]? = some (.dfr true) := lget_there hV (by intro h; cases h)
  have hw : w.heap[b]? = some (.deferred (some [])) := hi.slot r _ _ hg hVr
  have hm := hs.md
  have hmr : fr.mode ≠ .run := by
    intro he
    rw [he] at hm
    cases hq : s.md with
    | run => exact hmd hq
    | ret => rw [hq] at hm; simp [MdR] at hm
    | pan ch => rw [hq] at hm; obtain ⟨l, h, _⟩ := hm; cases h
  have hst := step_collected (P := P) (cs := cs) hmr hfd ht (run_takeDeferred hw)
  have hput := hi.putIn (o' := .dfr false) hg (kept_putObj (o' := .deferred none) hw rfl rfl fun o => by simp [own]) (by simp only [SlotOK]; exact World.putObj_heap_same (Array.getElem?_eq_some_iff.1 hw).1)
  rw [← lset_eq] at hput
  refine ⟨_, E, _, cs, _, rfl, .one hst, hput.1, ⟨hs.fn, hs.md, ?_, ?_, hs.ro, hs.cm⟩, hput.2, rfl, rfl⟩
  · have ht := hs.todo
    cases hq : s.md with
    | run => exact absurd hq hmd
    | ret => simpa only [hq] using ht
    | pan ch => simpa only [hq] using ht
  · simpa using hk

/-- A round is over. -/
theorem rend_ok {s : St} {k : List It} {j : AJ} {z : Pz} {ob : List Bool} {p : List Nat} {Φ : St → Prop} (h : jumpTo C s k j = .pz z ob) (hmd : s.md = .run) (htd : s.todo = .c p :: k) (hc : sub p C = some (jumpOf j)) (hz : Pz.ok X P A M F C z Φ) : AW X P A M F C s Φ := by
  have go : ∀ {j : AJ}, sub p C = some (jumpOf j) → (∀ E (y : List Item), ItsR C E k y → match j with | .ret => True | .exit id => exitTo id y = none | .goto l => gotoIn l y = none) → Φ { s with todo := [.rend (some j)] } → AW X P A M F C s Φ := by
    intro j hc hj hΦ E fr cs0 cs w hi hs
    have ht := hs.todo
    simp only [hmd] at ht
    obtain ⟨hf, ht⟩ := (noOg.of htd (by intro _ _ h; cases h) (by intro _ h; cases h)).todo ht
    rw [htd] at ht
    obtain ⟨y, k', he, h1, h2⟩ := ht
    cases h1 with
    | c hc' =>
      rw [hc] at hc'; cases hc'
      refine ⟨_, E, fr, cs, w, hΦ, .refl P _, hi, ⟨hs.fn, hs.md, ?_, hs.df, hs.ro, hs.cm⟩, .refl E w, rfl, rfl⟩
      simp only [hmd]
      refine .rend hf rfl ?_
      have := hj E k' h2
      cases j with
      | ret => exact ⟨k', he⟩
      | exit id => exact ⟨k', he, this⟩
      | goto l => exact ⟨k', he, this⟩
  cases j with
  | ret =>
    simp only [jumpTo] at h
    split at h
    · cases h
    · cases h; exact go hc (fun _ _ _ => trivial) hz
  | exit id =>
    simp only [jumpTo] at h
    split at h
    · cases h
    · rename_i hx
      split at h
      · cases h; exact hz.elim
      · cases h; exact go hc (fun E y hy => exit_none hy hx) hz
  | goto l =>
    simp only [jumpTo] at h
    split at h
    · cases h
    · rename_i hx
      split at h
      · cases h; exact hz.elim
      · cases h; exact go hc (fun E y hy => goto_none hy hx) hz

theorem rend0_ok {s : St} {r : Nat} {Φ : St → Prop} (hmd : s.md = .run) (htd : s.todo = []) (hz : Φ { s with todo := [.rend none] }) : AW X P A M F C s Φ := by
  intro E fr cs0 cs w hi hs
  have ht := hs.todo
  simp only [hmd] at ht
  obtain ⟨hf, ht⟩ := (noOg.nil htd).todo ht
  rw [htd] at ht
  refine ⟨_, E, fr, cs, w, hz, .refl P _, hi, ⟨hs.fn, hs.md, ?_, hs.df, hs.ro, hs.cm⟩, .refl E w, rfl, rfl⟩
  simp only [hmd]
  exact .rend hf rfl ht

/-- The parameters of a round. -/
def setps : List AV → List Nat → List AV → List AV
  | fr, t :: ts, v :: vs => setps (lset fr t v) ts vs
  | fr, _, _ => fr

theorem setps_ok : ∀ (ps : List Nat) (fr : List AV) (tmps : Array Value) (args : List AV) (ys : List Value), FrOK X E fr tmps → RVs X E args ys → noGds args = true →
    FrOK X E (setps fr ps args) ((ps.zip ys).foldl (fun tmps (t, a) => tmps.setIfInBounds t a) tmps)
  | [], fr, tmps, args, ys, hf, _, _ => by simpa [setps] using hf
  | t :: ps, fr, tmps, [], ys, hf, hy, _ => by simp only [RVs] at hy; subst hy; simpa [setps] using hf
  | t :: ps, fr, tmps, v :: args, ys, hf, hy, hg => by
    obtain ⟨y, r, rfl, h1, h2⟩ := RVs.cons_iff.1 hy
    simp only [noGds, Bool.and_eq_true, Bool.not_eq_true'] at hg
    simp only [setps, List.zip_cons_cons, List.foldl_cons]
    refine setps_ok ps _ _ args r ?_ h2 hg.2
    have : FrX X E (put fr (some t) v) ((⟨tmps, []⟩ : Act).put (some t) y).tmps [] := FrX.put (a := ⟨tmps, []⟩) ⟨hf.1, fun i hi _ => hf.2 i hi⟩ (RV.of h1 (isGd_false hg.1))
    exact this.ok

def startR (L : ALoop) (r : Nat) (args : List AV) (V : List AO) : St := ⟨[.c (L.pc ++ [0]), .beg, .c (L.pc ++ [1])], setps L.fr L.ps args, V, [], .run, none, some r⟩

/-- A call of yield: a round of the loop, by its walk. -/
theorem Does.round {r : Nat} {L : ALoop} {args : List AV} {Φ : AE → List AO → Prop} (hV : lget V r = .loop L) (hlen : args.length = L.ps.length) (hg : noGds args = true) (hC : codeOf P L.fn = some C)
    (h : AW X P A M L.fn C (startR L r args V) fun s => s.df = [] ∧ s.cm = none ∧ s.ro = some r ∧ match s.md with
      | .run => ∃ j L', s.todo = [.rend j] ∧ lget s.V r = .loop L' ∧ Φ (.ret (.d (.bool j.isNone))) (lset s.V r (.loop { L' with state := if j.isNone then .ready else .done, pend := j }))
      | .ret => False
      | .pan ch => Φ (.pan ch) s.V) : Does X P (.yield r) args V Φ := by
  intro E w v ys hi hv hys
  obtain ⟨cs1, hr1, hvo⟩ := hv
  simp only [R] at hr1
  obtain ⟨b, rfl, hρ⟩ := hr1
  simp only [VOf, AV.isAgg, List.cons.injEq, and_true] at hvo
  subst hvo
  obtain ⟨R, h1, h2, _⟩ := hi.loopAt hρ hV
  have hl := hys.length
  have hps : ys.toArray.size = R.params.size := by rw [List.size_toArray, hl, hlen, ← h2.ps]; simp
  have hrun : (do let d ← Deferred.ofValue (.func (.yield b) #[] #[]) ys.toArray; invoke d.target d.args : Sem Next).run P w = .ok (.round b R.fn ((R.params.zip ys.toArray).foldl (fun tmps (t, a) => tmps.setIfInBounds t a) R.tmps) R.assign R.body) w := by
    have := run_yield (P := P) h1 hps
    simp [Deferred.ofValue, invoke, this]
  have hcode := h2.code
  obtain ⟨c0, f0, hc0, hsub⟩ := hcode
  rw [hC] at hc0; cases hc0
  refine ⟨_, w, hrun, .inr ⟨rfl, _, rfl, fun c cs => ?_⟩⟩
  have hfold : (R.params.zip ys.toArray).foldl (fun tmps (x : Nat × Value) => tmps.setIfInBounds x.1 x.2) R.tmps = (L.ps.zip ys).foldl (fun tmps (x : Nat × Value) => tmps.setIfInBounds x.1 x.2) R.tmps := by
    rw [← h2.ps, ← Array.foldl_toList]; simp
  have hfr : FrOK X E (setps L.fr L.ps args) ((R.params.zip ys.toArray).foldl (fun tmps (t, a) => tmps.setIfInBounds t a) R.tmps) := by
    have := setps_ok L.ps L.fr R.tmps args ys h2.fr hys hg
    rw [hfold]; exact this
  have hstart : StR X P A M L.fn C E (startR L r args V) (Frame.round b R.fn ((R.params.zip ys.toArray).foldl (fun tmps (t, a) => tmps.setIfInBounds t a) R.tmps) R.assign R.body .normal) (c :: cs) (c :: cs) := by
    refine ⟨h2.fn, rfl, .plain ⟨hfr.1, fun i hi _ => hfr.2 i hi⟩ ?_, rfl, ⟨b, rfl, hρ⟩, rfl, rfl⟩
    exact ⟨_, _, rfl, .c (by rw [sub_snoc _ _ _ hsub]; rfl), _, _, rfl, .beg, _, _, rfl, .c (by rw [sub_snoc _ _ _ hsub]; rfl), rfl⟩
  obtain ⟨s, E', fr', cs', w', ⟨hdf, hcm0, hro0, hmd⟩, g1, g2, g3, g4, g5, g6⟩ := h E _ (c :: cs) (c :: cs) w hi hstart
  have hcm := g3.cm
  simp only [hcm0] at hcm
  obtain ⟨hk, rfl⟩ := hcm
  have hro := g3.ro
  simp only [hro0] at hro
  obtain ⟨b', hb', hρ'⟩ := hro
  have hdd := g3.df
  rw [hdf] at hdd
  simp only [DfsR] at hdd
  have hm := g3.md
  have ht := g3.todo
  cases hq : s.md with
  | ret => rw [hq] at hmd; exact hmd.elim
  | pan ch =>
    rw [hq] at hmd hm
    obtain ⟨l, h7, h8⟩ := hm
    have hfn : ∃ fn, P.funcs[fr'.fn]? = some fn := by
      rw [g3.fn]
      unfold codeOf at hC
      cases hq2 : P.funcs[L.fn]? with
      | none => rw [hq2] at hC; cases hC
      | some fn => exact ⟨fn, rfl⟩
    exact ⟨_, _, E', w', hmd, g2, g4, l, h8, g1.trans (.one (step_leave_panicked ⟨h7, hdd, hfn⟩))⟩
  | run =>
    rw [hq] at hmd hm
    simp only [hq] at ht
    simp only [MdR] at hm
    obtain ⟨j, L', htd, hV', hΦ⟩ := hmd
    obtain ⟨R', k1, k2, k3⟩ := g2.loopAt hρ' hV'
    have hend := run_endRound (P := P) (j.map jumpOf) k1
    have hjn : (j.map jumpOf).isNone = j.isNone := by cases j <;> rfl
    rw [hjn] at hend
    obtain ⟨m1, m2⟩ := k3 { L' with state := if j.isNone then .ready else .done, pend := j } { R' with state := if j.isNone then .ready else .done, pending := j.map jumpOf } ⟨rfl, rfl, k2.fn, k2.ps, k2.fr, k2.code, k2.df⟩
    refine ⟨_, _, E', _, hΦ, m1, g4.trans m2, .bool j.isNone, rv_bool.2 rfl, g1.trans (.one ?_)⟩
    have hrend : RendR fr'.todo j := by
      cases ht with
      | plain _ ht => rw [htd] at ht; obtain ⟨y, k, _, h, _⟩ := ht; cases h
      | og _ ht => rw [htd] at ht; cases ht
      | dr ht => rw [htd] at ht; cases ht
      | rend _ ht hr => rw [htd] at ht; cases ht; exact hr
    rw [frame_run hm]
    cases j with
    | none =>
      simp only [RendR] at hrend
      rw [hrend]
      exact stepR_round_end hb' hk hend
    | some j =>
      cases j with
      | ret => obtain ⟨k, hrend⟩ := hrend; rw [hrend]; exact stepR_round_ret hb' hk hend
      | exit id => obtain ⟨k, hrend, hx⟩ := hrend; rw [hrend]; exact stepR_round_exit hb' hk hx hend
      | goto l => obtain ⟨k, hrend, hx⟩ := hrend; rw [hrend]; exact stepR_round_goto hb' hk hx hend

end
end Go.Sk
