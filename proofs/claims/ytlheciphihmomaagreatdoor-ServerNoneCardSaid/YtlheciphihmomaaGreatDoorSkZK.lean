/- Sk, part ZK: regions whose order is drawn. -/
import Derived.Test.YtlheciphihmomaaGreatDoorSkZJ
set_option linter.all false
namespace Go.Sk
open Go

section
variable {X : Tb} {P : Program} {M : Mt} {F : FuncId} {C : Code} {A : Ari}

open Classical in
noncomputable def hide (fr : List AV) (p : Nat → Prop) : List AV := (List.range fr.length).map fun t => if p t then .undef else lget fr t

theorem hide_len {fr : List AV} {p : Nat → Prop} : (hide fr p).length = fr.length := by simp [hide]

theorem lget_out {fr : List AV} {t : Nat} (h : fr.length ≤ t) : lget fr t = .undef := by rw [lget_eq]; simp [List.getD, List.getElem?_eq_none h]; rfl

theorem hide_in {fr : List AV} {p : Nat → Prop} {t : Nat} (h : p t) : lget (hide fr p) t = .undef := by
  by_cases ht : t < fr.length
  · refine lget_of ?_
    simp [hide, ht, h]
  · exact lget_out (by rw [hide_len]; omega)

theorem hide_out {fr : List AV} {p : Nat → Prop} {t : Nat} (h : ¬ p t) : lget (hide fr p) t = lget fr t := by
  by_cases ht : t < fr.length
  · refine lget_of ?_
    simp [hide, ht, h]
  · rw [lget_out (by rw [hide_len]; omega), lget_out (by omega)]

theorem looks_op {ops : List Oper} {o : Oper} {t : Nat} (h : .tmp t ∈ o.op.operands) : t ∈ looks ops o := by
  unfold looks
  refine List.mem_append_left _ (List.mem_filterMap.2 ⟨.tmp t, by simpa using h, rfl⟩)

theorem wantedOf_congr {fr fr' : List AV} {ops : List Oper} {o : Oper} (h : ∀ t, t ∈ looks ops o → lget fr t = lget fr' t) : wantedOf A fr ops o = wantedOf A fr' ops o := by
  unfold wantedOf
  unfold looks at h
  cases hg : o.guard with
  | none => rfl
  | some jw =>
    obtain ⟨j, w⟩ := jw
    simp only [hg] at h ⊢
    cases hn : nth? ops j with
    | none => rfl
    | some g =>
      simp only [hn] at h ⊢
      cases hd : g.dst with
      | none => rfl
      | some t =>
        simp only [hd] at h ⊢
        rw [h t (by simp)]

theorem PendOK.congr {fr fr' : List AV} {V : List AO} {ops : List Oper} {o : Oper} {free : Prop} (hlen : fr.length = fr'.length) (h : ∀ t, t ∈ looks ops o → lget fr t = lget fr' t) (hd : ∀ t, o.dst = some t → lget fr t = lget fr' t)
    (hp : PendOK X A M fr V ops o free) : PendOK X A M fr' V ops o free := by
  obtain ⟨r, h1, h2, h3⟩ := hp
  refine ⟨r, by rw [← wantedOf_congr h]; exact h1, fun t ht hl => by rw [← hd t ht]; exact h2 t ht (hlen ▸ hl), h3.imp id fun h3 hr => ?_⟩
  obtain ⟨x, V', ob, h4, h5, h6, h7⟩ := h3 hr
  refine ⟨x, V', ob, ?_, h5, h6, fun t ht hl => by rw [← hd t ht]; exact h7 t ht (hlen ▸ hl)⟩
  rw [← exec_congr (fun t ht => h t (looks_op ht))]; exact h4

theorem PendOK.weaken {fr : List AV} {V : List AO} {ops : List Oper} {o : Oper} {f f' : Prop} (h : f → f') (hp : PendOK X A M fr V ops o f) : PendOK X A M fr V ops o f' := by
  obtain ⟨r, h1, h2, h3⟩ := hp
  exact ⟨r, h1, h2, h3.imp h id⟩

theorem PendOK.free' {fr : List AV} {V V' : List AO} {ops : List Oper} {o : Oper} {f f' : Prop} (hp : PendOK X A M fr V ops o f) (h : f') : PendOK X A M fr V' ops o f' := by
  obtain ⟨r, h1, h2, h3⟩ := hp
  exact ⟨r, h1, h2, .inl h⟩

theorem PendOK.vfree {fr : List AV} {V V' : List AO} {ops : List Oper} {o : Oper} {f : Prop} (hv : vfree X o = true) (hp : PendOK X A M fr V ops o f) : PendOK X A M fr V' ops o f := by
  obtain ⟨r, h1, h2, h3⟩ := hp
  refine ⟨r, h1, h2, h3.imp id fun h3 hr => ?_⟩
  obtain ⟨x, V2, ob, h4, h5⟩ := h3 hr
  exact ⟨x, V', ob, exec_V hv h4, h5⟩

variable {E : Env} {fr : List AV} {V : List AO} {l : List Sx} {ops : Array Oper} {tmps : Array Value} {L done D : List Nat}

/-- A temporary that is not there yet, perhaps. -/
def Pdst (ops : Array Oper) (done D : List Nat) (t : Nat) : Prop := ∃ j o, j ∈ done ∧ j ∉ D ∧ ops[j]? = some o ∧ o.dst = some t

theorem DrR.frU (hd : DrR X A M E fr V l ops tmps L done D) : FrX X E (hide fr (Pdst ops done D)) tmps [] := by
  refine ⟨by rw [hide_len]; exact hd.size, fun t ht _ => ?_⟩
  rw [hide_len] at ht
  by_cases hp : Pdst ops done D t
  · rw [hide_in hp]; exact rv_undef
  · rw [hide_out hp]; exact hd.tm t ht fun j o h1 h2 h3 h4 => hp ⟨j, o, h1, h2, h3, h4⟩

theorem DrR.statOf (hd : DrR X A M E fr V l ops tmps L done D) {i : Nat} {o : Oper} (h : ops[i]? = some o) : statO M ops.toList i o = true := allB_iff.1 hd.stat (i, o) (zip_mem.2 h)

theorem stat_dst {ops : Array Oper} {i : Nat} {o : Oper} {d : Nat} (h : statO M ops.toList i o = true) (hc : calm M o = true) (hd : o.dst = some d) {j : Nat} {p : Oper} (hj : ops[j]? = some p) :
    (d ∈ looks ops.toList p → i ∈ depsOf p) ∧ (j ≠ i → p.dst ≠ some d) := by
  simp only [statO, hc, hd, Bool.not_true, Bool.false_or, Bool.and_eq_true] at h
  have := allB_iff.1 h.2 (j, p) (zip_mem.2 hj)
  simp only [Bool.and_eq_true, Bool.or_eq_true, Bool.not_eq_true', beq_iff_eq] at this
  obtain ⟨h1, h2⟩ := this
  refine ⟨fun hm => ?_, fun hne he => ?_⟩
  · rcases h1 with h1 | h1
    · have := mem_iff.2 hm; rw [h1] at this; cases this
    · exact mem_iff.1 h1
  · rcases h2 with h2 | h2
    · exact hne h2
    · rw [he] at h2; simp at h2

theorem stat_dep {ops : List Oper} {i : Nat} {o : Oper} (h : statO M ops i o = true) {d : Nat} (hd : d ∈ depsOf o) : d < i := by
  simp only [statO, Bool.and_eq_true] at h
  have := allB_iff.1 h.1.1 d hd
  simpa [Nat.blt_eq] using this

/-- What an operation looks at is there, if all that it hangs on is. -/
theorem DrR.looksOK (hd : DrR X A M E fr V l ops tmps L done D) {j : Nat} {o : Oper} (hj : ops[j]? = some o) (hdep : ∀ d, d ∈ depsOf o → d ∈ D) {t : Nat} (ht : t ∈ looks ops.toList o) : lget (hide fr (Pdst ops done D)) t = lget fr t := by
  refine hide_out ?_
  rintro ⟨i, p, h1, h2, h3, h4⟩
  obtain ⟨hc, _⟩ := hd.pend i p h1 h2 h3
  exact h2 (hdep i ((stat_dst (hd.statOf h3) hc h4 hj).1 ht))

theorem DrR.deps0 {j : Nat} {L' : List Nat} (hd : DrR X A M E fr V l ops tmps (j :: L') done D) {o : Oper} (hj : ops[j]? = some o) {d : Nat} (h : d ∈ depsOf o) : d ∈ D := by
  have := hd.topo [] j L' rfl o hj d h
  simpa using this

theorem DrR.opOf (hd : DrR X A M E fr V l ops tmps L done D) {j : Nat} (h : j ∈ L) : ∃ o, ops[j]? = some o := ⟨ops[j]'(hd.rest j h).1, by simp [(hd.rest j h).1]⟩

theorem get_put {tmps : Array Value} {ds : List Deferred} {d : Option Nat} {y : Value} {t : Nat} (h : d ≠ some t) : ((⟨tmps, ds⟩ : Act).put d y).tmps.getD t undef = tmps.getD t undef := by
  cases d with
  | none => rfl
  | some d =>
    have : d ≠ t := fun e => h (by rw [e])
    simp [Act.put, Array.getD_eq_getD_getElem?, Array.getElem?_setIfInBounds_ne this]

theorem get_put_eq {tmps : Array Value} {ds : List Deferred} {y : Value} {t : Nat} (h : t < tmps.size) : ((⟨tmps, ds⟩ : Act).put (some t) y).tmps.getD t undef = y := by
  simp [Act.put, Array.getD_eq_getD_getElem?, h]

theorem size_put {tmps : Array Value} {ds : List Deferred} {d : Option Nat} {y : Value} : ((⟨tmps, ds⟩ : Act).put d y).tmps.size = tmps.size := by
  cases d <;> simp [Act.put]

/-- The machine does one of the operations that the stepper has done. -/
theorem DrR.did {j : Nat} {L' : List Nat} {E' : Env} {y : Value} {o : Oper} {ds : List Deferred} (hd : DrR X A M E fr V l ops tmps (j :: L') done D) (hj : j ∈ done) (ho : ops[j]? = some o) (hE : E.le E')
    (hy : ∀ t, o.dst = some t → RV X E' (lget fr t) y) : DrR X A M E' fr V l ops ((⟨tmps, ds⟩ : Act).put o.dst y).tmps L' done (j :: D) := by
  have hnd := List.nodup_cons.1 hd.nod
  refine ⟨hd.stat, hd.good, ?_, ?_, ?_, hnd.2, ?_, hd.dd, hd.dc, ?_, ?_, by rw [size_put]; exact hd.size, ?_⟩
  · intro i hi
    rcases List.mem_cons.1 hi with rfl | hi
    · exact hj
    · exact hd.sub i hi
  · intro i hi
    rcases hd.cov i hi with h | h
    · exact .inl (List.mem_cons_of_mem _ h)
    · rcases List.mem_cons.1 h with rfl | h
      · exact .inl (List.mem_cons_self ..)
      · exact .inr h
  · intro i hi
    obtain ⟨h1, h2⟩ := hd.rest i (List.mem_cons_of_mem _ hi)
    refine ⟨h1, fun h => ?_⟩
    rcases List.mem_cons.1 h with rfl | h
    · exact hnd.1 hi
    · exact h2 h
  · intro L1 i L2 he o' ho' d hd'
    rcases hd.topo (j :: L1) i L2 (by rw [he]; rfl) o' ho' d hd' with h | h
    · exact .inl (List.mem_cons_of_mem _ h)
    · rcases List.mem_cons.1 h with rfl | h
      · exact .inl (List.mem_cons_self ..)
      · exact .inr h
  · intro i p hi hp d hdd
    rcases List.mem_cons.1 hi with rfl | hi
    · exact List.mem_cons_of_mem _ (hd.deps0 hp hdd)
    · exact List.mem_cons_of_mem _ (hd.Dc i p hi hp d hdd)
  · intro i p h1 h2 h3
    exact hd.pend i p h1 (fun h => h2 (List.mem_cons_of_mem _ h)) h3
  · intro t ht hp
    by_cases he : o.dst = some t
    · rw [he, get_put_eq (by rw [hd.size]; exact ht)]
      exact hy t he
    · rw [get_put he]
      refine (hd.tm t ht fun i p h1 h2 h3 h4 => ?_).mono hE
      by_cases hij : i = j
      · subst hij; rw [ho] at h3; cases h3; exact he h4
      · exact hp i p h1 (fun h => by rcases List.mem_cons.1 h with h | h; exact hij h; exact h2 h) h3 h4

theorem DrR.flush1 (hX : TbOK X P) {j : Nat} {L' : List Nat} {f : Frame} {cs : List Frame} {w : World} {k' : List Item} (hd : DrR X A M E fr V l ops f.tmps (j :: L') done D) (hj : j ∈ done) (hl : j ∉ lead l) (hi : Inv X P E V w)
    (hm : f.mode = .run) (ht : f.todo = .inRegion ops (j :: L') :: k') :
    ∃ E' w' a, Go.step P (lone f cs w) = .next (lone (f.atR a (.inRegion ops L' :: k')) cs w') ∧ Inv X P E' V w' ∧ Ext E w E' w' ∧ a.defers = f.defers ∧ DrR X A M E' fr V l ops a.tmps L' done (j :: D) := by
  obtain ⟨o, ho⟩ := hd.opOf (List.mem_cons_self ..)
  obtain ⟨hc, r, h1, h2, h3⟩ := hd.pend j o hj (hd.rest j (List.mem_cons_self ..)).2 ho
  have hU := hd.frU
  have hlk := fun t (ht : t ∈ looks ops.toList o) => hd.looksOK ho (fun d h => hd.deps0 ho h) ht
  have hwU : wantedOf A (hide fr (Pdst ops done D)) ops.toList o = some r := by rw [wantedOf_congr hlk]; exact h1
  have hw := wanted_ok hwU hU
  cases hr : r.getD true with
  | true =>
    obtain ⟨x, V', ob, hex, hob, hgd, hst⟩ := (h3.resolve_left hl) hr
    rw [hr] at hw
    have hexU : exec A X M (hide fr (Pdst ops done D)) V o = .v x V' ob ∨ exec A X M (hide fr (Pdst ops done D)) V o = .el x V' ob := by
      rw [exec_congr (fun t ht => hlk t (looks_op ht))]; exact hex
    have hV : V' = V := by
      rcases hex with hex | hex
      · exact calm_V (A := A) hc hex
      · exact calm_V' (A := A) hex
    subst hV
    obtain ⟨n, w', E', hrun, hn, hi', he⟩ := told (A := A) (M := M) (a := ⟨f.tmps, f.defers⟩) hX hi hU.ok o x V' ob hexU hob
    have hnd : ∀ c, o.op ≠ .defer c := fun c hc' => by simp only [calm, hc', pureOp] at hc; cases hc
    have main : ∀ y, (n = .value y ∨ (n = .skip ∧ y = undef)) → RV0 X E' x y → ∃ E' w' a, Go.step P (lone f cs w) = .next (lone (f.atR a (.inRegion ops L' :: k')) cs w') ∧ Inv X P E' V' w' ∧ Ext E w E' w' ∧ a.defers = f.defers ∧ DrR X A M E' fr V' l ops a.tmps L' done (j :: D) := by
      intro y hny hv
      refine ⟨E', w', _, op_steps (P := P) (cs := cs) hm ht ho hw hnd hrun hny, hi', he, put_defers _ _ _, hd.did hj ho he.le fun t ht' => ?_⟩
      by_cases hlt : t < fr.length
      case neg => rw [lget_out (Nat.not_lt.1 hlt)]; exact rv_undef
      have h4 := hst t ht' hlt
      rcases h2 t ht' hlt with ⟨_, hg⟩ | ⟨c, rfl, ⟨u, hu⟩ | ⟨hct, hg⟩⟩
      · have : lget fr t = x := by rw [← h4]; cases hq : lget fr t <;> first | rfl | (rw [hq] at hg; cases hg)
        rw [this]; exact RV.of hv (isGd_false hgd)
      · rw [hu]
        have : u = x := by rw [← h4, hu]; rfl
        subst this
        exact ⟨fun _ => hv, fun hf => by simp only [Option.getD_some] at hr; rw [hr] at hf; cases hf⟩
      · have : lget fr t = x := by rw [← h4]; cases hq : lget fr t <;> first | rfl | (rw [hq] at hg; cases hg)
        rw [this]; exact RV.of hv (isGd_false hgd)
    rcases hn with ⟨y, rfl, hv⟩ | ⟨rfl, rfl⟩
    · exact main y (.inl rfl) hv
    · exact main undef (.inr ⟨rfl, rfl⟩) rv_undef
  | false =>
    rw [hr] at hw
    have hst := stepR_op_skip (P := P) (b := f) (a := ⟨f.tmps, f.defers⟩) (k := k') (cs := cs) (w := w) (ops := ops) (i := j) (rest := L') (by simp [ho, hw])
    rw [← ht, ← frame_run hm, ho] at hst
    refine ⟨E, w, _, hst, hi, .refl E w, put_defers _ _ _, hd.did hj ho (.refl E) fun t ht' => ?_⟩
    by_cases hlt : t < fr.length
    case neg => rw [lget_out (Nat.not_lt.1 hlt)]; exact rv_undef
    rcases h2 t ht' hlt with ⟨rfl, _⟩ | ⟨c, rfl, ⟨u, hu⟩ | ⟨hct, hg⟩⟩
    · cases hr
    · rw [hu]
      simp only [Option.getD_some] at hr
      exact ⟨fun h => by (rw [hr] at h; cases h), fun _ => rfl⟩
    · simp only [Option.getD_some] at hr
      rw [hct] at hr; cases hr

/-- The machine goes on till its next operation is none that the stepper has done. -/
theorem DrR.flush (hX : TbOK X P) (hlead : lead l = []) {cs : List Frame} {k' : List Item} : ∀ (L : List Nat) {E : Env} {D : List Nat} {f : Frame} {w : World}, DrR X A M E fr V l ops f.tmps L done D → Inv X P E V w →
    f.mode = .run → f.todo = .inRegion ops L :: k' →
    ∃ E' w' a L' D', Steps P (lone f cs w) (lone (f.atR a (.inRegion ops L' :: k')) cs w') ∧ Inv X P E' V w' ∧ Ext E w E' w' ∧ a.defers = f.defers ∧ DrR X A M E' fr V l ops a.tmps L' done D' ∧ (∀ j L2, L' = j :: L2 → j ∉ done)
  | [], E, D, f, w, hd, hi, hm, ht => ⟨E, w, ⟨f.tmps, f.defers⟩, [], D, by rw [← ht, ← frame_run hm]; exact .refl P _, hi, .refl E w, rfl, hd, fun j L2 h => by cases h⟩
  | j :: L', E, D, f, w, hd, hi, hm, ht => by
    by_cases hj : j ∈ done
    · obtain ⟨E1, w1, a, h1, h2, h3, h4, h5⟩ := hd.flush1 hX hj (by rw [hlead]; simp) hi hm ht (cs := cs)
      obtain ⟨E2, w2, a2, L2, D2, g1, g2, g3, g4, g5, g6⟩ := DrR.flush hX hlead L' (f := f.atR a (.inRegion ops L' :: k')) (w := w1) h5 h2 rfl rfl (cs := cs) (k' := k')
      exact ⟨E2, w2, a2, L2, D2, .head h1 g1, g2, h3.trans g3, g4.trans h4, g5, g6⟩
    · exact ⟨E, w, ⟨f.tmps, f.defers⟩, j :: L', D, by rw [← ht, ← frame_run hm]; exact .refl P _, hi, .refl E w, rfl, hd, fun j' L2 h => by cases h; exact hj⟩

end
end Go.Sk
