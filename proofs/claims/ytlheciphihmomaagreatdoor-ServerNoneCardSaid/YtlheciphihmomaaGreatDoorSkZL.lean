/- Sk, part ZL: drawn regions: what each of the stepper's steps means there. -/
import Derived.Test.YtlheciphihmomaaGreatDoorSkZK
import Derived.Orders
set_option linter.all false
namespace Go.Sk
open Go

section
variable {X : Tb} {P : Program} {M : Mt} {F : FuncId} {C : Code} {A : Ari}
variable {E : Env} {fr : List AV} {V : List AO} {ops : Array Oper} {tmps : Array Value} {L done D : List Nat}

/-- An order is drawn. -/
theorem linearise_ok {ops : Array Oper} (hst : ∀ i o, ops[i]? = some o → ∀ d, d ∈ depsOf o → d < i) (t : Nat) :
    (∀ i, i < ops.size → i ∈ Region.linearise .any ops t) ∧ (∀ i, i ∈ Region.linearise .any ops t → i < ops.size) ∧ (Region.linearise .any ops t).Nodup ∧
    ∀ L1 j L2, Region.linearise .any ops t = L1 ++ j :: L2 → ∀ o, ops[j]? = some o → ∀ d, d ∈ depsOf o → d ∈ L1 := by
  have main : ∀ (fuel t : Nat) (listed : Array Bool) (U : List Nat), listed.size = ops.size → U.Nodup → U.length = fuel → (∀ i, i < ops.size → (listed.getD i false = false ↔ i ∈ U)) → (∀ i, i ∈ U → i < ops.size) →
      ∀ R, Region.linearise.go .any ops fuel t listed [] = R → (∀ i, i ∈ U → i ∈ R) ∧ (∀ i, i ∈ R → i ∈ U) ∧ R.Nodup ∧
        ∀ L1 j L2, R = L1 ++ j :: L2 → ∀ o, ops[j]? = some o → ∀ d, d ∈ depsOf o → (listed.getD d false = true ∨ d ∈ L1) := by
    intro fuel
    induction fuel with
    | zero =>
      intro t listed U hs hn hl hU hUs R hR
      have : U = [] := List.length_eq_zero_iff.1 hl
      subst this
      simp only [Region.linearise.go, List.reverse_nil] at hR
      subst hR
      exact ⟨fun i h => h, fun i h => h, List.nodup_nil, fun L1 j L2 h => by simp at h⟩
    | succ fuel ih =>
      intro t listed U hs hn hl hU hUs R hR
      simp only [Region.linearise.go] at hR
      change (match (Region.ready .any ops listed)[t % (Region.ready .any ops listed).length]? with
        | some i => Region.linearise.go .any ops fuel (t / (Region.ready .any ops listed).length) (listed.setIfInBounds i true) [i]
        | none => [].reverse) = R at hR
      have hready : ∀ i, i ∈ Region.ready .any ops listed ↔ i < ops.size ∧ listed.getD i false = false ∧ ∀ o, ops[i]? = some o → ∀ d, d ∈ depsOf o → listed.getD d false = true := by
        intro i
        simp only [Region.ready, List.mem_filter, List.mem_range, Bool.and_eq_true, Bool.not_eq_true']
        refine and_congr_right fun hi => ?_
        have ho : ops[i]? = some ops[i] := by simp [hi]
        rw [ho]
        have hli : listed.getD i true = listed.getD i false := by simp [Array.getD, hs, hi]
        rw [hli]
        refine and_congr_right fun _ => ?_
        simp only [Option.map_some, Option.getD_some, Option.some.injEq, forall_eq', Array.all_eq_true, depsOf, List.mem_map, List.mem_filter, forall_exists_index, and_imp]
        constructor
        · intro h d e he hb hd
          obtain ⟨n, hn1, hn2⟩ := Array.mem_iff_getElem.1 (Array.mem_toList_iff.1 he)
          have := h n hn1
          rw [hn2] at this
          simp only [Bool.or_eq_true, Bool.not_eq_true'] at this
          rcases this with h1 | h1
          · rw [hb] at h1; cases h1
          · rw [← hd]; exact h1
        · intro h n hn1
          simp only [Bool.or_eq_true, Bool.not_eq_true']
          cases hb : Region.binds .any (ops[i].after[n]) with
          | false => exact .inl rfl
          | true => exact .inr (h _ _ (Array.mem_toList_iff.2 (Array.getElem_mem hn1)) hb rfl)
      have hne : Region.ready .any ops listed ≠ [] := by
        intro he
        -- the least that isn't listed is ready
        have hex : ∃ m, m ∈ U := by
          cases U with
          | nil => simp at hl
          | cons m U => exact ⟨m, by simp⟩
        obtain ⟨m, hm, hmin⟩ : ∃ m, m ∈ U ∧ ∀ k, k ∈ U → m ≤ k := by
          obtain ⟨m0, hm0⟩ := hex
          induction m0 using Nat.strongRecOn with
          | _ m0 ihm =>
            by_cases hh : ∃ k, k ∈ U ∧ k < m0
            · obtain ⟨k, hk, hlt⟩ := hh
              exact ihm k hlt hk
            · exact ⟨m0, hm0, fun k hk => Nat.not_lt.1 fun hlt => hh ⟨k, hk, hlt⟩⟩
        have : m ∈ Region.ready .any ops listed := (hready m).2 ⟨hUs m hm, (hU m (hUs m hm)).2 hm, fun o ho d hd => by
          have hlt := hst m o ho d hd
          have hdU : d ∉ U := fun h => by have := hmin d h; omega
          have := hU d (by have := hUs m hm; omega)
          cases hq : listed.getD d false with
          | true => rfl
          | false => exact absurd (this.1 hq) hdU⟩
        rw [he] at this; simp at this
      have hlen : 0 < (Region.ready .any ops listed).length := List.length_pos_iff.2 hne
      have hlt : t % (Region.ready .any ops listed).length < (Region.ready .any ops listed).length := Nat.mod_lt _ hlen
      obtain ⟨i, hi⟩ : ∃ i, (Region.ready .any ops listed)[t % (Region.ready .any ops listed).length]? = some i := ⟨_, by simp [hlt]; rfl⟩
      rw [hi] at hR
      have himem := (hready i).1 (List.mem_of_getElem? hi)
      obtain ⟨hi1, hi2, hi3⟩ := himem
      have hiU := (hU i hi1).1 hi2
      simp only at hR
      rw [linearise_go_acc, List.reverse_singleton, List.singleton_append] at hR
      subst hR
      have hget : ∀ d, d < ops.size → (listed.setIfInBounds i true).getD d false = if d = i then true else listed.getD d false := by
        intro d hd
        simp only [Array.getD_eq_getD_getElem?]
        by_cases he : d = i
        · subst he; simp [hs, hd]
        · rw [Array.getElem?_setIfInBounds_ne (Ne.symm he), if_neg he]
      obtain ⟨g1, g2, g3, g4⟩ := ih (t / (Region.ready .any ops listed).length) (listed.setIfInBounds i true) (U.erase i) (by simp [hs]) (hn.erase i)
        (by rw [List.length_erase_of_mem hiU, hl]; rfl) (by
          intro d hd
          rw [hget d hd, hn.mem_erase_iff]
          by_cases he : d = i
          · simp [he]
          · rw [if_neg he]; exact ⟨fun h => ⟨he, (hU d hd).1 h⟩, fun h => (hU d hd).2 h.2⟩) (fun d hd => hUs d (List.mem_of_mem_erase hd)) _ rfl
      refine ⟨?_, ?_, ?_, ?_⟩
      · intro d hd
        by_cases he : d = i
        · simp [he]
        · exact List.mem_cons_of_mem _ (g1 d ((List.mem_erase_of_ne he).2 hd))
      · intro d hd
        rcases List.mem_cons.1 hd with rfl | hd
        · exact hiU
        · exact List.mem_of_mem_erase (g2 d hd)
      · exact List.nodup_cons.2 ⟨fun h => by have := g2 i h; rw [hn.mem_erase_iff] at this; exact this.1 rfl, g3⟩
      · intro L1 j L2 he o ho d hd
        cases L1 with
        | nil =>
          simp only [List.nil_append, List.cons.injEq] at he
          obtain ⟨rfl, _⟩ := he
          exact .inl (hi3 o ho d hd)
        | cons x L1 =>
          simp only [List.cons_append, List.cons.injEq] at he
          obtain ⟨rfl, he⟩ := he
          have hjs : j < ops.size := (Array.getElem?_eq_some_iff.1 ho).1
          have hds : d < ops.size := Nat.lt_trans (hst j o ho d hd) hjs
          rcases g4 L1 j L2 he o ho d hd with h | h
          · rw [hget d hds] at h
            split at h
            · rename_i hq; exact .inr (by simp [hq])
            · exact .inl h
          · exact .inr (List.mem_cons_of_mem _ h)
  obtain ⟨g1, g2, g3, g4⟩ := main ops.size t (Array.replicate ops.size false) (List.range ops.size) (by simp) List.nodup_range (by simp) (by intro i hi; simp [Array.getD, hi]) (by intro i hi; simpa using hi) _ rfl
  refine ⟨fun i hi => g1 i (by simpa using hi), fun i hi => by simpa using g2 i hi, g3, fun L1 j L2 he o ho d hd => ?_⟩
  rcases g4 L1 j L2 he o ho d hd with h | h
  · have hjs : j < ops.size := (Array.getElem?_eq_some_iff.1 ho).1
    have hds : d < ops.size := Nat.lt_trans (hst j o ho d hd) hjs
    simp [Array.getD, hds] at h
  · exact h

theorem DrR.enter {l : List Sx} {t : Nat} (hm : P.follows .mixedOrders = true) (hg : goodR X M ops.toList l = true) (hf : FrX X E fr tmps []) :
    DrR X A M E fr V l ops tmps (Region.schedule (P.follows .mixedOrders) ops t) [] [] := by
  simp only [goodR, Bool.and_eq_true] at hg
  have hst : ∀ i o, ops[i]? = some o → ∀ d, d ∈ depsOf o → d < i := fun i o ho d hd => stat_dep (M := M) (allB_iff.1 hg.1 (i, o) (zip_mem.2 ho)) hd
  obtain ⟨g1, g2, g3, g4⟩ := linearise_ok hst t
  have he : Region.schedule (P.follows .mixedOrders) ops t = Region.linearise .any ops t := by simp [Region.schedule, hm]
  rw [he]
  exact ⟨hg.1, hg.2, fun i h => by simp at h, fun i hi => .inr (g1 i hi), fun i hi => ⟨g2 i hi, by simp⟩, g3, fun L1 j L2 h o ho d hd => .inr (g4 L1 j L2 h o ho d hd), fun i h => by simp at h,
    fun i o h => by simp at h, fun i o h => by simp at h, fun j o h => by simp at h, hf.1, fun t ht _ => hf.2 t ht rfl⟩

/-- A calm operation is told: the machine need not have done it. -/
theorem DrR.tell {i : Nat} {l : List Sx} {o : Oper} {v : AV} {x0 : Sx} (hd : DrR X A M E fr V (x0 :: l) ops tmps L done D) (hx0 : x0 = .o i ∨ x0 = .og i) (hg : goodGo X M ops.toList (.o i :: l) done = true) (ho : ops[i]? = some o)
    (hp : PendOK X A M (put fr o.dst v) V ops.toList o False) : DrR X A M E (put fr o.dst v) V l ops tmps L (i :: done) D := by
  simp only [goodGo, Bool.and_eq_true, Bool.not_eq_true'] at hg
  obtain ⟨⟨h1, h2⟩, h3⟩ := hg
  have hni : i ∉ done := fun h => by have := mem_iff.2 h; rw [h1] at this; cases this
  rw [nth?_eq] at h2
  simp only [Array.getElem?_toList, ho, Bool.and_eq_true] at h2
  obtain ⟨hc, hdeps⟩ := h2
  have hdeps := mems_iff.1 hdeps
  have hlead : lead (x0 :: l) = [] := by rcases hx0 with rfl | rfl <;> rfl
  have hput : ∀ t, o.dst ≠ some t → lget (put fr o.dst v) t = lget fr t := by
    intro t ht
    cases hdst : o.dst with
    | none => rfl
    | some d =>
      have hne : d ≠ t := fun e => ht (by rw [hdst, e])
      simp only [put, lset_eq, lget_eq, List.getD_eq_getElem?_getD, List.getElem?_set_ne hne]
  refine ⟨hd.stat, h3, fun j hj => List.mem_cons_of_mem _ (hd.sub j hj), hd.cov, hd.rest, hd.nod, hd.topo, ?_, ?_, hd.Dc, ?_, ?_, ?_⟩
  · intro j hj
    rcases List.mem_cons.1 hj with rfl | hj
    · exact (Array.getElem?_eq_some_iff.1 ho).1
    · exact hd.dd j hj
  · intro j p hj hp d hdd
    rcases List.mem_cons.1 hj with rfl | hj
    · rw [ho] at hp; cases hp; exact List.mem_cons_of_mem _ (hdeps d hdd)
    · exact List.mem_cons_of_mem _ (hd.dc j p hj hp d hdd)
  · intro j p hj hjD hjp
    rcases List.mem_cons.1 hj with rfl | hj
    · rw [ho] at hjp; cases hjp
      exact ⟨hc, hp.weaken False.elim⟩
    · obtain ⟨g1, g2⟩ := hd.pend j p hj hjD hjp
      have hij : j ≠ i := fun h => hni (h ▸ hj)
      have key : ∀ t, o.dst = some t → t ∉ looks ops.toList p ∧ p.dst ≠ some t := fun t ht => by
        obtain ⟨k1, k2⟩ := stat_dst (hd.statOf ho) hc ht hjp
        exact ⟨fun h => hni (hd.dc j p hj hjp i (k1 h)), k2 hij⟩
      refine ⟨g1, PendOK.weaken (f := False) False.elim ?_⟩
      rw [hlead] at g2
      refine PendOK.congr (by cases o.dst <;> simp [put, lset_eq]) ?_ ?_ (g2.weaken (by simp))
      · intro t ht
        exact (hput t fun h => (key t h).1 ht).symm
      · intro t ht
        exact (hput t fun h => (key t h).2 ht).symm
  · rw [hd.size]; cases o.dst <;> simp [put, lset_eq]
  · intro t ht hpd
    have hne : o.dst ≠ some t := fun h => hpd i o (List.mem_cons_self ..) (fun h => hni (hd.sub i h)) ho h
    rw [hput t hne]
    have ht' : t < fr.length := by cases hdst : o.dst <;> simpa [put, hdst, lset_eq] using ht
    exact hd.tm t ht' fun j p h1 h2 h3 h4 => hpd j p (List.mem_cons_of_mem _ h1) h2 h3 h4

/-- An operation that acts is next, and it alone. -/
theorem DrR.only {i : Nat} {an pn : List Nat} {l : List Sx} {x0 : Sx} (hd : DrR X A M E fr V (x0 :: l) ops tmps L done D) (hg : goodGo X M ops.toList (.n i an pn :: l) done = true) (hh : ∀ j L2, L = j :: L2 → j ∉ done) (hi : i < ops.size) : ∃ L', L = i :: L' := by
  simp only [goodGo, Bool.and_eq_true, Bool.not_eq_true'] at hg
  obtain ⟨⟨⟨h1, h2⟩, _⟩, _⟩ := hg
  have hni : i ∉ done := fun h => by have := mem_iff.2 h; rw [h1] at this; cases this
  cases hL : L with
  | nil =>
    rcases hd.cov i hi with h | h
    · exact absurd (hd.sub i h) hni
    · rw [hL] at h; simp at h
  | cons j L' =>
    subst hL
    obtain ⟨o, ho⟩ := hd.opOf (List.mem_cons_self ..)
    have hj := hh j L' rfl
    have := allB_iff.1 h2 (j, o) (zip_mem.2 ho)
    simp only [Bool.or_eq_true, Bool.not_eq_true', beq_iff_eq] at this
    rcases this with (h | h) | h
    · exact absurd (mem_iff.1 h) hj
    · exact ⟨L', by rw [h]⟩
    · have : mems (depsOf o) done = true := mems_iff.2 fun d hdd => hd.sub d (hd.deps0 ho hdd)
      rw [this] at h; cases h

theorem anc_ok {D0 : List Nat} {ops : Array Oper} {o : Oper} (hD : ∀ d, d ∈ depsOf o → d ∈ D0) (hc : ∀ i p, i ∈ D0 → ops[i]? = some p → ∀ d, d ∈ depsOf p → d ∈ D0) :
    ∀ (l acc : List Nat), ancGo ops.toList o l acc = true → (∀ k, k ∈ acc → k ∈ D0) → ∀ k, k ∈ l → k ∈ D0
  | [], acc, _, _, k, hk => by simp at hk
  | j :: r, acc, h, hacc, k, hk => by
    simp only [ancGo, Bool.and_eq_true, Bool.or_eq_true] at h
    have hj : j ∈ D0 := by
      rcases h.1 with h1 | h1
      · exact hD j (mem_iff.1 h1)
      · obtain ⟨m, hm, hm2⟩ := anyB_iff.1 h1
        rw [nth?_eq] at hm2
        split at hm2
        · rename_i p hp
          rw [Array.getElem?_toList] at hp
          exact hc m p (hacc m hm) hp j (mem_iff.1 hm2)
        · cases hm2
    rcases List.mem_cons.1 hk with rfl | hk
    · exact hj
    · exact anc_ok hD hc r (j :: acc) h.2 (fun k' hk' => by rcases List.mem_cons.1 hk' with rfl | h'; exact hj; exact hacc k' h') k hk

/-- What good says of those that may be open when an operation acts. -/
theorem DrR.open {i : Nat} {an pn : List Nat} {l : List Sx} {x0 : Sx} {L' : List Nat} {o : Oper} (hd : DrR X A M E fr V (x0 :: l) ops tmps (i :: L') done D) (hg : goodGo X M ops.toList (.n i an pn :: l) done = true) (ho : ops[i]? = some o) :
    ∀ j p, j ∈ done → j ∉ D → ops[j]? = some p → calm M p = true ∧ (vfree X p = true ∨ keepsV o = true ∨ j ∈ lead l) ∧ (∀ d, p.dst = some d → d ∈ pn) ∧ (∀ d, o.dst = some d → d ∉ looks ops.toList p) ∧ (∀ d, o.dst = some d → p.dst ≠ some d) := by
  intro j p hj hjD hjp
  simp only [goodGo, Bool.and_eq_true, Bool.not_eq_true'] at hg
  obtain ⟨⟨⟨h1, h2⟩, h3⟩, _⟩ := hg
  have hni : i ∉ done := fun h => by have := mem_iff.2 h; rw [h1] at this; cases this
  rw [nth?_eq, Array.getElem?_toList, ho] at h3
  simp only [Bool.and_eq_true, Bool.not_eq_true'] at h3
  obtain ⟨⟨_, hanc⟩, hall⟩ := h3
  have hanD := anc_ok (fun d hdd => hd.deps0 ho hdd) hd.Dc an [] hanc (by simp)
  obtain ⟨hc, _⟩ := hd.pend j p hj hjD hjp
  have := allB_iff.1 hall j hj
  rw [nth?_eq, Array.getElem?_toList, hjp] at this
  simp only [hc, Bool.not_true, Bool.false_or, Bool.or_eq_true, Bool.and_eq_true] at this
  have hnan : ¬ mem j an = true := fun h => hjD (hanD j (mem_iff.1 h))
  obtain ⟨⟨g1, g2⟩, g3⟩ := this.resolve_left hnan
  refine ⟨hc, by rcases g1 with (g1 | g1) | g1; exact .inl g1; exact .inr (.inl g1); exact .inr (.inr (mem_iff.1 g1)), fun d hdd => ?_, fun d hdd h => ?_, fun d hdd hpd => ?_⟩
  · rw [hdd] at g2; exact mem_iff.1 g2
  · rw [hdd] at g3
    have := mem_iff.2 h
    simp [this] at g3
  · obtain ⟨_, k2⟩ := stat_dst (hd.statOf hjp) hc hpd ho
    exact k2 (fun e => hni (e ▸ hj)) hdd

/-- An operation that acts, done by both. -/
theorem DrR.act {i : Nat} {an pn : List Nat} {l : List Sx} {x0 : Sx} {L' : List Nat} {o : Oper} {E' : Env} {V' : List AO} {x : AV} {y : Value} {ds : List Deferred}
    (hd : DrR X A M E fr V (x0 :: l) ops tmps (i :: L') done D) (hg : goodGo X M ops.toList (.n i an pn :: l) done = true) (ho : ops[i]? = some o) (hx0 : lead (x0 :: l) = []) (hE : E.le E') (hV : keepsV o = true → V' = V) (hv : RV X E' x y) :
    DrR X A M E' (put fr o.dst x) V' l ops ((⟨tmps, ds⟩ : Act).put o.dst y).tmps L' (i :: done) (i :: D) := by
  have hop := hd.open hg ho
  have hg0 := hg
  simp only [goodGo, Bool.and_eq_true, Bool.not_eq_true'] at hg
  obtain ⟨⟨⟨h1, h2⟩, h3⟩, h4⟩ := hg
  have hni : i ∉ done := fun h => by have := mem_iff.2 h; rw [h1] at this; cases this
  have hnd := List.nodup_cons.1 hd.nod
  have hput : ∀ t, o.dst ≠ some t → lget (put fr o.dst x) t = lget fr t := by
    intro t ht
    cases hdst : o.dst with
    | none => rfl
    | some d =>
      have hne : d ≠ t := fun e => ht (by rw [hdst, e])
      simp only [put, lset_eq, lget_eq, List.getD_eq_getElem?_getD, List.getElem?_set_ne hne]
  refine ⟨hd.stat, h4, ?_, ?_, ?_, hnd.2, ?_, ?_, ?_, ?_, ?_, ?_, ?_⟩
  · intro j hj
    rcases List.mem_cons.1 hj with rfl | hj
    · exact List.mem_cons_self ..
    · exact List.mem_cons_of_mem _ (hd.sub j hj)
  · intro j hj
    rcases hd.cov j hj with h | h
    · exact .inl (List.mem_cons_of_mem _ h)
    · rcases List.mem_cons.1 h with rfl | h
      · exact .inl (List.mem_cons_self ..)
      · exact .inr h
  · intro j hj
    obtain ⟨g1, g2⟩ := hd.rest j (List.mem_cons_of_mem _ hj)
    refine ⟨g1, fun h => ?_⟩
    rcases List.mem_cons.1 h with rfl | h
    · exact hnd.1 hj
    · exact g2 h
  · intro L1 j L2 he p hp d hdd
    rcases hd.topo (i :: L1) j L2 (by rw [he]; rfl) p hp d hdd with h | h
    · exact .inl (List.mem_cons_of_mem _ h)
    · rcases List.mem_cons.1 h with rfl | h
      · exact .inl (List.mem_cons_self ..)
      · exact .inr h
  · intro j hj
    rcases List.mem_cons.1 hj with rfl | hj
    · exact (Array.getElem?_eq_some_iff.1 ho).1
    · exact hd.dd j hj
  · intro j p hj hp d hdd
    rcases List.mem_cons.1 hj with rfl | hj
    · exact List.mem_cons_of_mem _ (hd.sub d (hd.deps0 hp hdd))
    · exact List.mem_cons_of_mem _ (hd.dc j p hj hp d hdd)
  · intro j p hj hp d hdd
    rcases List.mem_cons.1 hj with rfl | hj
    · exact List.mem_cons_of_mem _ (hd.deps0 hp hdd)
    · exact List.mem_cons_of_mem _ (hd.Dc j p hj hp d hdd)
  · intro j p hj hjD hjp
    have hji : j ≠ i := fun h => hjD (by rw [h]; exact List.mem_cons_self ..)
    have hj' : j ∈ done := (List.mem_cons.1 hj).resolve_left hji
    have hjD' : j ∉ D := fun h => hjD (List.mem_cons_of_mem _ h)
    obtain ⟨g1, g2⟩ := hd.pend j p hj' hjD' hjp
    obtain ⟨_, k1, k2, k3, k4⟩ := hop j p hj' hjD' hjp
    have g3 : PendOK X A M (put fr o.dst x) V ops.toList p False := by
      rw [hx0] at g2
      refine PendOK.congr (by cases o.dst <;> simp [put, lset_eq]) ?_ ?_ (g2.weaken (by simp))
      · intro t ht
        exact (hput t fun h => k3 t h ht).symm
      · intro t ht
        exact (hput t fun h => k4 t h ht).symm
    refine ⟨g1, ?_⟩
    rcases k1 with hvf | hk | hl
    · exact (g3.vfree hvf).weaken False.elim
    · rw [hV hk]; exact g3.weaken False.elim
    · exact g3.free' hl
  · rw [size_put, hd.size]; cases o.dst <;> simp [put, lset_eq]
  · intro t ht hpd
    have ht' : t < fr.length := by cases hdst : o.dst <;> simpa [put, hdst, lset_eq] using ht
    by_cases he : o.dst = some t
    · rw [he, get_put_eq (by rw [hd.size]; exact ht')]
      have : lget (put fr (some t) x) t = x := by simp only [put, lset_eq]; exact lget_of (by simp [ht'])
      rw [this]; exact hv
    · rw [get_put he, hput t he]
      refine (hd.tm t ht' ?_).mono hE
      intro j p k1 k2 k3 k4
      refine hpd j p (List.mem_cons_of_mem _ k1) (fun h => ?_) k3 k4
      rcases List.mem_cons.1 h with rfl | h
      · exact hni k1
      · exact k2 h

theorem lget_undefs {fr : List AV} : ∀ {pn : List Nat} {t : Nat}, lget (undefs fr pn) t = lget fr t ∨ (t ∈ pn ∧ lget (undefs fr pn) t = .undef) := by
  intro pn
  induction pn generalizing fr with
  | nil => intro t; exact .inl rfl
  | cons d r ih =>
    intro t
    simp only [undefs]
    rcases ih (fr := lset fr d .undef) (t := t) with h | ⟨h1, h2⟩
    · by_cases he : t = d
      · subst he
        right
        refine ⟨by simp, ?_⟩
        rw [h, lset_eq, lget_eq, List.getD_eq_getElem?_getD]
        by_cases hlt : t < fr.length
        · simp [hlt]
        · rw [List.getElem?_eq_none (by simpa using hlt)]; rfl
      · left
        rw [h, lset_eq, lget_eq, lget_eq, List.getD_eq_getElem?_getD, List.getD_eq_getElem?_getD, List.getElem?_set_ne (Ne.symm he)]
    · exact .inr ⟨List.mem_cons_of_mem _ h1, h2⟩

theorem undefs_keep {fr : List AV} : ∀ {pn : List Nat} {t : Nat}, t ∈ pn → lget (undefs fr pn) t = .undef := by
  intro pn
  induction pn generalizing fr with
  | nil => intro t h; simp at h
  | cons d r ih =>
    intro t h
    simp only [undefs]
    by_cases ht : t ∈ r
    · exact ih ht
    · rcases List.mem_cons.1 h with rfl | h
      · rcases lget_undefs (fr := lset fr t .undef) (pn := r) (t := t) with h | ⟨h1, _⟩
        · rw [h, lset_eq, lget_eq, List.getD_eq_getElem?_getD]
          by_cases hlt : t < fr.length
          · simp [hlt]
          · rw [List.getElem?_eq_none (by simpa using hlt)]; rfl
        · exact absurd h1 ht
      · exact absurd h ht

theorem undefs_len {fr : List AV} : ∀ {pn : List Nat}, (undefs fr pn).length = fr.length := by
  intro pn
  induction pn generalizing fr with
  | nil => rfl
  | cons d r ih => simp only [undefs, ih, lset_eq, List.length_set]

/-- A panic: what may not be there is forgotten. -/
theorem DrR.panic {i : Nat} {an pn : List Nat} {l : List Sx} {x0 : Sx} {L' : List Nat} {o : Oper} (hd : DrR X A M E fr V (x0 :: l) ops tmps (i :: L') done D) (hg : goodGo X M ops.toList (.n i an pn :: l) done = true) (ho : ops[i]? = some o) :
    FrX X E (undefs fr pn) tmps [] := by
  have hop := hd.open hg ho
  refine ⟨by rw [undefs_len]; exact hd.size, fun t ht _ => ?_⟩
  rw [undefs_len] at ht
  by_cases hp : t ∈ pn
  · rw [undefs_keep hp]; exact rv_undef
  · rcases lget_undefs (fr := fr) (pn := pn) (t := t) with h | ⟨h, _⟩
    · rw [h]
      refine hd.tm t ht fun j p h1 h2 h3 h4 => ?_
      obtain ⟨_, _, k2, _, _⟩ := hop j p h1 h2 h3
      exact hp (k2 t h4)
    · exact absurd h hp

/-- A look again. -/
theorem DrR.look {j : Nat} {l : List Sx} {p : Oper} (hd : DrR X A M E fr V (.chk j :: l) ops tmps L done D) (hp : ops[j]? = some p)
    (h : PendOK X A M fr V ops.toList p True → PendOK X A M fr V ops.toList p False) : DrR X A M E fr V l ops tmps L done D := by
  have hg := hd.good
  simp only [goodGo, Bool.and_eq_true] at hg
  refine ⟨hd.stat, hg.2, hd.sub, hd.cov, hd.rest, hd.nod, hd.topo, hd.dd, hd.dc, hd.Dc, ?_, hd.size, hd.tm⟩
  intro i o h1 h2 h3
  obtain ⟨g1, g2⟩ := hd.pend i o h1 h2 h3
  refine ⟨g1, ?_⟩
  by_cases he : i = j
  · subst he
    rw [hp] at h3; cases h3
    exact (h (g2.weaken fun _ => trivial)).weaken False.elim
  · refine g2.weaken fun hm => ?_
    simp only [lead, List.mem_cons] at hm
    exact hm.resolve_left he

/-- All is done. -/
theorem DrR.all (hd : DrR X A M E fr V [] ops tmps L done D) (hh : ∀ j L2, L = j :: L2 → j ∉ done) : L = [] ∧ FrX X E fr tmps [] := by
  have hg := hd.good
  simp only [goodGo] at hg
  have hall : ∀ i, i < ops.size → i ∈ done := fun i hi => mem_iff.1 (allB_iff.1 hg (i, ops[i]) (zip_mem.2 (by simp [hi])))
  have hL : L = [] := by
    cases hq : L with
    | nil => rfl
    | cons j L' => exact absurd (hall j (hd.rest j (by rw [hq]; simp)).1) (hh j L' hq)
  refine ⟨hL, hd.size, fun t ht _ => hd.tm t ht fun j p h1 h2 h3 h4 => h2 ?_⟩
  rcases hd.cov j (hd.dd j h1) with h | h
  · exact h
  · rw [hL] at h; simp at h

end
end Go.Sk
