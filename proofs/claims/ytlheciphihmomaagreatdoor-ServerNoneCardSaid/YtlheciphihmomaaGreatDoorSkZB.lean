/- Sk, part ZB: every step of the stepper. -/
import Derived.Test.YtlheciphihmomaaGreatDoorSkZM
import Derived.RangeFuncLeaves
set_option linter.all false
namespace Go.Sk
open Go

section
variable {X : Tb} {P : Program} {M : Mt} {F : FuncId} {C : Code} {A : Ari} {S : FuncId → List AV → Option (AV × List Bool)}

theorem opStep_ok (hX : TbOK X P) (hS : SumOK X P S) {s s' : St} {p : List Nat} {x : Sx} {rest : List Sx} {k : List It} {ob : List Bool} {id : Nat} {ops : Array Oper} (h : opStep A X M S s p ops.toList x rest k = .go s' ob) (hob : Obl ob)
    (hmd : s.md = .run) (htd : s.todo = .ops p (x :: rest) :: k) (hc : sub p C = some (.region id ops false)) : AW X P A M F C s (· = s') := by
  cases x with
  | o i =>
    simp only [opStep] at h
    split at h
    · cases h
    · rename_i o ho
      split at h
      · cases h
      · rename_i hw
        refine runOp_ok hX hS h hob (Ready.of hmd htd hc (nth?_arr ho) fun E tmps hf => ?_)
        have := wanted_ok hw hf
        simpa using this
      · rename_i c hw
        split at h
        · split at h
          · rename_i y V1 ob1 hex
            split at h
            · rename_i hcalm _ _ _ _ hgd
              cases h
              -- the guard says it
              intro E fr cs0 cs w hi hs
              have ht := hs.todo
              simp only [hmd] at ht
              obtain ⟨hf, idx, k', he, rfl, h4⟩ := ht.text htd hc
              have hwt := wanted_ok hw hf
              simp only [Option.getD_some] at hwt
              cases c with
              | false =>
                have hV := calm_V (A := A) (by assumption) hex
                subst hV
                obtain ⟨fr', h5, h6, h7, h8⟩ := skip_ok (w := w) (k := .ops p (idx.map .o) :: k) (x := .gd false y) hs hmd he (nth?_arr ho) hwt fun ds => .plain (hf.put (a := ⟨fr.tmps, ds⟩) ⟨fun h => (by cases h), fun _ => rfl⟩) ⟨_, _, rfl, .ops hc rfl, h4⟩
                exact ⟨_, E, fr', cs, w, rfl, h5, hi, h6, .refl E w, h7, h8⟩
              | true =>
                obtain ⟨E1, fr1, w1, g01, g02, g03, g04, g05, g06, hat⟩ := Ready.ofG (X := X) (P := P) (A := A) (M := M) (F := F) (C := C) (s := { s with todo := .ops p (.og i :: idx.map .o) :: k }) hmd rfl hc (nth?_arr ho) E fr cs0 cs w hi
                  ⟨hs.fn, hs.md, by simp only [hmd]; exact .og hf rfl he hc rfl (nth?_arr ho) hwt h4, hs.df, hs.ro, hs.cm⟩
                obtain ⟨E', fr', w', g1, g2, g3, g4, g5, g6⟩ := exec_ok (x' := .gd true y) hX g02 g03 hat (.inl hex) (impAll_ok hob rfl) (fun E y hy => ⟨fun _ => hy, fun h => (by cases h)⟩)
                exact ⟨_, E', fr', cs, w', rfl, g01.trans g1, g2, g3, g04.trans g4, g5.trans g05, g6.trans g06⟩
            · cases h
          · cases h
        · cases h
  | og i =>
    simp only [opStep] at h
    split at h
    · cases h
    · rename_i o ho
      exact runOp_ok hX hS h hob (Ready.ofG hmd htd hc (nth?_arr ho))
  | n i an pn => simp only [opStep] at h; cases h
  | ng i an pn => simp only [opStep] at h; cases h
  | chk i => simp only [opStep] at h; cases h

theorem isGd_strip {v : AV} (h : isGd v = false) : strip v = v := by cases v <;> first | rfl | cases h

theorem calmOp_tell {s : St} {p : List Nat} {i : Nat} {x0 : Sx} {rest : List Sx} {k : List It} {o : Oper} {id : Nat} {ops : Array Oper} {x : AV} {V' : List AO} {ob : List Bool} (hmd : s.md = .run) (htd : s.todo = .ops p (x0 :: rest) :: k) (hx0 : x0 = .o i ∨ x0 = .og i)
    (hc : sub p C = some (.region id ops true)) (ho : ops[i]? = some o) (hw : x0 = .o i → wantedOf A s.fr ops.toList o = some none) (hex : exec A X M s.fr s.V o = .v x V' ob ∨ exec A X M s.fr s.V o = .el x V' ob) (hob : Obl ob) (hgd : isGd x = false) :
    AW X P A M F C s (· = { s with todo := .ops p rest :: k, fr := put s.fr o.dst x }) := by
  refine tell_ok hmd htd (by rcases hx0 with rfl | rfl <;> rfl) hc ho fun E tmps L done D hd hog => ?_
  rcases hx0 with rfl | rfl
  · exact pend_of hd ho (hw rfl) (.inl ⟨rfl, hgd⟩) fun _ => ⟨hex, hob, hgd, isGd_strip hgd⟩
  · obtain ⟨o', c, h1, h2, h3⟩ := hog i rest rfl rfl
    rw [ho] at h1; cases h1
    exact pend_of hd ho h2 (.inr ⟨c, rfl, .inr ⟨h3, hgd⟩⟩) fun _ => ⟨hex, hob, hgd, isGd_strip hgd⟩

/-- A look again. -/
theorem look_ok {s : St} {p : List Nat} {j : Nat} {rest : List Sx} {k : List It} {id : Nat} {ops : Array Oper} {o : Oper} (hmd : s.md = .run) (htd : s.todo = .ops p (.chk j :: rest) :: k)
    (hc : sub p C = some (.region id ops true)) (ho : ops[j]? = some o) (h : PendOK X A M s.fr s.V ops.toList o True → PendOK X A M s.fr s.V ops.toList o False) : AW X P A M F C s (· = { s with todo := .ops p rest :: k }) := by
  intro E fr cs0 cs w hi hs
  have ht := hs.todo
  simp only [hmd] at ht
  obtain ⟨L, done, D, k', hr, hk, hd, hog, hng⟩ := ht.drawn htd hc
  simp only [deog] at hd
  refine ⟨_, E, fr, cs, w, rfl, .refl P _, hi, ⟨hs.fn, hs.md, ?_, hs.df, hs.ro, hs.cm⟩, .refl E w, rfl, rfl⟩
  simp only [hmd]
  exact TodoR.mkDr hr hc hk (hd.look ho h)

theorem opStepD_ok (hX : TbOK X P) (hS : SumOK X P S) {s s' : St} {p : List Nat} {x : Sx} {rest : List Sx} {k : List It} {ob : List Bool} {id : Nat} {ops : Array Oper} (h : opStepD A X M S s p ops.toList x rest k = .go s' ob) (hob : Obl ob)
    (hmd : s.md = .run) (htd : s.todo = .ops p (x :: rest) :: k) (hc : sub p C = some (.region id ops true)) : AW X P A M F C s (· = s') := by
  cases x with
  | o i =>
    simp only [opStepD] at h
    split at h
    · cases h
    · rename_i o ho
      split at h
      · cases h
      · rename_i hw
        unfold calmOp at h
        split at h
        · rename_i x V1 ob1 hex
          split at h
          · rename_i hgd
            cases h
            exact calmOp_tell hmd htd (.inl rfl) hc (nth?_arr ho) (fun _ => hw) (.inl hex) hob hgd
          · cases h
        · split at h <;> cases h
        · cases h
        · cases h
      · rename_i c hw
        split at h
        · rename_i y V1 ob1 hex
          split at h
          · rename_i hgd
            cases h
            refine tell_ok hmd htd rfl hc (nth?_arr ho) fun E tmps L done D hd hog => ?_
            exact pend_of hd (nth?_arr ho) hw (.inr ⟨c, rfl, .inl ⟨y, rfl⟩⟩) fun hcc => ⟨.inl hex, impAll_ok hob hcc, hgd, rfl⟩
          · cases h
        · cases h
  | og i =>
    simp only [opStepD] at h
    split at h
    · cases h
    · rename_i o ho
      unfold calmOp at h
      split at h
      · rename_i x V1 ob1 hex
        split at h
        · rename_i hgd
          cases h
          exact calmOp_tell hmd htd (.inr rfl) hc (nth?_arr ho) (fun h => by cases h) (.inl hex) hob hgd
        · cases h
      · split at h <;> cases h
      · cases h
      · cases h
  | n i an pn =>
    simp only [opStepD] at h
    split at h
    · cases h
    · rename_i o ho
      split at h
      · cases h
      · rename_i hw
        exact runOp_ok hX hS h hob (Ready.dr hX hmd htd hc (nth?_arr ho) hw)
      · cases h
  | ng i an pn =>
    simp only [opStepD] at h
    split at h
    · cases h
    · rename_i o ho
      exact runOp_ok hX hS h hob (Ready.drG hmd htd hc (nth?_arr ho))
  | chk i =>
    simp only [opStepD] at h
    split at h
    · cases h
    · rename_i o ho
      have plain : ∀ {x : AV} {V1 : List AO} {ob1 : List Bool} {t : Nat}, (exec A X M s.fr s.V o = .v x V1 ob1 ∨ exec A X M s.fr s.V o = .el x V1 ob1) → o.dst = some t → wantedOf A s.fr ops.toList o = some none → A.eqv x (lget s.fr t) = true → Obl ob1 →
          PendOK X A M s.fr s.V ops.toList o True → PendOK X A M s.fr s.V ops.toList o False := by
        intro x V1 ob1 t hex hdst hw he ho1 hp
        obtain ⟨r, h1, h2, h3⟩ := hp
        rw [hw] at h1; cases h1
        rw [A.eqv_eq] at he
        refine ⟨none, hw, h2, .inr fun _ => ⟨lget s.fr t, V1, ob1, ?_, ho1, ?_, ?_⟩⟩
        · rw [← he]; exact hex
        · by_cases hlt : t < s.fr.length
          · rcases h2 t hdst hlt with ⟨_, h⟩ | ⟨c, h, _⟩
            · exact h
            · cases h
          · rw [lget_out (Nat.not_lt.1 hlt)]; rfl
        · intro t' ht' hlt
          rw [hdst] at ht'; cases ht'
          rcases h2 t hdst hlt with ⟨_, h⟩ | ⟨c, h, _⟩
          · exact isGd_strip h
          · cases h
      split at h
      · rename_i x V1 ob1 t hex hdst hw
        cases h
        exact look_ok hmd htd hc (nth?_arr ho) (plain (.inl hex) hdst hw hob.1 hob.2)
      · rename_i x V1 ob1 t hex hdst hw
        cases h
        exact look_ok hmd htd hc (nth?_arr ho) (plain (.inr hex) hdst hw hob.1 hob.2)
      · rename_i x V1 ob1 t c hex hdst hw
        split at h
        case isTrue => cases h
        rename_i hgd
        cases h
        obtain ⟨he, ho1⟩ := hob
        rw [A.imp_eq] at he
        refine look_ok hmd htd hc (nth?_arr ho) fun hp => ?_
        obtain ⟨r, h1, h2, h3⟩ := hp
        rw [hw] at h1; cases h1
        refine ⟨some c, hw, h2, .inr fun hcc => ⟨x, V1, ob1, .inl hex, impAll_ok ho1 hcc, ?_, ?_⟩⟩
        · simpa using hgd
        · intro t' ht' hlt
          rw [hdst] at ht'; cases ht'
          exact ((A.eqv_eq _ _).1 (he hcc)).symm
      · rename_i x V1 ob1 hex hdst hw
        split at h
        case isTrue => cases h
        rename_i hgd
        cases h
        refine look_ok hmd htd hc (nth?_arr ho) fun hp => ?_
        obtain ⟨r, h1, h2, h3⟩ := hp
        rw [hw] at h1; cases h1
        exact ⟨none, hw, h2, .inr fun _ => ⟨_, _, _, .inl hex, hob, by simpa using hgd, fun t ht => by rw [hdst] at ht; cases ht⟩⟩
      · cases h

end
end Go.Sk
