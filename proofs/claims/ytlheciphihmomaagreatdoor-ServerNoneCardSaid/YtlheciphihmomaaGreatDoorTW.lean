/- ServerNone, walked. -/
import Derived.Test.YtlheciphihmomaaGreatDoorTV
import Derived.Test.YtlheciphihmomaaGreatDoorSkZQ
set_option linter.all false
open Go Go.Sk Go.Proofs
namespace TS

theorem tok {S : FuncId → List AV → Option (AV × List Bool)} : TOK tb Tryz.prog S (look fis) := TOK.of fisOK

theorem awake_does : Does tb Tryz.prog (.fn 8 [] []) [] [] fun e _ => e = .ret (.d (.bool true)) := by
  obtain ⟨V, h⟩ := isTrue_ok awake_runs
  exact ((run_ok tok tbOK (libOK rfl rfl) mixed _).2 _ _ _ _ _ h).mono fun e V' he => he.1

def libA (g : FuncId) (args : List AV) : Option (AV × List Bool) :=
  match args with
  | [] => match g with
    | 8 => some (.d (.bool true), [])
    | _ => none
  | _ => lib g args

theorem libAOK : SumOK tb Tryz.prog libA := by
  refine ⟨fun g args r ob h ho V => ?_, fun g args r ob h => ?_⟩
  · unfold libA at h
    split at h
    · split at h
      · cases h
        exact awake_does.frame rfl V
      · cases h
    · exact (libOK rfl rfl).1 g args r ob h ho V
  · unfold libA at h
    split at h
    · rfl
    · exact (libOK rfl rfl).2 g args r ob h

def okT (e : AE) (_ : List AO) : Bool := match e with
  | .ret (.d (.bool true)) => true
  | _ => false
theorem okT_ok {e : AE} {V : List AO} (h : okT e V = true) : e = .ret (.d (.bool true)) := by
  unfold okT at h; split at h <;> first | (cases h; done) | rfl

noncomputable def none_test (p : List UInt8 × Int) : Bool := symA Astd tb libA (look fis) okT 1000 [false, true] 6 fi6 (start [.d (.sl (.b p.1)), .d (.int .i64 p.2)] fi6.n []) 

theorem none_sym (p : List UInt8 × Int) : none_test p = true := wit_all (by decide +kernel) p

theorem none_runs (l : List UInt8) (n : Int) : Runs tb Tryz.prog 6 [.d (.sl (.b l)), .d (.int .i64 n)] [] fun e _ => e = .ret (.d (.bool true)) :=
  (Runs.sym tok tbOK libAOK mixed (F := 6) (fi := fi6) rfl rfl 1000 _ (none_sym (l, n))).mono fun _ _ h => okT_ok h
end TS
