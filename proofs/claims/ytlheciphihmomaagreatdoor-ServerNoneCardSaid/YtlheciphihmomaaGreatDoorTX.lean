/- ServerNone, closed. -/
import Derived.Test.YtlheciphihmomaaGreatDoorCards
import Derived.Test.YtlheciphihmomaaGreatDoorTie
import Derived.WalkKit
import Derived.ProofKit
import Derived.OpenShut
import Derived.Deep.DeepHandedRow
import Derived.Deep.DeepWitnessRowRef
import Derived.Lib.LaidTab
import Derived.Lib.LaidIn
import Derived.Test.YtlheciphihmomaaGreatDoorTW
set_option linter.all false
namespace Go.Proofs.YtlheciphihmomaaGreatDoor.serverNone
open Go.Sk Go.ChangeShapes Go.WideShapes Go.ChangeAt Go.RowKit Go.Lib

theorem own : ownKnob Tryz.prog.godebug = none := by kernel_rfl

/-- What a row's list reads as, as cells. -/
def lit1 : DataW Unit → Value
  | .lit (.int k n) => .int k n
  | _ => .bool false
def flat1 : DataW Unit → List Value
  | .agg l => l.map lit1
  | d => [lit1 d]
def flat2 : DataW Unit → List Value
  | .agg l => l.flatMap flat1
  | d => [lit1 d]
def errText : DataW Unit → Value
  | .iface _ (.ptr (.agg [.lit (.string s)])) => .string ⟨s.toArray⟩
  | _ => .bool false

/-- THE WITNESS: the settled world, the listed variables holding what they read as, the two errors' structs in two blocks more. -/
noncomputable def laidWorld (os : Os) : World :=
  let N := (World.settled Tryz.prog os).heap.size
  let w0 := World.holding Tryz.prog os ⟨#[.cells #[errText Rows.laid_strconv_ErrSyntax] 162, .cells #[errText Rows.laid_strconv_ErrRange] 162], #[], []⟩
  let put (h : Array Obj) (g : Nat) (cs : Array Value) : Array Obj := h.modify g fun
    | .cells _ t frozen => .cells cs t frozen
    | o => o
  let h0 := put (put w0.heap 2 #[.iface 160 (.pointer (some ⟨N, 0, none⟩))]) 3 #[.iface 160 (.pointer (some ⟨N + 1, 0, none⟩))]
  let h1 := put h0 1 (flat1 Rows.laid_internal_strconv_uint64pow10).toArray
  let h2 := put h1 4 (flat1 Rows.laid_math_bits_deBruijn32tab).toArray
  let h3 := put h2 5 (flat1 Rows.laid_math_bits_deBruijn64tab).toArray
  let h4 := put h3 6 (flat1 Rows.laid_unicode_utf8_first).toArray
  let h5 := put h4 7 (flat2 Rows.laid_unicode_utf8_acceptRanges).toArray
  { w0 with heap := h5 }

noncomputable abbrev N0 : Nat := (World.settled Tryz.prog default).heap.size
theorem piece0 (os : Os) (args : Array Value) : LaidIn Tryz.prog ((laidWorld os).forCall (fun _ _ => 0) ⟨#[], args, []⟩).memory Rows.serverNoneRow.laid [1, 2, 3, 4, 5, 6, 7, N0, N0 + 1] :=
  LaidIn.of_run [1, 2, 3, 4, 5, 6, 7, N0, N0 + 1] 8 (by kernel_rfl) (by kernel_rfl) (by kernel_rfl) (by kernel_rfl)
theorem laid_met (os : Os) (args : Array Value) : laidMet Tryz.prog Rows.serverNoneRow.laid ((laidWorld os).forCall (fun _ _ => 0) ⟨#[], args, []⟩).memory := (piece0 os args).met

set_option maxRecDepth 100000 in
/-- The contract, for every argument and every world. -/
theorem contract (H : Type) (enc : TypeId × Value → H) (W : World) (base : Nat) (args : Array Value) (ds gs : List (DataW H)) (before : List MemPlace)
    (hval : ∀ (j : Nat) t v, Tryz.f6.params[j]? = some t → args[j]? = some v → Value.okWide Tryz.prog W .any base t v)
    (hW : DataW.Whole enc Tryz.prog Tryz.f6.params.toList Rows.serverNoneSpec.vars false W args.toList ds gs before) (hsh : W.ShapedOpen Tryz.prog) :
    Calls Tryz.prog 6 args W fun e W' => ∃ v, e = .returned v ∧ Rows.serverNoneSpec.post enc Tryz.prog Tryz.f6 false true false false W args v W' := by
  have hW' := hW
  obtain ⟨p, q, hA0, hV, rfl, hfz, hnd⟩ := hW
  have hA : DataW.TrodAll enc Tryz.prog W 0 (fun _ => true) true Tryz.f6.params.toList args.toList ds p := hA0
  rw [Tryz.params6] at hA hval
  obtain ⟨v0, vs0, d0, ds0, p0, q0, hargs, rfl, rfl, h0, r0⟩ := trodAll_cons hA
  obtain ⟨v1, vs1, d1, ds1, p1, q1, rfl, rfl, rfl, h1, r1⟩ := trodAll_cons r0
  obtain ⟨rfl, rfl, rfl⟩ := trodAll_nil r1
  obtain rfl : args = #[v0, v1] := by cases args; simp_all
  obtain ⟨rfl, rfl⟩ := trodVars_none hV
  clear hA0
  have u32 : Tryz.prog.underlying 32 = some (.slice 5) := by kernel_rfl
  have u5 : Tryz.prog.underlying 5 = some (.int .u8) := by kernel_rfl
  have u3 : Tryz.prog.underlying 3 = some (.int .i64) := by kernel_rfl
  have u4 : Tryz.prog.underlying 4 = some .bool := by kernel_rfl
  obtain ⟨n, rfl, rfl, rfl, hwf⟩ := open_int u3 (hval 1 3 v1 (by simp) (by simp)) h1
  have hv0 : v0.cells.toList = [v0] := by
    obtain ⟨a, len, cap, rfl⟩ := okWide_slice u32 (hval 0 32 v0 (by simp) (by simp))
    rfl
  have hglob : GlobOK TS.tb (E0 W) := by
    refine ⟨fun g x h => ?_, fun g hg => ?_⟩
    · exact absurd (show glob [] g = some x from h) (by simp [glob])
    · have hg : g ∈ [0] := hg
      simp only [List.mem_cons, List.not_mem_nil, or_false] at hg
      subst hg
      obtain ⟨m, hm⟩ := Tryz.laysM185.s1_3 W hsh
      exact ⟨m, hm⟩
  obtain ⟨l, _, hrv, hback⟩ := arg_bytes (X := TS.tb) u32 u5 (by kernel_rfl) hv0 h0
  simp only [List.append_nil] at hW'
  refine ((TS.none_runs l n).calls (inv0 hglob) (RVs.cons_iff.2 ⟨_, _, rfl, hrv, RVs.cons_iff.2 ⟨_, _, rfl, rv_int.2 rfl, by simp [RVs]⟩⟩)).mono ?_
  rintro e W' ⟨a, V', E', rfl, _, hx, y, rfl, hy⟩
  obtain rfl := rv_bool.1 hy
  refine ⟨_, rfl, post_of_old (pv := []) hW' hx (fun _ _ _ => trodAll_cons_mk (shut_bool u4 _) trodAll_mk0) (fun sp hsp => trodAll_cons_mk (hback W' E' sp hx (fun p hp => hsp p (by simpa using hp))) (trodAll_cons_mk (shut_int u3 hwf) trodAll_mk0)) (fun _ _ => rfl) ?_
    (ok_one (by kernel_rfl) rfl (okWide_bool_mk u4 _))⟩
  simp

theorem witness_row (os : Os) {H : Type} (enc : TypeId × Value → H) :
    (OpenSpec.ofChange Rows.serverNoneSpec).preRow enc Tryz.prog Tryz.f6 Rows.serverNoneRow.domain false Rows.serverNoneRow.laid ((laidWorld os).forCall (fun _ _ => 0) ⟨#[], #[.slice none 0 0, .int .i64 0], []⟩).memory #[.slice none 0 0, .int .i64 0] := by
  have hw : (DataW.whole enc Tryz.prog ((laidWorld os).forCall (fun _ _ => 0) ⟨#[], #[.slice none 0 0, .int .i64 0], []⟩).memory Tryz.f6.params.toList Rows.serverNoneSpec.vars false #[Value.slice none 0 0, .int .i64 0].toList 8).map (fun x => (x.1, x.2.1)) =
      some ([.nil, .lit (.int .i64 0)], []) := by kernel_rfl
  obtain ⟨⟨x1, x2, x3⟩, hx, hx1⟩ := Option.map_eq_some_iff.1 hw
  simp only [Prod.mk.injEq] at hx1
  obtain ⟨rfl, rfl⟩ := hx1
  exact OpenSpec.preRow_of_cond 8 hx (by kernel_rfl) (fun k hk => by cases hk) (by kernel_rfl) (laid_met os _)

set_option maxRecDepth 100000 in
theorem lifted (os : Os) (started : os.Started) (H : Type) (enc : TypeId × Value → H) (F : Stop.Interp) :
    ReturnsInHanded {} Tryz.checked os 6 .any ((OpenSpec.ofChange Rows.serverNoneSpec).preRow enc Tryz.prog Tryz.f6 Rows.serverNoneRow.domain false Rows.serverNoneRow.laid) (((OpenSpec.ofChange Rows.serverNoneSpec).at F).post enc Tryz.prog Tryz.f6 false true false false) := by
  refine returnsInHanded_of_row (C := Tryz.checked) (s := OpenSpec.ofChange Rows.serverNoneSpec) own started (by kernel_rfl) Tryz.func6
    (witness_row_atRef (enc := enc) (C := Tryz.checked) false (laidWorld os) #[.slice none 0 0, .int .i64 0] rfl (by kernel_rfl) (by kernel_rfl) (by kernel_rfl) (witness_row os enc)) ?_
  intro W base args ds gs before hval hW _ _ _ _ hsh _
  exact contract H enc W base args ds gs before hval hW hsh

theorem said : Rows.ServerNoneSaid :=
  OpenClaim.holds_of_cond 6 Tryz.f6 rfl rfl rfl rfl rfl rfl rfl ⟨rfl, rfl, rfl, rfl, rfl⟩ rfl rfl rfl rfl rfl (by kernel_rfl) Tryz.func6 (by kernel_rfl)
    (of_decide_eq_true (by kernel_rfl)) (by unfold Func.isWrapper; first | (rw [if_pos (by decide +kernel)]; kernel_rfl) | (rw [if_neg (by decide +kernel)]; exact ⟨rfl, rfl⟩))
    (fun os started H enc _ F => by rw [OpenClaim.pre_eq_preRow]; exact lifted os started H enc F)

/-- No parameter wants a stand-in; the program's own looks are on: what the card asks. -/
theorem plain (f : FuncId) (fn : Func) (hf : Tryz.pinned.checked.prog.funcNamed "scriptorium/scriptoriumlaw25.ServerNone" = some f) (hfn : Tryz.pinned.checked.prog.funcs[f]? = some fn) :
    true = Tryz.pinned.checked.prog.looks [] ∧ ∀ (j : Nat) t, fn.params[j]? = some t → Tryz.pinned.checked.prog.wantsStandIn t = false := by
  obtain rfl : f = 6 := Option.some.inj ((show Tryz.prog.funcNamed "scriptorium/scriptoriumlaw25.ServerNone" = some 6 by kernel_rfl).symm.trans hf) |>.symm
  obtain rfl : fn = Tryz.f6 := (Option.some.inj (Tryz.func6.symm.trans hfn)).symm
  refine ⟨by kernel_rfl, fun j t ht => ?_⟩
  rw [Tryz.params6] at ht
  have h : t = 32 ∨ t = 3 := by simpa using Array.mem_of_getElem? ht
  rcases h with rfl | rfl
  · exact (show Tryz.prog.wantsStandIn 32 = false by kernel_rfl)
  · exact (show Tryz.prog.wantsStandIn 3 = false by kernel_rfl)

theorem card : Rows.ServerNoneCardSaid :=
  Claim7.holds_tied_plain_at .later [] _ _ _ _ said (fun _ h => by cases h) (by kernel_rfl) (fun _ h => by cases h) serverNone_row_tie rfl ⟨rfl, rfl⟩ (by kernel_rfl) rfl plain (by kernel_rfl)
#print axioms card
end Go.Proofs.YtlheciphihmomaaGreatDoor.serverNone
