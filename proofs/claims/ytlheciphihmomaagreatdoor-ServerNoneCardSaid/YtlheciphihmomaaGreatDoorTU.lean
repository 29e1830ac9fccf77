/- ServerNone's program: the summaries of the library's functions. -/
import Derived.Test.YtlheciphihmomaaGreatDoorTS
import Derived.Test.YtlheciphihmomaaGreatDoorSkZP
import Derived.Test.YtlheciphihmomaaGreatDoorShelf
set_option linter.all false
open Go Go.Sk Go.Proofs
namespace TS

/-- Lib.index, each tail looked at once. -/
def ixOf : List UInt8 → List UInt8 → Int
  | [], m => if m.isEmpty then 0 else -1
  | b :: l, m => match m.isPrefixOf (b :: l) with
    | true => 0
    | false => match ixOf l m with
      | .negSucc _ => -1
      | .ofNat n => .ofNat (n + 1)

theorem ixOf_eq : ∀ (l m : List UInt8), ixOf l m = Lib.index l m ∧ (Lib.index l m = -1 ∨ 0 ≤ Lib.index l m)
  | [], m => by simp only [ixOf, Lib.index, true_and]; split <;> simp
  | b :: l, m => by
    obtain ⟨h1, h2⟩ := ixOf_eq l m
    simp only [ixOf, Lib.index]
    cases m.isPrefixOf (b :: l) with
    | true => simp
    | false =>
      simp only [h1, Bool.false_eq_true, if_false, beq_iff_eq]
      rcases h2 with h2 | h2
      · rw [h2]; exact ⟨rfl, .inl rfl⟩
      · cases h3 : Lib.index l m with
        | ofNat n => simp; omega
        | negSucc n => rw [h3] at h2; simp at h2

def ibOf : List UInt8 → UInt8 → Int
  | [], _ => -1
  | b :: l, c => match b == c with
    | true => 0
    | false => match ibOf l c with
      | .negSucc _ => -1
      | .ofNat n => .ofNat (n + 1)

theorem ibOf_eq : ∀ (l : List UInt8) (c : UInt8), ibOf l c = Lib.indexByte l c ∧ (Lib.indexByte l c = -1 ∨ 0 ≤ Lib.indexByte l c)
  | [], c => by simp [ibOf, Lib.indexByte]
  | b :: l, c => by
    obtain ⟨h1, h2⟩ := ibOf_eq l c
    simp only [ibOf, Lib.indexByte]
    cases b == c with
    | true => simp
    | false =>
      simp only [h1, Bool.false_eq_true, if_false, beq_iff_eq]
      rcases h2 with h2 | h2
      · rw [h2]; exact ⟨rfl, .inl rfl⟩
      · cases h3 : Lib.indexByte l c with
        | ofNat n => simp; omega
        | negSucc n => rw [h3] at h2; simp at h2

def S62 (a b : AV) : Option (AV × List Bool) := match bsOf a, bsOf b with
  | some l, some (c :: m) => some (.d (.int .i64 (ixOf l (c :: m))), [Nat.blt l.length 4294967281, Nat.ble (c :: m).length 9223372036854775807])
  | _, _ => none
def S75 (a b : AV) : Option (AV × List Bool) := match a, b with
  | .d (.str l), .d (.str m) => some (.d (.int .i64 (ixOf l m)), [Nat.blt l.length 4294967281])
  | _, _ => none
def S77 (a b : AV) : Option (AV × List Bool) := match bsOf a, b with
  | some l, .d (.int .u8 c) => some (.d (.int .i64 (ibOf l c.toNat.toUInt8)), [])
  | _, _ => none
def S61 (a b : AV) : Option (AV × List Bool) := match a, b with
  | .d (.str l), .d (.int .u8 c) => some (.d (.int .i64 (ibOf l c.toNat.toUInt8)), [])
  | _, _ => none
def S78 (a b : AV) : Option (AV × List Bool) := match bsOf a, bsOf b with
  | some l, some m => some (.d (.bool (l == m)), [])
  | _, _ => none

def lib (g : FuncId) (args : List AV) : Option (AV × List Bool) :=
  match args with
  | [a, b] => match g with
    | 62 => S62 a b
    | 75 => S75 a b
    | 77 => S77 a b
    | 61 => S61 a b
    | 76 => S61 a b
    | 78 => S78 a b
    | _ => none
  | _ => none

theorem bsOf_all {a : AV} {l : List UInt8} (h : bsOf a = some l) : ∃ d, a = .d d := by
  unfold bsOf at h; split at h <;> first | (cases h; done) | exact ⟨_, rfl⟩

theorem cell0 {ad : Addr} {w : World} {v : Value} (h : ad.spot = none) (hc : w.cell? (ad.add 0) = some v) : ∃ b o, ad = ⟨b, o, none⟩ ∧ w.cell? ⟨b, o, none⟩ = some v := by
  obtain ⟨b, o, s⟩ := ad
  simp only at h; subst h
  exact ⟨b, o, rfl, by simpa [Addr.add] using hc⟩

theorem libOK {P : Program} (hP : P = Tryz.prog) {X : Tb} (hX : X = tb) : SumOK X P lib := by
  subst hP; subst hX
  have body : ∀ n fn, Tryz.prog.funcs[n]? = some fn → fn.body.isSome = true → (fn.name == "runtime.NumGoroutine") = false → bodyOK Tryz.prog n := fun n fn h1 h2 h3 => ⟨fn, h1, h2, h3⟩
  refine ⟨fun g args r ob h ho V => ?_, fun g args r ob h => ?_⟩
  · unfold lib at h
    split at h
    · rename_i a b
      split at h
      · unfold S62 at h
        split at h
        · rename_i l c m ha hb
          cases h
          refine Does.of_calls (body 62 _ Tryz.func62 (by rfl) (by decide +kernel)) fun E w ys hi hys => ?_
          obtain ⟨y, z, rfl, hy, hz⟩ := RVs.two hys
          obtain ⟨m0, hm0⟩ := glob_int hi (show 0 ∈ tb.gi by simp [tb])
          have hsz : l.length < 4294967281 := by simpa [Nat.blt_eq] using ho.1
          have hsm : (c :: m).length ≤ 9223372036854775807 := by simpa [Nat.ble_eq] using ho.2.1
          rw [(ixOf_eq _ _).1]
          rcases bsOf_ok hi hb hz with ⟨ad2, cap2, rfl, hc2, hcell2, hsp2⟩ | ⟨_, h0⟩
          · rcases bsOf_ok hi ha hy with ⟨ad, cap, rfl, hc1, hcell1, hsp1⟩ | ⟨rfl, rfl⟩
            · refine (Tryz.bytes_Index_at ad ad2 l.length cap (c :: m).length cap2 (nums l) (nums (c :: m)) m0 w (by simp [nums]) (by simp [nums]) (nums_rng _) (nums_rng _) hcell1 hcell2 hc1 hsz hsm hm0).mono ?_
              rintro e w' ⟨rfl, q⟩
              rw [bytesOf_nums, bytesOf_nums]
              exact ⟨_, rfl, rv_int.2 rfl, q⟩
            · refine (Tryz.bytes_Index_nil (some ad2) (c :: m).length cap2 w hsm ?_).mono ?_
              · intro _
                obtain ⟨b2, o2, rfl, h2⟩ := cell0 (hsp2 (by simp)) (hcell2 0 (by simp))
                exact ⟨b2, o2, _, rfl, h2⟩
              · rintro e w' ⟨rfl, rfl⟩
                exact ⟨_, rfl, rv_int.2 (by simp [Lib.index]), 0, rfl⟩
          · cases h0
        · cases h
      · unfold S75 at h
        split at h
        · rename_i l m
          cases h
          refine Does.of_calls (body 75 _ Tryz.func75 (by rfl) (by decide +kernel)) fun E w ys hi hys => ?_
          obtain ⟨y, z, rfl, hy, hz⟩ := RVs.two hys
          obtain ⟨m0, hm0⟩ := glob_int hi (show 0 ∈ tb.gi by simp [tb])
          have hsz : l.length < 4294967281 := by simpa [Nat.blt_eq] using ho.1
          rw [rv_str.1 hy, rv_str.1 hz, (ixOf_eq _ _).1]
          refine (Tryz.stringslite_Index ⟨l.toArray⟩ ⟨m.toArray⟩ m0 w (by simpa [ByteArray.size] using hsz) hm0).mono ?_
          rintro e w' ⟨rfl, rfl⟩
          exact ⟨_, rfl, rv_int.2 (by simp), 0, rfl⟩
        · cases h
      · unfold S77 at h
        split at h
        · rename_i l c ha
          cases h
          refine Does.of_calls (body 77 _ Tryz.func77 (by rfl) (by decide +kernel)) fun E w ys hi hys => ?_
          obtain ⟨y, z, rfl, hy, hz⟩ := RVs.two hys
          rw [rv_int.1 hz, (ibOf_eq _ _).1]
          rcases bsOf_ok hi ha hy with ⟨ad, cap, rfl, hc1, hcell1, hsp1⟩ | ⟨rfl, rfl⟩
          · refine (Tryz.bytes_IndexByte_at ad l.length cap (nums l) c w (by simp [nums]) hcell1).mono ?_
            rintro e w' ⟨rfl, rfl⟩
            rw [bytesOf_nums]
            exact ⟨_, rfl, rv_int.2 rfl, 0, rfl⟩
          · refine (Tryz.bytes_IndexByte_nil c w).mono ?_
            rintro e w' ⟨rfl, rfl⟩
            exact ⟨_, rfl, rv_int.2 (by simp [Lib.indexByte]), 0, rfl⟩
        · cases h
      · unfold S61 at h
        split at h
        · rename_i l c
          cases h
          refine Does.of_calls (body 61 _ Tryz.func61 (by rfl) (by decide +kernel)) fun E w ys hi hys => ?_
          obtain ⟨y, z, rfl, hy, hz⟩ := RVs.two hys
          rw [rv_str.1 hy, rv_int.1 hz, (ibOf_eq _ _).1]
          refine (Tryz.strings_IndexByte ⟨l.toArray⟩ c w).mono ?_
          rintro e w' ⟨rfl, rfl⟩
          exact ⟨_, rfl, rv_int.2 (by simp), 0, rfl⟩
        · cases h
      · unfold S61 at h
        split at h
        · rename_i l c
          cases h
          refine Does.of_calls (body 76 _ Tryz.func76 (by rfl) (by decide +kernel)) fun E w ys hi hys => ?_
          obtain ⟨y, z, rfl, hy, hz⟩ := RVs.two hys
          rw [rv_str.1 hy, rv_int.1 hz, (ibOf_eq _ _).1]
          refine (Tryz.stringslite_IndexByte ⟨l.toArray⟩ c w).mono ?_
          rintro e w' ⟨rfl, rfl⟩
          exact ⟨_, rfl, rv_int.2 (by simp), 0, rfl⟩
        · cases h
      · unfold S78 at h
        split at h
        · rename_i l m ha hb
          cases h
          refine Does.of_calls (body 78 _ Tryz.func78 (by rfl) (by decide +kernel)) fun E w ys hi hys => ?_
          obtain ⟨y, z, rfl, hy, hz⟩ := RVs.two hys
          have hin : ∀ {v : Value} {k : List UInt8}, ((∃ ad cap, v = .slice (some ad) k.length cap ∧ k.length ≤ cap ∧ (∀ i, i < k.length → w.cell? (ad.add i) = some (.int .u8 ((nums k).getD i 0))) ∧ (k ≠ [] → ad.spot = none)) ∨ (v = .slice none 0 0 ∧ k = [])) →
              ∃ p c, v = .slice p k.length c ∧ Lib.BytesIn w p k.length (nums k) := by
            intro v k hk
            rcases hk with ⟨ad, cap, rfl, _, hcell, hsp⟩ | ⟨rfl, rfl⟩
            · exact ⟨_, _, rfl, Lib.BytesIn.of_cells hcell⟩
            · exact ⟨_, _, rfl, Lib.BytesIn.nil _ _ _⟩
          obtain ⟨p1, c1, rfl, hb1⟩ := hin (bsOf_ok hi ha hy)
          obtain ⟨p2, c2, rfl, hb2⟩ := hin (bsOf_ok hi hb hz)
          refine (Tryz.bytes_Equal_all p1 p2 l.length c1 m.length c2 (nums l) (nums m) w (by simp [nums]) (by simp [nums]) hb1 hb2).mono ?_
          rintro e w' ⟨rfl, rfl⟩
          rw [bytesOf_nums, bytesOf_nums]
          exact ⟨_, rfl, rv_bool.2 rfl, 0, rfl⟩
        · cases h
      · cases h
    · cases h
  · unfold lib at h
    split at h
    · rename_i a b
      have two : ∀ {x y : D}, allDs [.d x, .d y] = true := fun {x y} => rfl
      split at h
      · unfold S62 at h; split at h
        · rename_i ha hb; obtain ⟨x, rfl⟩ := bsOf_all ha; obtain ⟨y, rfl⟩ := bsOf_all hb; exact two
        · cases h
      · unfold S75 at h; split at h
        · exact two
        · cases h
      · unfold S77 at h; split at h
        · rename_i ha; obtain ⟨x, rfl⟩ := bsOf_all ha; exact two
        · cases h
      · unfold S61 at h; split at h
        · exact two
        · cases h
      · unfold S61 at h; split at h
        · exact two
        · cases h
      · unfold S78 at h; split at h
        · rename_i ha hb; obtain ⟨x, rfl⟩ := bsOf_all ha; obtain ⟨y, rfl⟩ := bsOf_all hb; exact two
        · cases h
      · cases h
    · cases h

end TS
