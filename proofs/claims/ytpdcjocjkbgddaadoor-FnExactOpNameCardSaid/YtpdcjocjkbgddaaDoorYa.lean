/- OpName: both functions hand back the same name; strings.Fields by the shelf's contract, over the library's own table of white space, whose place in memory is a condition of the contracts. -/
import Derived.Test.YtpdcjocjkbgddaaDoorAby
import Derived.Test.YtpdcjocjkbgddaaDoorEqO
import Derived.Test.YtpdcjocjkbgddaaDoorChecked
import Derived.Shelf.Strings.Fields
namespace Go.Proofs
open Go.Shelf
def Tryd.laysFields_ren : Go.Shelf.Ren := ⟨fun | 157 => 9 | 229 => 10 | 199 => 11 | 261 => 12 | 311 => 13 | 312 => 14 | n => n, fun | 9 => 9 | 31 => 25 | 3 => 3 | 5 => 5 | 4 => 4 | 119 => 28 | 0 => 0 | 40 => 30 | 152 => 31 | 21 => 21 | 154 => 33 | 51 => 34 | 141 => 36 | 196 => 40 | 193 => 37 | 198 => 43 | 49 => 41 | 194 => 38 | 201 => 46 | 226 => 48 | 46 => 49 | 227 => 50 | n => n, fun | 0 => 0 | 6 => 1 | n => n⟩
theorem Tryd.laysFields : Go.Proofs.Lays.n157 Tryd.prog Tryd.laysFields_ren := {
  mixed := by kernel_rfl
  f157 := Tryd.func9.trans (congrArg some (by kernel_rfl))
  f199 := Tryd.func11.trans (congrArg some (by kernel_rfl))
  f229 := Tryd.func10.trans (congrArg some (by kernel_rfl))
  f261 := Tryd.func12.trans (congrArg some (by kernel_rfl))
  f311 := Tryd.func13.trans (congrArg some (by kernel_rfl))
  f312 := Tryd.func14.trans (congrArg some (by kernel_rfl))
  t0 := Tryd.underlying0
  a0 := Tryd.isAgg0
  z0 := Tryd.sizeOf0
  v0 := Tryd.zeroValue0
  t3 := Tryd.underlying3
  a3 := Tryd.isAgg3
  z3 := Tryd.sizeOf3
  v3 := Tryd.zeroValue3
  t4 := Tryd.underlying4
  a4 := Tryd.isAgg4
  z4 := Tryd.sizeOf4
  v4 := Tryd.zeroValue4
  t5 := Tryd.underlying5
  a5 := Tryd.isAgg5
  z5 := Tryd.sizeOf5
  v5 := Tryd.zeroValue5
  t9 := Tryd.underlying9
  a9 := Tryd.isAgg9
  z9 := Tryd.sizeOf9
  v9 := Tryd.zeroValue9
  t21 := Tryd.underlying21
  a21 := Tryd.isAgg21
  z21 := Tryd.sizeOf21
  v21 := Tryd.zeroValue21
  t31 := Tryd.underlying25
  a31 := Tryd.isAgg25
  z31 := Tryd.sizeOf25
  v31 := Tryd.zeroValue25
  t40 := Tryd.underlying30
  a40 := Tryd.isAgg30
  z40 := Tryd.sizeOf30
  v40 := Tryd.zeroValue30
  t46 := Tryd.underlying49
  a46 := Tryd.isAgg49
  z46 := Tryd.sizeOf49
  v46 := Tryd.zeroValue49
  t49 := Tryd.underlying41
  a49 := Tryd.isAgg41
  z49 := Tryd.sizeOf41
  v49 := Tryd.zeroValue41
  t51 := Tryd.underlying34
  a51 := Tryd.isAgg34
  z51 := Tryd.sizeOf34
  v51 := Tryd.zeroValue34
  t119 := Tryd.underlying28
  a119 := Tryd.isAgg28
  z119 := Tryd.sizeOf28
  t141 := Tryd.underlying36
  a141 := Tryd.isAgg36
  z141 := Tryd.sizeOf36
  v141 := Tryd.zeroValue36
  t152 := Tryd.underlying31
  a152 := Tryd.isAgg31
  z152 := Tryd.sizeOf31
  v152 := Tryd.zeroValue31
  t154 := Tryd.underlying33
  a154 := Tryd.isAgg33
  z154 := Tryd.sizeOf33
  v154 := Tryd.zeroValue33
  t193 := Tryd.underlying37
  a193 := Tryd.isAgg37
  z193 := Tryd.sizeOf37
  v193 := Tryd.zeroValue37
  t194 := Tryd.underlying38
  a194 := Tryd.isAgg38
  z194 := Tryd.sizeOf38
  v194 := Tryd.zeroValue38
  t196 := Tryd.underlying40
  a196 := Tryd.isAgg40
  z196 := Tryd.sizeOf40
  v196 := Tryd.zeroValue40
  t198 := Tryd.underlying43
  a198 := Tryd.isAgg43
  z198 := Tryd.sizeOf43
  v198 := Tryd.zeroValue43
  t201 := Tryd.underlying46
  a201 := Tryd.isAgg46
  z201 := Tryd.sizeOf46
  v201 := Tryd.zeroValue46
  t226 := Tryd.underlying48
  a226 := Tryd.isAgg48
  z226 := Tryd.sizeOf48
  v226 := Tryd.zeroValue48
  t227 := Tryd.underlying50
  a227 := Tryd.isAgg50
  z227 := Tryd.sizeOf50
  v227 := Tryd.zeroValue50
  g0 := by kernel_rfl
  g6 := by kernel_rfl }
end Go.Proofs
namespace Go.Proofs.YtpdcjocjkbgddaaDoor.Abs
open Go.RowKit
set_option linter.unusedVariables false
set_option maxRecDepth 20000
/-- Where the library's table of white space lies. -/
theorem mixed : Tryd.prog.follows .mixedOrders = true := by kernel_rfl
theorem gTab : Tryd.prog.globalNamed "strings.asciiSpace" = some 0 := by kernel_rfl
def HasTab (m : Mem) : Prop := ∃ t fr, m 0 = some (.cells (Lib.asciiSpaceTab.map fun z => Value.int .u8 z).toArray t fr)
theorem HasTab.le {m m' : Mem} (h : HasTab m) (hl : Mem.le m m') : HasTab m' := by
  obtain ⟨t, fr, h⟩ := h
  exact ⟨t, fr, hl _ _ h⟩
def namesO : List ByteArray := [⟨#[110, 105, 108]⟩, ⟨#[98, 111, 111, 108]⟩, ⟨#[105, 110, 116]⟩, ⟨#[116, 101, 120, 116]⟩, ⟨#[108, 111, 99, 97, 108]⟩, ⟨#[98, 111, 120, 101, 100]⟩, ⟨#[117, 112]⟩, ⟨#[115, 101, 116]⟩, ⟨#[115, 101, 116, 98, 111, 120]⟩, ⟨#[115, 101, 116, 117, 112]⟩, ⟨#[98, 111, 120]⟩, ⟨#[102, 110]⟩, ⟨#[116, 97, 98]⟩, ⟨#[105, 110, 100, 101, 120]⟩, ⟨#[112, 117, 116]⟩, ⟨#[111, 112]⟩, ⟨#[116, 117, 114, 110]⟩, ⟨#[106, 117, 109, 112]⟩, ⟨#[106, 117, 109, 112, 110, 111, 116]⟩, ⟨#[97, 110, 100]⟩, ⟨#[111, 114]⟩, ⟨#[109, 97, 114, 107]⟩, ⟨#[99, 97, 108, 108]⟩, ⟨#[114, 101, 116, 117, 114, 110]⟩, ⟨#[112, 111, 112]⟩, ⟨#[100, 117, 112]⟩, ⟨#[108, 105, 98]⟩]
def nameO (x : Int) : ByteArray := if 1 ≤ x ∧ x ≤ 27 then namesO.getD (x - 1).toNat ⟨#[]⟩ else ⟨#[]⟩
def textO : ByteArray := ⟨#[110, 105, 108, 32, 98, 111, 111, 108, 32, 105, 110, 116, 32, 116, 101, 120, 116, 32, 108, 111, 99, 97, 108, 32, 98, 111, 120, 101, 100, 32, 117, 112, 32, 115, 101, 116, 32, 115, 101, 116, 98, 111, 120, 32, 115, 101, 116, 117, 112, 32, 98, 111, 120, 32, 102, 110, 32, 116, 97, 98, 32, 105, 110, 100, 101, 120, 32, 112, 117, 116, 32, 111, 112, 32, 116, 117, 114, 110, 32, 106, 117, 109, 112, 32, 106, 117, 109, 112, 110, 111, 116, 32, 97, 110, 100, 32, 111, 114, 32, 109, 97, 114, 107, 32, 99, 97, 108, 108, 32, 114, 101, 116, 117, 114, 110, 32, 112, 111, 112, 32, 100, 117, 112, 32, 108, 105, 98]⟩
theorem fieldsO : ((Lib.fields textO.data.toList).map fun l => Value.string ⟨l.toArray⟩) = namesO.map Value.string := by kernel_rfl
theorem asciiO : ∀ b ∈ textO.data.toList, b.toNat < 128 := by decide +kernel
def s9 : Spec := fun args m Q => args = [.string textO] ∧ HasTab m ∧ ∀ g, m g = none → Q (.slice (some ⟨g, 0, none⟩) 27 27) (m.upd g (.cells (namesO.map Value.string).toArray 9 (0, 0)))
theorem m9 : Meets Tryd.prog 9 s9 := by
  rintro args m Q ⟨rfl, ⟨t, fr, hT⟩, h⟩
  refine ⟨⟨Tryd.f9, Tryd.func9, by kernel_rfl, by kernel_rfl⟩, fun w hw => ?_⟩
  have htab : Lib.TabIs Tryd.prog w "strings.asciiSpace" .u8 Lib.asciiSpaceTab := by
    unfold Lib.TabIs World.var?
    rw [gTab]
    simp only [Option.bind_some]
    rw [hw _ _ hT]
  have hc : Calls Tryd.prog 9 #[.string textO] w fun e w' => e = .returned (.slice (some ⟨w.heap.size, 0, none⟩) (Lib.fields textO.data.toList).length (Lib.fields textO.data.toList).length) ∧ w' = w.alloc (.cells ((Lib.fields textO.data.toList).map fun l => Value.string ⟨l.toArray⟩).toArray 9) :=
    Any.strings_Fields Tryd.laysFields (by kernel_rfl) gTab textO w (by decide +kernel) (fun j b hb => asciiO b (List.mem_of_getElem? hb)) htab
  refine hc.mono ?_
  rintro e w' ⟨rfl, rfl⟩
  have e27 : (Lib.fields textO.data.toList).length = 27 := by decide +kernel
  rw [e27, fieldsO]
  have hR : Rel (fun b => m b = none) w m w := ⟨hw, rfl, rfl, rfl, Nat.le_refl _, fun b hb hd => ⟨hd, rfl⟩⟩
  exact ⟨_, _, rfl, h _ (hR.fresh (Nat.le_refl _)), hR.push _⟩
def s6 : Spec := fun args m Q => ∃ x lo hi : Int, args = [.int .i64 x, .int .i64 lo, .int .i64 hi] ∧ Q (.bool (decide (lo ≤ x ∧ x ≤ hi))) m
theorem within_ok {Q : Value → Mem → Prop} {x lo hi : Int} {m : Mem} (hQ : Q (.bool (decide (lo ≤ x ∧ x ≤ hi))) m) : (if (decide (x ≥ lo)) = true then ret Q (.bool (decide (x ≤ hi))) m else ret Q (.bool false) m) := by
  by_cases h : lo ≤ x
  · rw [if_pos (by simpa using h)]
    rw [show decide (lo ≤ x ∧ x ≤ hi) = decide (x ≤ hi) by simp [h]] at hQ
    exact ret_intro (Mem.le_refl _) hQ
  · rw [if_neg (by simpa using h)]
    rw [show decide (lo ≤ x ∧ x ≤ hi) = false by simp [h]] at hQ
    exact ret_intro (Mem.le_refl _) hQ
theorem f6 (t : Tab) : ∀ args m Q, s6 args m Q → FA Tryd.prog (look t) kp6 Tryd.f6 args m Q := by
  rintro args m Q ⟨x, lo, hi, rfl, hQ⟩
  rw [e6]
  exact within_ok hQ
def s8 : Spec := s6
theorem f8 (t : Tab) : ∀ args m Q, s8 args m Q → FA Tryd.prog (look t) kp8 Tryd.f8 args m Q := by
  rintro args m Q ⟨x, lo, hi, rfl, hQ⟩
  rw [e8]
  exact within_ok hQ
def s7 : Spec := fun args m Q => args = [] ∧ ∀ g M, Mem.le m M → M g = some (.cells ((⟨#[]⟩ :: namesO).map Value.string).toArray 9 (0, 0)) → Q (.slice (some ⟨g, 0, none⟩) 28 28) M
theorem f7 (t : Tab) : ∀ args m Q, s7 args m Q → FA Tryd.prog (look t) kp7 Tryd.f7 args m Q := by
  rintro args m Q ⟨rfl, hQ⟩
  rw [e7]
  refine newA_intro fun g m2 hg e hb hle => ?_
  exact ret_intro (Mem.le_refl _) (hQ g m2 hle hb)
theorem str_cell {m : Mem} {g i : Nat} {l : List ByteArray} {t : TypeId} {fr : Nat × Nat} (h : m g = some (.cells (l.map Value.string).toArray t fr)) (hi : i < l.length) : m.cell? ((⟨g, 0, none⟩ : Addr).add (i * 1)) = some (.string (l.getD i ⟨#[]⟩)) := by
  rw [add_eq rfl, Nat.zero_add, Nat.mul_one, cell_of h]
  simp [List.getD_eq_getElem?_getD, hi]
def s4 : Spec := fun args m Q => ∃ x : Int, args = [.int .i64 x] ∧ Q (.string (nameO x)) m
theorem f4 (t : Tab) (h6 : look t 6 = s6) (h7 : look t 7 = s7) : ∀ args m Q, s4 args m Q → FA Tryd.prog (look t) kp4 Tryd.f4 args m Q := by
  rintro args m Q ⟨x, rfl, hQ⟩
  rw [e4]
  refine via h6 ⟨_, _, _, rfl, _, rfl, ?_⟩
  unfold nameO at hQ
  by_cases h : 1 ≤ x ∧ x ≤ 27
  · rw [decide_eq_true h, if_neg (by decide)]
    rw [if_pos h] at hQ
    refine via h7 ⟨rfl, fun g M hle hb => ⟨_, _, _, rfl, ⟨by omega, by omega, ?_⟩⟩⟩
    refine ⟨_, str_cell (l := ⟨#[]⟩ :: namesO) (i := x.toNat) hb (by show x.toNat < 28; omega), ?_⟩
    have e : (⟨#[]⟩ :: namesO).getD x.toNat ⟨#[]⟩ = namesO.getD (x - 1).toNat ⟨#[]⟩ := by
      have : x.toNat = (x - 1).toNat + 1 := by omega
      rw [this]
      rfl
    rw [e]
    exact ret_intro hle hQ
  · rw [decide_eq_false h, if_pos (by decide)]
    rw [if_neg h] at hQ
    exact ret_intro (Mem.le_refl _) hQ
def s5 : Spec := fun args m Q => ∃ x : Int, args = [.int .i64 x] ∧ HasTab m ∧ Q (.string (nameO x)) m
theorem f5 (t : Tab) (h8 : look t 8 = s8) (h9 : look t 9 = s9) : ∀ args m Q, s5 args m Q → FA Tryd.prog (look t) kp5 Tryd.f5 args m Q := by
  rintro args m Q ⟨x, rfl, hT, hQ⟩
  rw [e5]
  refine via h8 ⟨_, _, _, rfl, _, rfl, ?_⟩
  unfold nameO at hQ
  by_cases h : 1 ≤ x ∧ x ≤ 27
  · rw [decide_eq_true h, if_neg (by decide)]
    rw [if_pos h] at hQ
    refine via h9 ⟨rfl, hT, fun g hg => ⟨_, _, _, rfl, ?_⟩⟩
    have e : IntKind.i64.wrap (x - 1) = x - 1 := w64 (by omega) (by omega)
    rw [e]
    refine ⟨by omega, by omega, _, str_cell (l := namesO) (i := (x - 1).toNat) (upd_same _ _ _) (by show (x - 1).toNat < 27; omega), ?_⟩
    exact ret_intro (le_upd hg) hQ
  · rw [decide_eq_false h, if_pos (by decide)]
    rw [if_neg h] at hQ
    exact ret_intro (Mem.le_refl _) hQ
def s3 : Spec := fun args m Q => ∃ x : Int, args = [.int .i64 x] ∧ HasTab m ∧ Q (.bool true) m
theorem f3 (t : Tab) (h4 : look t 4 = s4) (h5 : look t 5 = s5) : ∀ args m Q, s3 args m Q → FA Tryd.prog (look t) kp3 Tryd.f3 args m Q := by
  rintro args m Q ⟨x, rfl, hT, hQ⟩
  rw [e3]
  refine via h4 ⟨_, rfl, _, rfl, ?_⟩
  refine via h5 ⟨_, rfl, hT, _, rfl, ?_⟩
  rw [if_neg (by simp)]
  exact ret_intro (Mem.le_refl _) hQ
end Go.Proofs.YtpdcjocjkbgddaaDoor.Abs
