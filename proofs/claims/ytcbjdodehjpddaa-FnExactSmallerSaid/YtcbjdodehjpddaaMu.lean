/- Modules: the contracts of the functions that look whether the marks are there. -/
import Derived.Test.YtcbjdodehjpddaaMt
namespace Go.Proofs.Ytcbjdodehjpddaa.Abs
open Go.RowKit
set_option linter.unusedVariables false
set_option linter.unusedSimpArgs false
set_option maxRecDepth 20000

def s58 : Spec := hdS dUp vs (fun k l => marks56 k l.length) (fun l => 2 * l.length) okR (2 ^ 50)
theorem f58 (t : Tab) : ∀ args m Q, s58 args m Q → FA Try.prog (look t) kp58 Try.f58 args m Q := by
  rintro args m Q ⟨⟨a, n, c⟩, l, k, rfl, ⟨hn, hrd⟩, hok, hk0, hk1, h⟩
  have hn : n = (marks56 k l.length).length := hn
  rw [marks56_len] at hn
  have hok : l.length ≤ 2 ^ 20 := hok
  have hrd : Rd m a (marks56 k l.length) := hrd
  show FA Try.prog (look t) kp58 Try.f58 [.slice a n c, .int .i64 k] m Q
  rw [e58]
  suffices key : ∀ d i, i + d = n → L58_2 (look t) (d + 1) Q a n c (k + 2 * (i : Int)) (i : Int) m from ⟨n + 1, by simpa using key n 0 (by omega)⟩
  intro d
  induction d with
  | zero =>
    intro i hi
    rw [l58_2]
    refine ⟨m, Mem.le_refl _, ?_⟩
    rw [if_neg (by simp; omega)]
    have e : k + 2 * (i : Int) = k + ((2 * l.length : Nat) : Int) := by push_cast; omega
    rw [e]
    exact ret_intro (Mem.le_refl _) h
  | succ d ih =>
    intro i hi
    rw [l58_2]
    refine ⟨m, Mem.le_refl _, ?_⟩
    rw [if_pos (by simp; omega)]
    have hx : (marks56 k l.length)[i]'(by rw [marks56_len]; omega) = ((Int.tmod (k + 2 * (i : Int)) 3 == 0), k + 2 * (i : Int) + 1) := by simp [marks56]
    refine idx' hrd (by rw [marks56_len]; exact hn.symm) (by omega) (by omega) fun ad had hd => ?_
    simp only [Int.toNat_natCast] at hd ⊢
    rw [hx] at hd
    refine ⟨_, hd 0 _ rfl, by decide, ?_⟩
    rw [if_neg (by simp)]
    refine idx' hrd (by rw [marks56_len]; exact hn.symm) (by omega) (by omega) fun ad' had' hd' => ?_
    simp only [Int.toNat_natCast] at hd' ⊢
    rw [hx] at hd'
    refine ⟨_, hd' 1 _ rfl, ?_⟩
    rw [w64 (x := k + 2 * (i : Int) + 1) (by omega) (by omega), if_neg (by simp), w64 (by omega) (by omega), wsucc (n := n) (by omega) (by omega), show k + 2 * (i : Int) + 1 + 1 = k + 2 * ((i + 1 : Nat) : Int) by omega]
    exact ih (i + 1) (by omega)
def s59 : Spec := hdS dIns vs (fun k l => marks57 k l.length) (fun l => 2 * l.length) okR (2 ^ 50)
theorem f59 (t : Tab) : ∀ args m Q, s59 args m Q → FA Try.prog (look t) kp59 Try.f59 args m Q := by
  rintro args m Q ⟨⟨a, n, c⟩, l, k, rfl, ⟨hn, hrd⟩, hok, hk0, hk1, h⟩
  have hn : n = (marks57 k l.length).length := hn
  rw [marks57_len] at hn
  have hok : l.length ≤ 2 ^ 20 := hok
  have hrd : Rd m a (marks57 k l.length) := hrd
  show FA Try.prog (look t) kp59 Try.f59 [.slice a n c, .int .i64 k] m Q
  rw [e59]
  suffices key : ∀ d i, i + d = n → L59_2 (look t) (d + 1) Q a n c (k + 2 * (i : Int)) (i : Int) m from ⟨n + 1, by simpa using key n 0 (by omega)⟩
  intro d
  induction d with
  | zero =>
    intro i hi
    rw [l59_2]
    refine ⟨m, Mem.le_refl _, ?_⟩
    rw [if_neg (by simp; omega)]
    have e : k + 2 * (i : Int) = k + ((2 * l.length : Nat) : Int) := by push_cast; omega
    rw [e]
    exact ret_intro (Mem.le_refl _) h
  | succ d ih =>
    intro i hi
    rw [l59_2]
    refine ⟨m, Mem.le_refl _, ?_⟩
    rw [if_pos (by simp; omega)]
    have hx : (marks57 k l.length)[i]'(by rw [marks57_len]; omega) = (k + 2 * (i : Int), k + 2 * (i : Int) + 1) := by simp [marks57]
    refine idx' hrd (by rw [marks57_len]; exact hn.symm) (by omega) (by omega) fun ad had hd => ?_
    simp only [Int.toNat_natCast] at hd ⊢
    rw [hx] at hd
    refine ⟨_, hd 0 _ rfl, ?_⟩
    rw [if_neg (by simp)]
    refine idx' hrd (by rw [marks57_len]; exact hn.symm) (by omega) (by omega) fun ad' had' hd' => ?_
    simp only [Int.toNat_natCast] at hd' ⊢
    rw [hx] at hd'
    refine ⟨_, hd' 1 _ rfl, ?_⟩
    rw [w64 (x := k + 2 * (i : Int) + 1) (by omega) (by omega), if_neg (by simp), w64 (by omega) (by omega), wsucc (n := n) (by omega) (by omega), show k + 2 * (i : Int) + 1 + 1 = k + 2 * ((i + 1 : Nat) : Int) by omega]
    exact ih (i + 1) (by omega)
def s84 : Spec := hdS dTx vs mkTx (fun l => l.length) okR (2 ^ 49)
theorem f84 (t : Tab) (h94 : look t 94 = s94) : ∀ args m Q, s84 args m Q → FA Try.prog (look t) kp84 Try.f84 args m Q := by
  rintro args m Q ⟨⟨a, n, c⟩, l, k, rfl, ⟨hn, hrd⟩, hok, hk0, hk1, h⟩
  have hn : n = (mkTx k l).length := hn
  rw [mkTx_len] at hn
  have hok : l.length ≤ 2 ^ 20 := hok
  have hrd : Rd m a (mkTx k l) := hrd
  show FA Try.prog (look t) kp84 Try.f84 [.slice a n c, .int .i64 k] m Q
  rw [e84]
  suffices key : ∀ d i, i + d = n → L84_2 (look t) (d + 1) Q a n c (k + (i : Int)) (i : Int) m from ⟨n + 1, by simpa using key n 0 (by omega)⟩
  intro d
  induction d with
  | zero =>
    intro i hi
    rw [l84_2]
    refine ⟨m, Mem.le_refl _, ?_⟩
    rw [if_neg (by simp; omega)]
    have e : k + (i : Int) = k + ((l.length : Nat) : Int) := by omega
    rw [e]
    exact ret_intro (Mem.le_refl _) h
  | succ d ih =>
    intro i hi
    rw [l84_2]
    refine ⟨m, Mem.le_refl _, ?_⟩
    rw [if_pos (by simp; omega)]
    have hx : (mkTx k l)[i]'(by rw [mkTx_len]; omega) = mtx (k + (i : Int)) := by simp [mkTx]
    refine ⟨Mem.le m, Mem.le_refl _, idx hrd (by rw [mkTx_len]; exact hn.symm) (by omega) (by omega) fun ad had hd => ?_⟩
    simp only [Int.toNat_natCast] at hd ⊢
    rw [hx] at hd
    refine ⟨_, held (hd 0 _ rfl), via h94 ⟨_, rfl, by omega, by omega, _, rfl, Mem.le_refl _, ?_⟩⟩
    rw [if_neg (by simp), w64 (by omega) (by omega), wsucc (n := n) (by omega) (by omega), show k + (i : Int) + 1 = k + ((i + 1 : Nat) : Int) by omega]
    exact ih (i + 1) (by omega)
end Go.Proofs.Ytcbjdodehjpddaa.Abs
