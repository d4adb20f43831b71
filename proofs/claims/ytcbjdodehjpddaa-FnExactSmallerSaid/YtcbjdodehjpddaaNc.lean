/- Modules: when an instruction is right; ranges and upper variables. -/
import Derived.Test.YtcbjdodehjpddaaNb
namespace Go.Proofs.Ytcbjdodehjpddaa.Abs
open Go.RowKit
set_option linter.unusedVariables false
set_option linter.unusedSimpArgs false
set_option maxRecDepth 20000

def rng (x lo hi : Int) : Bool := decide (lo ≤ x ∧ x ≤ hi)
/-- Are the upper variables of a function right in a proto around it? -/
def upsB (ups : List Up) (slots : Int) (nu : Nat) : Bool := ups.all fun u => rng u.2 0 (IntKind.i64.wrap ((if u.1 then slots else (nu : Int)) - 1))
def insB (M : Mo) (p : Pr) (x : Ins) : Bool :=
  let sl := rng x.2 0 (IntKind.i64.wrap (p.2.1 - 1))
  let up := rng x.2 0 (IntKind.i64.wrap ((p.2.2.1.length : Int) - 1))
  let co := rng x.2 0 (IntKind.i64.wrap ((p.2.2.2.length : Int) - 1))
  if x.1 = 2 then rng x.2 0 1 else if x.1 = 3 then true else if x.1 = 4 then rng x.2 0 (IntKind.i64.wrap ((M.2.length : Int) - 1))
  else if x.1 = 5 then sl else if x.1 = 6 then sl else if x.1 = 8 then sl else if x.1 = 9 then sl else if x.1 = 11 then sl
  else if x.1 = 7 then up else if x.1 = 10 then up
  else if x.1 = 12 then (rng x.2 0 (IntKind.i64.wrap ((M.1.length : Int) - 1)) && upsB (M.1.getD x.2.toNat (0, 0, [], [])).2.2.1 p.2.1 p.2.2.1.length)
  else if x.1 = 16 then rng x.2 1 10 else if x.1 = 17 then rng x.2 1 3
  else if x.1 = 18 then co else if x.1 = 19 then co else if x.1 = 20 then co else if x.1 = 21 then co
  else if x.1 = 23 then rng x.2 0 40 else if x.1 = 27 then rng x.2 1 11 else (rng x.1 1 27 && decide (x.2 = 0))

def s106 : Spec := fun args m Q => ∃ (h h' : PH) (p p' : Pr), args = [vP h, vP h'] ∧ dPr.At m h p ∧ dPr.At m h' p' ∧ p.2.2.1.length ≤ 2 ^ 20 ∧ Q (.bool (upsB p.2.2.1 p'.2.1 p'.2.2.1.length)) m
theorem f106 (t : Tab) (h63 : look t 63 = s63) : ∀ args m Q, s106 args m Q → FA Try.prog (look t) kp106 Try.f106 args m Q := by
  rintro args m Q ⟨⟨p, s, ⟨ua, un, uc⟩, ⟨ca, cn, cc⟩⟩, ⟨p', s', ⟨ua', un', uc'⟩, ⟨ca', cn', cc'⟩⟩, ⟨p0, s0, lu, lc⟩, ⟨p0', s0', lu', lc'⟩, rfl, ⟨hp, hs, hu, hc⟩, ⟨hp', hs', hu', hc'⟩, hok, h⟩
  have hs' : s' = s0' := hs'
  subst hs'
  have hun : un = lu.length := hu.1
  have hun' : un' = lu'.length := hu'.1
  have hur : Rd m ua lu := hu.2
  have hok : lu.length ≤ 2 ^ 20 := hok
  have h : Q (.bool (upsB lu s' lu'.length)) m := h
  show FA Try.prog (look t) kp106 Try.f106 [.agg #[.int .i64 p, .int .i64 s, .slice ua un uc, .slice ca cn cc], .agg #[.int .i64 p', .int .i64 s', .slice ua' un' uc', .slice ca' cn' cc']] m Q
  rw [e106]
  refine newA_intro fun g1 m2 hg1 e2 hb1 hle2 => newA_intro fun g3 m4 hg3 e4 hb3 hle4 => ?_
  refine ⟨_, _, _, cell_of (hle4 _ _ hb1) 2, ?_⟩
  have l4 := Mem.le_trans hle2 hle4
  suffices key : ∀ d i, i + d = un → ∀ M : Mem, Mem.le m4 M → upsB (lu.take i) s' lu'.length = true → L106_2 (look t) (d + 1) Q g3 ua un uc (un : Int) (i : Int) M from ⟨un + 1, key un 0 (by omega) m4 (Mem.le_refl _) rfl⟩
  intro d
  induction d with
  | zero =>
    intro i hi M hM hpre
    rw [l106_2]
    refine ⟨M, Mem.le_refl _, ?_⟩
    rw [if_neg (by simp; omega)]
    rw [List.take_of_length_le (by omega)] at hpre
    rw [hpre] at h
    exact ret_intro (Mem.le_trans l4 hM) h
  | succ d ih =>
    intro i hi M hM hpre
    rw [l106_2]
    refine ⟨M, Mem.le_refl _, ?_⟩
    rw [if_pos (by simp; omega)]
    have hil : i < lu.length := by omega
    have htk : lu.take (i + 1) = lu.take i ++ [lu[i]] := List.take_succ_eq_append_getElem hil
    have hmem := List.getElem_mem hil
    refine idx' (hur.le (Mem.le_trans l4 hM)) hun.symm (by omega) (by omega) fun ad had hd => ?_
    simp only [Int.toNat_natCast] at hd ⊢
    generalize lu[i] = x at *
    obtain ⟨b, v⟩ := x
    refine ⟨_, hd 0 _ rfl, _, hd 1 _ rfl, newA_intro fun g16 m17 hg16 e17 hb17 hle17 => ?_⟩
    refine sto (c := #[.bool false, .int .i64 0]) (t := 101) hb17 rfl (by simp) fun m18 e18 h18 hne18 => ?_
    have h18 : m18 g16 = some (.cells #[.bool b, .int .i64 v] 101 (0, 0)) := h18
    have l18 : Mem.le M m18 := by rw [e18, e17, upd_upd]; exact le_upd hg16
    have b3 := l18 _ _ (hM _ _ hb3)
    refine ⟨_, _, _, cell_of b3 2, _, cell_of h18 0, ?_⟩
    have fin : ∀ most : Int, most = (if b then s' else (lu'.length : Int)) → ∀ r : Bool, r = decide (0 ≤ v ∧ v ≤ IntKind.i64.wrap (most - 1)) →
        (if (!r) = true then ret Q (.bool false) m18 else L106_2 (look t) (d + 1) Q g3 ua un uc (un : Int) (IntKind.i64.wrap ((i : Int) + 1)) m18) := by
      rintro most hm r rfl
      have er : rng v 0 (IntKind.i64.wrap ((if b then s' else (lu'.length : Int)) - 1)) = decide (0 ≤ v ∧ v ≤ IntKind.i64.wrap (most - 1)) := by rw [hm]; rfl
      by_cases hr : 0 ≤ v ∧ v ≤ IntKind.i64.wrap (most - 1)
      · rw [if_neg (by simp [hr]), wsucc (n := un) (by omega) (by omega)]
        refine ih (i + 1) (by omega) m18 (Mem.le_trans hM l18) ?_
        unfold upsB at hpre ⊢
        rw [htk, List.all_append, hpre, Bool.true_and, List.all_cons, List.all_nil, Bool.and_true]
        exact er.trans (decide_eq_true hr)
      · rw [if_pos (by simp [hr])]
        have : upsB lu s' lu'.length = false := by
          unfold upsB
          rw [List.all_eq_false]
          refine ⟨(b, v), hmem, ?_⟩
          have := er.trans (decide_eq_false hr)
          simpa using this
        rw [this] at h
        exact ret_intro (Mem.le_trans l4 (Mem.le_trans hM l18)) h
    cases b with
    | true =>
      rw [if_pos rfl]
      exact ⟨_, cell_of b3 1, _, cell_of h18 1, via h63 ⟨_, _, _, rfl, _, rfl, fin _ rfl _ rfl⟩⟩
    | false =>
      rw [if_neg (by simp)]
      exact ⟨_, cell_of h18 1, via h63 ⟨_, _, _, rfl, _, rfl, fin _ (by simp [hun']) _ rfl⟩⟩
end Go.Proofs.Ytcbjdodehjpddaa.Abs
