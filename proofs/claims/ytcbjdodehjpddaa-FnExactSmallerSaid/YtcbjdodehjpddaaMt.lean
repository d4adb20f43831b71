/- Modules: the contracts of the functions that write marks into texts and into modules. -/
import Derived.Test.YtcbjdodehjpddaaMs
namespace Go.Proofs.Ytcbjdodehjpddaa.Abs
open Go.RowKit
set_option linter.unusedVariables false
set_option linter.unusedSimpArgs false
set_option maxRecDepth 20000

theorem u8_range (x : Int) : 0 ≤ IntKind.u8.wrap x ∧ IntKind.u8.wrap x < 256 := by
  unfold IntKind.wrap
  simp [IntKind.bits, IntKind.signed]
  omega
def digB (k : Int) : UInt8 := UInt8.ofNat (IntKind.u8.wrap (IntKind.i64.wrap ((48 : Int) + (Int.tmod k (10 : Int))))).toNat
theorem digB_val (k : Int) : ((digB k).toNat : Int) = IntKind.u8.wrap (IntKind.i64.wrap ((48 : Int) + (Int.tmod k (10 : Int)))) := by
  unfold digB
  have := u8_range (IntKind.i64.wrap ((48 : Int) + (Int.tmod k (10 : Int))))
  generalize IntKind.u8.wrap (IntKind.i64.wrap ((48 : Int) + (Int.tmod k (10 : Int)))) = v at *
  simp
  omega
def dg : Nat → Int → ByteArray → ByteArray
  | 0, _, acc => acc
  | f + 1, k, acc => if k > 0 then dg f (k.tdiv 10) (⟨#[digB k]⟩ ++ acc) else acc
def mtx (k : Int) : ByteArray := ⟨#[109]⟩ ++ dg (k.toNat + 1) k ⟨#[]⟩

def s94 : Spec := fun args m Q => ∃ k : Int, args = [.int .i64 k] ∧ 0 < k ∧ k ≤ 2 ^ 50 ∧ Q (.string (mtx k)) m
theorem f94 (t : Tab) : ∀ args m Q, s94 args m Q → FA Try.prog (look t) kp94 Try.f94 args m Q := by
  rintro args m Q ⟨k, rfl, hk0, hk1, h⟩
  rw [e94, if_neg (by simp; omega)]
  suffices key : ∀ (f : Nat) (k : Int) (acc : ByteArray) (M : Mem), 0 ≤ k → k.toNat < f → acc.size + k.toNat ≤ 2 ^ 51 → Mem.le m M → Q (.string (⟨#[109]⟩ ++ dg f k acc)) m → L94_4 (look t) f Q k acc M from
    ⟨k.toNat + 1, key _ k _ m (by omega) (by omega) (by show 0 + _ ≤ _; omega) (Mem.le_refl _) h⟩
  intro f
  induction f with
  | zero => intro k acc M h0 h1; omega
  | succ f ih =>
    intro k acc M h0 h1 h2 hle hq
    rw [l94_4]
    refine ⟨M, Mem.le_refl _, ?_⟩
    by_cases hk : k > 0
    · rw [if_pos (by simpa using hk)]
      refine ⟨by decide, newA_intro fun g3 m4 hg3 e4 hb4 hle4 => ⟨[digB k], rfl, ?_, ?_⟩⟩
      · intro j v hj
        cases j with
        | zero =>
          simp only [List.map_cons, List.getElem?_cons_zero, Option.some.injEq] at hj
          rw [← hj, digB_val, add_eq rfl]
          exact cell_of hb4 0
        | succ j => simp at hj
      · have hsz : ByteArray.size ⟨[digB k].toArray⟩ = 1 := rfl
        have hd : (k.tdiv 10).toNat + 1 ≤ k.toNat ∧ 0 ≤ k.tdiv 10 ∧ k.tdiv 10 ≤ k := by
          rw [Int.tdiv_eq_ediv_of_nonneg h0]
          omega
        have hs2 : (⟨[digB k].toArray⟩ ++ acc : ByteArray).size = 1 + acc.size := by rw [ByteArray.size_append]; rfl
        refine ⟨by rw [hsz]; omega, by decide, ?_⟩
        rw [w64 (by omega) (by omega)]
        refine ih _ _ m4 hd.2.1 (by omega) (by rw [hs2]; omega) (Mem.le_trans hle hle4) ?_
        simp only [dg] at hq
        rw [if_pos hk] at hq
        exact hq
    · rw [if_neg (by simpa using hk)]
      refine ⟨?_, ret_intro hle ?_⟩
      · have : ByteArray.size ⟨#[109]⟩ = 1 := rfl
        rw [this]
        omega
      · simp only [dg] at hq
        rw [if_neg hk] at hq
        exact hq

def mkTx (k : Int) (l : List ByteArray) : List ByteArray := (List.range l.length).map fun i : Nat => mtx (k + i)
theorem mkTx_len (k : Int) (l : List ByteArray) : (mkTx k l).length = l.length := by simp [mkTx]
def s82 : Spec := mkS dTx vs mkTx (fun l => l.length) okR (2 ^ 49)
theorem f82 (t : Tab) (h94 : look t 94 = s94) : ∀ args m Q, s82 args m Q → FA Try.prog (look t) kp82 Try.f82 args m Q := by
  rintro args m Q ⟨⟨a, n, c⟩, l, D, k, rfl, ⟨hn, hO⟩, hnd, hok, hk0, hk1, h⟩
  have hn : n = l.length := hn
  have hok : l.length ≤ 2 ^ 20 := hok
  subst hn
  show FA Try.prog (look t) kp82 Try.f82 [.slice a l.length c, .int .i64 k] m Q
  rw [e82]
  rcases hO with ⟨ha, hc, hl, hD⟩ | ⟨g, ty, spare, ha, hD, hm, hsz⟩
  · have ha : a = none := ha
    have hc : c = 0 := hc
    subst ha hc hl hD
    refine ⟨1, ?_⟩
    rw [l82_2]
    refine ⟨m, Mem.le_refl _, ?_⟩
    rw [if_neg (by simp)]
    have := h m (fun _ _ => rfl) ⟨rfl, .inl ⟨rfl, rfl, rfl, rfl⟩⟩
    simp at this
    exact ret_intro (Mem.le_refl _) this
  · have ha : a = some ⟨g, 0, none⟩ := ha
    subst ha hD
    suffices key : ∀ d i, i + d = l.length → ∀ m', m' = m.upd g (.cells (flat Enc.e ((List.range i).map (fun i : Nat => mtx (k + i)) ++ l.drop i) ++ spare).toArray ty (0, 0)) → L82_2 (look t) (d + 1) Q (some ⟨g, 0, none⟩) l.length c (k + i) (i : Int) m' from by
      refine ⟨l.length + 1, ?_⟩
      have := key l.length 0 (by omega) m (by
        funext b
        unfold Mem.upd
        by_cases hb : b = g
        · rw [if_pos hb, hb, hm]; simp
        · rw [if_neg hb])
      simpa using this
    intro d
    induction d with
    | zero =>
      intro i hi m' hm'
      rw [l82_2]
      refine ⟨m', Mem.le_refl _, ?_⟩
      rw [if_neg (by simp; omega)]
      obtain rfl : i = l.length := by omega
      rw [row_end] at hm'
      subst hm'
      exact ret_intro (Mem.le_refl _) (h _ (fun b hb => upd_ne (by simpa using hb)) ⟨(mkTx_len k l).symm, .inr ⟨g, ty, spare, rfl, rfl, upd_same _ _ _, (congrArg (fun z => z * Enc.s ByteArray + spare.length) (mkTx_len k l)).trans hsz⟩⟩)
    | succ d ih =>
      intro i hi m' hm'
      rw [l82_2]
      refine ⟨m', Mem.le_refl _, ?_⟩
      rw [if_pos (by simp; omega)]
      refine via h94 ⟨_, rfl, by omega, by omega, _, rfl, by omega, by omega, ?_⟩
      have hmg : m' g = some (.cells (flat Enc.e ((List.range i).map (fun i : Nat => mtx (k + i)) ++ l.drop i) ++ spare).toArray ty (0, 0)) := by rw [hm']; exact upd_same _ _ _
      refine sto1 (α := ByteArray) (spare := spare) (i := i) (j := 0) (x := mtx (k + i)) hmg (by rw [add_eq rfl, Int.toNat_natCast]; exact congrArg (fun x => (⟨g, x, none⟩ : Addr)) (by show 0 + i * 1 = i * 1 + 0; omega)) rfl (by simp; omega) (by decide) rfl ?_
      rw [wsucc (n := l.length) (by omega) (by omega), w64 (by omega) (by omega), show k + (i : Int) + 1 = k + ((i + 1 : Nat) : Int) by omega]
      refine ih (i + 1) (by omega) _ ?_
      rw [hm', upd_upd, upd_row (fun i : Nat => mtx (k + (i : Int))) l i (by omega)]

def mkM (k : Int) (x : Mo) : Mo := (mkPs k x.1, mkTx (k + cntPs x.1) x.2)
def cntM (x : Mo) : Nat := cntPs x.1 + x.2.length
def s38 : Spec := mkS dMo vM mkM cntM okM (2 ^ 40)
theorem cntPs_le2 {l : List Pr} (h : okPs l) : cntPs l ≤ 2 ^ 43 := by
  have h1 := cntPs_le l h.2
  have : l.length * 2 ^ 23 ≤ 2 ^ 20 * 2 ^ 23 := Nat.mul_le_mul_right _ h.1
  omega
theorem f38 (t : Tab) (h81 : look t 81 = s81) (h82 : look t 82 = s82) : ∀ args m Q, s38 args m Q → FA Try.prog (look t) kp38 Try.f38 args m Q := by
  rintro args m Q ⟨⟨⟨pa, pn, pc⟩, ⟨ta, tn, tc⟩⟩, ⟨ps, ts⟩, D, k, rfl, ⟨D1, D2, hD, hps, hts⟩, hnd, ⟨hok1, hok2⟩, hk0, hk1, h⟩
  subst hD
  show FA Try.prog (look t) kp38 Try.f38 [.agg #[.slice pa pn pc, .slice ta tn tc], .int .i64 k] m Q
  rw [e38]
  refine newA_intro fun g1 m2 hg1 e2 hb1 hle2 => ?_
  have hn := List.nodup_append.1 hnd
  have hc : cntPs ps ≤ 2 ^ 43 := cntPs_le2 hok1
  have g1D1 : g1 ∉ D1 := fun hb => by obtain ⟨o, ho⟩ := dPrs.live hps g1 hb; rw [hg1] at ho; cases ho
  have g1D2 : g1 ∉ D2 := fun hb => by obtain ⟨o, ho⟩ := dTx.live hts g1 hb; rw [hg1] at ho; cases ho
  have dis : ∀ b ∈ D2, b ∉ D1 := fun b hb hb' => hn.2.2 b hb' b hb rfl
  refine ⟨_, _, _, cell_of hb1 0, via h81 ⟨(⟨pa, pn, pc⟩ : Sl), ps, D1, k, rfl, dPrs.own_le hle2 hps, hn.1, hok1, hk0, by omega, fun m8 ho8 hw8 => ⟨_, rfl, ?_⟩⟩⟩
  have b8 : m8 g1 = some (.cells #[.slice pa pn pc, .slice ta tn tc] 55 (0, 0)) := by rw [ho8 g1 g1D1]; exact hb1
  refine ⟨_, _, _, cell_of b8 1, via h82 ⟨(⟨ta, tn, tc⟩ : Sl), ts, D2, _, rfl, dTx.own_ext (dTx.own_le hle2 hts) (fun b hb => ho8 b (dis b hb)), hn.2.1, hok2, by omega, by omega, fun m15 ho15 hw15 => ⟨_, rfl, ?_⟩⟩⟩
  have hM : ∀ b, b ≠ g1 → (fun b => if b = g1 then none else m15 b : Mem) b = m15 b := fun b hb => if_neg hb
  refine ret_intro (m1 := fun b => if b = g1 then none else m15 b) ?_ ?_
  · intro b o e
    by_cases hb : b = g1
    · simp [hb] at e
    · rwa [hM b hb] at e
  · have ev : k + (cntPs ps : Int) + ((ts.length : Nat) : Int) = k + ((cntM (ps, ts) : Nat) : Int) := by unfold cntM; push_cast; omega
    rw [ev]
    refine h _ (fun b hb => ?_) ⟨D1, D2, rfl, ?_, ?_⟩
    · rw [List.mem_append, not_or] at hb
      by_cases hb1' : b = g1
      · simp only [hb1', if_true]
        exact hg1.symm
      · rw [if_neg hb1', ho15 b hb.2, ho8 b hb.1, e2, upd_ne hb1']
    · refine dPrs.own_ext hw8 fun b hb => ?_
      exact (hM b (by rintro rfl; exact g1D1 hb)).trans (ho15 b (fun hb' => dis b hb' hb))
    · exact dTx.own_ext hw15 fun b hb => hM b (by rintro rfl; exact g1D2 hb)
end Go.Proofs.Ytcbjdodehjpddaa.Abs
