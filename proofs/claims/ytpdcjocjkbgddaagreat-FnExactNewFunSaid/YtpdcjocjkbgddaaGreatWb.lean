/- NewFun: what the laws want. -/
import Derived.Test.YtpdcjocjkbgddaaGreatWa
import Derived.Test.YtpdcjocjkbgddaaGreatUn
namespace Go.Proofs.YtpdcjocjkbgddaaGreat.Abs
open Go.ChangeShapes Go.WideShapes Go.RowKit
set_option linter.unusedVariables false
set_option linter.unusedSimpArgs false
set_option maxRecDepth 20000
def s17 : Spec := toS (.rows Int) vs vs okR
theorem f17 (t : Tab) : ∀ args m Q, s17 args m Q → FA Tryz.prog (look t) kp17 Tryz.f17 args m Q := by
  rintro args m Q ⟨⟨a, n, c⟩, l, rfl, ⟨hn, hrd⟩, hok, h⟩
  have hn : n = l.length := hn
  have hrd : Rd m a l := hrd
  have hok : l.length ≤ 2 ^ 20 := hok
  show FA Tryz.prog (look t) kp17 Tryz.f17 [.slice a n c] m Q
  rw [e17]
  refine ⟨by omega, by omega, by omega, by omega, ?_⟩
  refine newA_intro fun g1 m2 hg1 e2 hb2 hle2 => ?_
  simp only [Int.toNat_natCast] at *
  have hz : zeroRow #[.int .i64 0] (n * 1) = (flat Enc.e (List.replicate n (0 : Int))).toArray := zeroRow_eq (0 : Int) n
  rw [hz] at hb2
  suffices key : ∀ d i, i + d = n → ∀ (M : Mem), M g1 = some (.cells (flat Enc.e (l.take i ++ List.replicate (n - i) (0 : Int))).toArray 3 (0, 0)) → Mem.le m M → L17_3 (look t) (d + 1) Q a n c (some ⟨g1, 0, none⟩) n n (i : Int) M from
    ⟨n + 1, key n 0 (by omega) m2 (by simpa using hb2) hle2⟩
  intro d
  induction d with
  | zero =>
    intro i hi M hg hle
    rw [l17_3]
    refine ⟨M, Mem.le_refl _, ?_⟩
    rw [if_neg (by simp; omega)]
    have ei : n - i = 0 := by omega
    rw [ei, List.replicate_zero, List.append_nil, List.take_of_length_le (by omega)] at hg
    exact ret_intro (Mem.le_refl _) (h ⟨some ⟨g1, 0, none⟩, n, n⟩ [g1] M hle (by simp [hg1]) (by simp) (ownL_new hn.symm hg))
  | succ d ih =>
    intro i hi M hg hle
    rw [l17_3]
    refine ⟨M, Mem.le_refl _, ?_⟩
    rw [if_pos (by simp; omega)]
    have hil : i < l.length := by omega
    refine idx' (hrd.le hle) hn.symm (by omega) (by omega) fun ad had hd => ?_
    simp only [Int.toNat_natCast] at hd ⊢
    refine ⟨_, hd 0 _ rfl, by omega, by omega, ?_⟩
    refine sto_elem (α := Int) (spare := []) (l := l.take i ++ List.replicate (n - i) (0 : Int)) (i := i) (x := l[i]) (by rw [List.append_nil]; exact hg) (by rw [add_eq rfl, Nat.zero_add]; rfl) (by simp; omega) ?_
    rw [wsucc (n := n) (by omega) (by omega)]
    refine ih (i + 1) (by omega) _ ?_ (le_upd_fresh hle hg1)
    rw [upd_same, List.append_nil, List.set_append_right _ _ (by simp; omega), List.length_take, Nat.min_eq_left (by omega), Nat.sub_self, show n - i = (n - (i + 1)) + 1 by omega, List.replicate_succ, List.set_cons_zero, List.take_succ_eq_append_getElem hil, List.append_assoc]
    rfl
noncomputable def nfM (x : ArT) (pr : Int) (cs : List Int) (i : Int) : ArT := toT (nfA (arOf x) pr cs i).1
noncomputable def nfC (x : ArT) (pr : Int) (cs : List Int) (i : Int) : Int := (nfA (arOf x) pr cs i).2
theorem nfA_len {a : Ar} {pr i : Int} {cs : List Int} (hw : a.wf) : (nfA a pr cs i).1.ws.length = a.ws.length ∧ (nfA a pr cs i).1.rs.length = a.rs.length := by
  unfold nfA
  split
  · rename_i hk
    obtain ⟨k1, k2, k3, k4⟩ := ask_ok (okC_of hw hk.1) (nf_size hk.2.2.2.1)
    unfold nfR
    split
    · refine ⟨?_, ?_⟩
      · show (fnW _ _ _ _).ws.length = _
        rw [fnW_len]
        show (setW _ _ _).length = _
        rw [setW_len]; exact k1
      · show (List.set _ _ _).length = _
        rw [List.length_set]; exact k2
    · exact ⟨k1, k2⟩
  · exact ⟨rfl, rfl⟩
theorem nfM_ok {x : ArT} {pr i : Int} {cs : List Int} (h : okAr x) (hb : ∀ w ∈ x.1, inW w.v) : okAr (nfM x pr cs i) := by
  have k := nfA_len (a := arOf x) (pr := pr) (i := i) (cs := cs) ⟨hb, h.1, h.2⟩
  refine ⟨?_, ?_⟩
  · show (nfA (arOf x) pr cs i).1.ws.length ≤ _
    rw [k.1]; exact h.1
  · show (nfA (arOf x) pr cs i).1.rs.length ≤ _
    rw [k.2]; exact h.2
def s16' : Spec := fun args m Q => ∃ (h : dAr.H) (x : ArT) (pr : Int) (q : Sl) (cs : List Int) (i : Int), args = [vAr h, .int .i64 pr, vs q, .int .i64 i] ∧ atC m h x ∧ okAr x ∧ bgAr x ∧ (Ds.rows Int).At m q cs ∧ okR cs ∧ ∀ (h' : dAr.H) (D : List Nat) (m' : Mem), Mem.le m m' → (∀ b ∈ D, m b = none) → D.Nodup → dAr.Own m' h' (nfM x pr cs i) D → Q (.tuple #[vAr h', .int .i64 (nfC x pr cs i)]) m'
theorem to16 {args : List Value} {m : Mem} {Q : Value → Mem → Prop} (h : s16' args m Q) : s16 args m Q := by
  obtain ⟨h, x, pr, q, cs, i, rfl, hA, hok, hbg, hq, hoq, hQ⟩ := h
  obtain ⟨e, a, w, k⟩ := makA.nc (q := fun x => nfA (arOf x) pr cs i) ⟨hA, hok, hbg, hQ⟩
  exact ⟨_, _, q, arOf x, pr, cs, i, by rw [e], a, w, hq.1, hq.2, hoq, k⟩
def s18' : Spec := s16'
theorem to18 {args : List Value} {m : Mem} {Q : Value → Mem → Prop} (h : s18' args m Q) : s18 args m Q := to16 h
end Go.Proofs.YtpdcjocjkbgddaaGreat.Abs
