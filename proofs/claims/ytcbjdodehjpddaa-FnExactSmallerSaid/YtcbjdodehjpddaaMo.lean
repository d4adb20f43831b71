/- Modules: what they read as, and the contracts of the functions that copy them. -/
import Derived.Test.YtcbjdodehjpddaaAd
import Derived.Test.YtcbjdodehjpddaaDq
import Derived.Test.YtcbjdodehjpddaaEqSmaller
namespace Go.Proofs.Ytcbjdodehjpddaa.Abs
open Go.RowKit
set_option linter.unusedVariables false
set_option linter.unusedSimpArgs false
set_option maxRecDepth 20000

abbrev Up := Bool × Int
abbrev Ins := Int × Int
abbrev Pr := Int × Int × List Up × List Ins
abbrev Mo := List Pr × List ByteArray
instance : DecidableEq (List Up × List Ins) := inferInstance
instance : DecidableEq Pr := inferInstance
instance : DecidableEq Mo := inferInstance
def dUp : Ds (List Up) := .rows Up
def dIns : Ds (List Ins) := .rows Ins
def dPr : Ds Pr := .pair (.flat Int) (.pair (.flat Int) (.pair dUp dIns))
def dPrs : Ds (List Pr) := .list dPr
def dTx : Ds (List ByteArray) := .rows ByteArray
def dMo : Ds Mo := .pair dPrs dTx
abbrev PH := Int × Int × Sl × Sl
def vP (h : PH) : Value := .agg #[.int .i64 h.1, .int .i64 h.2.1, vs h.2.2.1, vs h.2.2.2]
def vM (h : Sl × Sl) : Value := .agg #[vs h.1, vs h.2]
def okR {α : Type} (l : List α) : Prop := l.length ≤ 2 ^ 20
def okP (p : Pr) : Prop := p.2.2.1.length ≤ 2 ^ 20 ∧ p.2.2.2.length ≤ 2 ^ 20
def okPs (l : List Pr) : Prop := l.length ≤ 2 ^ 20 ∧ ∀ p ∈ l, okP p
def okM (m : Mo) : Prop := okPs m.1 ∧ okR m.2
def zPH : PH := (0, 0, ⟨none, 0, 0⟩, ⟨none, 0, 0⟩)

theorem ownL_new {α : Type} [Enc α] {m : Mem} {g n : Nat} {t : TypeId} {l : List α} (hn : l.length = n) (h : m g = some (.cells (flat Enc.e l).toArray t (0, 0))) : OwnL m ⟨some ⟨g, 0, none⟩, n, n⟩ l [g] :=
  ⟨hn.symm, .inr ⟨g, t, [], rfl, rfl, by simpa using h, by rw [← hn]; simp⟩⟩

def s19' : Spec := toS dPr vP vP okP
theorem to19 {args : List Value} {m : Mem} {Q : Value → Mem → Prop} (h : s19' args m Q) : s19 args m Q := by
  obtain ⟨⟨p, s, ⟨ua, un, uc⟩, ⟨ca, cn, cc⟩⟩, ⟨p', s', lu, lc⟩, rfl, ⟨hp, hs, ⟨hun, hur⟩, ⟨hcn, hcr⟩⟩, ⟨hok1, hok2⟩, hq⟩ := h
  have hp : p = p' := hp
  have hs : s = s' := hs
  subst hp hs
  have hun : un = lu.length := hun
  have hcn : cn = lc.length := hcn
  have hok1 : lu.length ≤ 2 ^ 20 := hok1
  have hok2 : lc.length ≤ 2 ^ 20 := hok2
  refine ⟨p, s, ua, un, uc, ca, cn, cc, lu, lc, rfl, hun.symm, hcn.symm, by omega, by omega, hur, hcr, fun g1 g2 h1 h2 h3 => ?_⟩
  have hl : Mem.le m ((m.upd g1 (.cells (flat Enc.e lu).toArray 101 (0, 0))).upd g2 (.cells (flat Enc.e lc).toArray 73 (0, 0))) := le_upd_fresh (le_upd h1) h2
  refine hq (p, s, ⟨some ⟨g1, 0, none⟩, un, un⟩, ⟨some ⟨g2, 0, none⟩, cn, cn⟩) [g1, g2] _ hl (by simp [h1, h2]) (by simp [Ne.symm h3]) ⟨[], [g1, g2], rfl, ⟨rfl, rfl⟩, [], [g1, g2], rfl, ⟨rfl, rfl⟩, [g1], [g2], rfl, ?_, ?_⟩
  · exact ownL_new hun.symm (by rw [upd_ne (Ne.symm h3)]; exact upd_same _ _ _)
  · exact ownL_new hcn.symm (upd_same _ _ _)

def s74 : Spec := toS dPrs vs vs okPs
theorem f74 (t : Tab) (h19 : look t 19 = s19') : ∀ args m Q, s74 args m Q → FA Try.prog (look t) kp74 Try.f74 args m Q := by
  rintro args m Q ⟨⟨a, n, c⟩, ps, rfl, ⟨hn, hs, hl, hrd, hat⟩, ⟨hok1, hok2⟩, h⟩
  have hn : n = ps.length := hn
  show FA Try.prog (look t) kp74 Try.f74 [.slice a n c] m Q
  rw [e74]
  refine ⟨by omega, by omega, by omega, by omega, ?_⟩
  refine newA_intro fun g1 m2 hg1 e2 hb2 hle2 => ?_
  simp only [Int.toNat_natCast] at *
  have hz : zeroRow #[.int .i64 (0 : Int), .int .i64 (0 : Int), .slice none 0 0, .slice none 0 0] (n * 4) = (flat Enc.e (List.replicate n zPH)).toArray := zeroRow_eq zPH n
  rw [hz] at hb2
  suffices key : ∀ d i, i + d = n → ∀ (M : Mem) (hs' : List PH) (Es : List (List Nat)), hs'.length = i → Es.length = i → M g1 = some (.cells (flat Enc.e (hs' ++ List.replicate (n - i) zPH)).toArray 38 (0, 0)) → Mem.le m M → (∀ b ∈ Es.flatten, m b = none) → (g1 :: Es.flatten).Nodup →
      (∀ (j : Nat) (h : PH) (x : Pr) (E : List Nat), hs'[j]? = some h → ps[j]? = some x → Es[j]? = some E → dPr.Own M h x E) → L74_3 (look t) (d + 1) Q a n c (some ⟨g1, 0, none⟩) n n (i : Int) M from
    ⟨n + 1, key n 0 (by omega) m2 [] [] rfl rfl (by simpa using hb2) hle2 (by simp) (by simp) (by simp)⟩
  intro d
  induction d with
  | zero =>
    intro i hi M hs' Es h1 h2 hg hle hfr hnd how
    rw [l74_3]
    refine ⟨M, Mem.le_refl _, ?_⟩
    rw [if_neg (by simp; omega)]
    have ei : n - i = 0 := by omega
    rw [ei, List.replicate_zero, List.append_nil] at hg
    refine ret_intro (Mem.le_refl _) (h ⟨some ⟨g1, 0, none⟩, n, n⟩ (g1 :: Es.flatten) M hle ?_ hnd ⟨hs', Es, [g1], h1.trans (by omega), h2.trans (by omega), rfl, ownL_new (h1.trans (by omega)) hg, how⟩)
    intro b hb
    rcases List.mem_cons.1 hb with rfl | hb
    · exact hg1
    · exact hfr b hb
  | succ d ih =>
    intro i hi M hs' Es h1 h2 hg hle hfr hnd how
    rw [l74_3]
    refine ⟨M, Mem.le_refl _, ?_⟩
    rw [if_pos (by simp; omega)]
    have hil : i < hs.length := by omega
    have hip : i < ps.length := by omega
    have hati := hat i hs[i] ps[i] (List.getElem?_eq_getElem hil) (List.getElem?_eq_getElem hip)
    refine idx' (hrd.le hle) (by omega) (by omega) (by omega) fun ad had hd => ?_
    simp only [Int.toNat_natCast] at hd ⊢
    generalize hs[i] = hh at hd hati
    obtain ⟨p, s, ⟨ua, un, uc⟩, ⟨ca, cn, cc⟩⟩ := hh
    refine ⟨_, hd 0 _ rfl, _, hd 1 _ rfl, _, _, _, hd 2 _ rfl, _, _, _, hd 3 _ rfl, via h19 ⟨(p, s, ⟨ua, un, uc⟩, ⟨ca, cn, cc⟩), ps[i], rfl, dPr.at_le hle hati, hok2 _ (List.getElem_mem hip), fun (h' : PH) D m' hle' hfr' hnd' how' => ?_⟩⟩
    have hstep : ∀ m'' : Mem, m'' = m'.upd g1 (.cells (flat Enc.e ((hs' ++ [h']) ++ List.replicate (n - (i + 1)) zPH)).toArray 38 (0, 0)) → L74_3 (look t) (d + 1) Q a n c (some ⟨g1, 0, none⟩) n n (IntKind.i64.wrap ((i : Int) + (1 : Int))) m'' := by
      intro m'' em
      have nD : g1 ∉ D := fun hb => by have := hfr' g1 hb; rw [hg] at this; cases this
      have nE : g1 ∉ Es.flatten := (List.nodup_cons.1 hnd).1
      have dis : ∀ b ∈ Es.flatten, b ∉ D := by
        intro b hb hbD
        obtain ⟨E, hE, hbE⟩ := List.mem_flatten.1 hb
        obtain ⟨j, hj, e⟩ := List.getElem_of_mem hE
        obtain ⟨o, ho⟩ := dPr.live (how j (hs'[j]'(by omega)) (ps[j]'(by omega)) E (List.getElem?_eq_getElem _) (List.getElem?_eq_getElem _) (by rw [List.getElem?_eq_getElem hj, e])) b hbE
        rw [hfr' b hbD] at ho
        cases ho
      rw [wsucc (n := n) (by omega) (by omega)]
      refine ih (i + 1) (by omega) m'' (hs' ++ [h']) (Es ++ [D]) (by simp [h1]) (by simp [h2]) (by rw [em]; exact upd_same _ _ _) ?_ ?_ ?_ ?_
      · rw [em]; exact le_upd_fresh (Mem.le_trans hle hle') hg1
      · intro b hb
        simp only [List.flatten_append, List.flatten_cons, List.flatten_nil, List.append_nil, List.mem_append] at hb
        rcases hb with hb | hb
        · exact hfr b hb
        · exact le_none hle (hfr' b hb)
      · simp only [List.flatten_append, List.flatten_cons, List.flatten_nil, List.append_nil]
        rw [List.nodup_cons] at hnd ⊢
        refine ⟨by simp [nE, nD], List.nodup_append.2 ⟨hnd.2, hnd', fun b hb b' hb' e => dis b hb (e ▸ hb')⟩⟩
      · intro j h x E e1 e2 e3
        by_cases hj : j < i
        · rw [List.getElem?_append_left (by omega)] at e1 e3
          have h0 := dPr.own_le hle' (how j h x E e1 e2 e3)
          refine dPr.own_ext h0 fun b hb => ?_
          rw [em, upd_ne]
          rintro rfl
          exact nE (List.mem_flatten.2 ⟨E, List.mem_of_getElem? e3, hb⟩)
        · have hj' : j = i := by
            have := (List.getElem?_eq_some_iff.1 e3).1
            simp [h2] at this
            omega
          subst hj'
          rw [List.getElem?_append_right (by omega)] at e1 e3
          simp [h1] at e1
          simp [h2] at e3
          rw [List.getElem?_eq_getElem hip] at e2
          cases e2
          subst e1 e3
          refine dPr.own_ext how' fun b hb => ?_
          rw [em, upd_ne]
          rintro rfl
          exact nD hb
    obtain ⟨p', s', ⟨ua', un', uc'⟩, ⟨ca', cn', cc'⟩⟩ := h'
    refine ⟨_, _, _, _, _, _, _, _, rfl, by omega, by omega, ?_⟩
    refine sto_elem (α := PH) (spare := []) (l := hs' ++ List.replicate (n - i) zPH) (i := i) (x := (p', s', ⟨ua', un', uc'⟩, ⟨ca', cn', cc'⟩)) (by rw [List.append_nil]; exact hle' _ _ hg) (by rw [add_eq rfl, Nat.zero_add]; rfl) (by simp; omega) (hstep _ ?_)
    rw [List.append_nil, List.set_append_right _ _ (by omega), h1, Nat.sub_self, show n - i = (n - (i + 1)) + 1 by omega, List.replicate_succ, List.set_cons_zero, List.append_assoc]
    rfl
end Go.Proofs.Ytcbjdodehjpddaa.Abs
