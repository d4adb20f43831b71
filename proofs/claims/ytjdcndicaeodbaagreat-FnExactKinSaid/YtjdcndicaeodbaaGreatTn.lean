/- Kin: what the laws want. -/
import Derived.Test.YtjdcndicaeodbaaGreatTm
import Derived.Test.YtjdcndicaeodbaaGreatSu
namespace Go.Proofs.YtjdcndicaeodbaaGreat.Abs
open Go.ChangeShapes Go.WideShapes Go.RowKit
set_option linter.unusedVariables false
set_option linter.unusedSimpArgs false
set_option maxRecDepth 20000
noncomputable def kinM (x : ArT) (r : Int) : List Int := kinA (arOf x) r
theorem kinM_ok {x : ArT} {r : Int} (h : okAr x) (hb : ∀ w ∈ x.1, inW w.v) : okR (kinM x r) := by
  unfold kinM kinA okR
  split
  case isFalse => exact Nat.zero_le _
  case isTrue hk =>
    obtain ⟨⟨mk, hk⟩, h0, h1⟩ := hk
    have hw : (arOf x).wf := ⟨hb, h.1, h.2⟩
    have hm : (arOf x).rs.getD r.toNat (0, 0) ∈ (arOf x).rs := by
      rw [List.getD_eq_getElem?_getD, List.getElem?_eq_getElem (by omega)]
      exact List.getElem_mem _
    have hBP : BP (arOf x) mk (reachP (arOf x).ws [(arOf x).rs.getD r.toNat (0, 0)]) := BP.bfs hw hk _ _ _ (BP.comeR _ [] (fun y hy => by rw [List.mem_singleton] at hy; rw [hy]; exact (root_vok hw hk hm).1) (BP.nil _ mk))
    have hl := hBP.len
    have hx : (arOf x).ws.length ≤ 2 ^ 20 := h.1
    rw [(fold_insK _ [] List.Pairwise.nil).2.length_eq, List.append_nil]
    unfold serL
    refine Nat.le_trans (List.length_filter_le _ _) ?_
    rw [List.length_map]
    omega
def s12' : Spec := fun args m Q => ∃ (h : dAr.H) (x : ArT) (r : Int), args = [vAr h, .int .i64 r] ∧ atC m h x ∧ okAr x ∧ bgAr x ∧ ∀ (h' : dIs.H) (D : List Nat) (m' : Mem), Mem.le m m' → (∀ b ∈ D, m b = none) → D.Nodup → dIs.Own m' h' (kinM x r) D → Q (vs h') m'
theorem to12 {args : List Value} {m : Mem} {Q : Value → Mem → Prop} (h : s12' args m Q) : s12 args m Q := by
  obtain ⟨h, x, r, rfl, hA, hok, hbg, hQ⟩ := h
  obtain ⟨a, e⟩ := hA.ar
  exact ⟨_, _, arOf x, r, by rw [e], a, wf_of hok hbg, fun s' M D hle hO hD => hQ s' D M hle hD (own_nd hO) hO⟩
def s14' : Spec := s12'
theorem to14 {args : List Value} {m : Mem} {Q : Value → Mem → Prop} (h : s14' args m Q) : s14 args m Q := to12 h
end Go.Proofs.YtjdcndicaeodbaaGreat.Abs
