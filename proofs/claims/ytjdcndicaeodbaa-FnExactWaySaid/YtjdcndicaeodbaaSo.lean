/- Arenas: ways: the reference's function. -/
import Derived.Test.YtjdcndicaeodbaaSn
namespace Go.Proofs.Ytjdcndicaeodbaa.Abs
open Go.RowKit
set_option linter.unusedVariables false
set_option linter.unusedSimpArgs false
set_option maxRecDepth 20000
def serIs (ws : List U64) (ser : Int) (e : Stp) : Bool := decide (serW ws e.p = ser)
def wayOf : Option Stp → List Int × Bool
  | none => ([], false)
  | some e => (e.way, true)
open Classical in
noncomputable def wayR (a : Ar) (ser : Int) : List Int × Bool := if okP a ∧ 1 ≤ ser then wayOf ((reachL a (allR a)).find? (serIs a.ws ser)) else ([], false)
theorem path_loop (t : Tab) {Q : Value → Mem → Prop} {m : Mem} {ls : Sl} {S : List Stp} {W : List Int} {n10 : Nat} (hS : wayI S) (hn : ls.n = S.length) (hR : Rd m ls.a (S.map stp3)) (hW : W.length ≤ 2 ^ 30)
    (hQ : ∀ (s' : Sl) (M' : Mem) (D' : List Nat), Mem.le m M' → OwnL M' s' W D' → (∀ b ∈ D', m b = none) → ret Q (.tuple #[vs s', .bool true]) M') :
    ∀ (d : Nat) (x : Int) (out : List Int) (os : Sl) (D : List Nat) (M : Mem), x + 1 ≤ d → (x = -1 ∧ out = W ∨ ∃ (j : Nat) (e : Stp), x = (j : Int) ∧ S[j]? = some e ∧ e.way ++ out = W) → Mem.le m M → OwnL M os out D → (∀ b ∈ D, m b = none) →
      L21_15 (look t) n10 (d + 1) Q ls.a ls.n ls.c os.a os.n os.c x M := by
  intro d
  induction d with
  | zero =>
    intro x out os D M hx hc hle hO hD
    rw [l21_15]
    refine ⟨M, Mem.le_refl _, ?_⟩
    rcases hc with ⟨c1, c2⟩ | ⟨j, e, c1, _⟩
    · rw [if_neg (by simp; omega)]
      exact hQ os M D hle (c2 ▸ hO) hD
    · omega
  | succ d ih =>
    intro x out os D M hx hc hle hO hD
    rw [l21_15]
    refine ⟨M, Mem.le_refl _, ?_⟩
    rcases hc with ⟨c1, c2⟩ | ⟨j, e, c1, c2, c3⟩
    · rw [if_neg (by simp; omega)]
      exact hQ os M D hle (c2 ▸ hO) hD
    subst c1
    rw [if_pos (by simp)]
    have hol : out.length ≤ 2 ^ 30 := by rw [← c3, List.length_append] at hW; omega
    refine stp_get hn (hR.le hle) c2 fun ad had => ⟨_, (had M (Mem.le_refl _)).2.2, newA_intro fun g m2 hg e2 hb hle2 => ?_⟩
    have hO2 : OwnL m2 ⟨some ⟨g, 0, none⟩, 1, 1⟩ [e.slot] [g] := ⟨rfl, .inr ⟨g, 3, [], rfl, rfl, hb, rfl⟩⟩
    refine app_sl (s := ⟨some ⟨g, 0, none⟩, 1, 1⟩) (α := Int) (l := [e.slot]) (l2 := out) (D := [g]) rfl rfl (by decide) (by decide) (by decide) hO2 hO.1.symm (hO.rd.le hle2) (by have := hO.1; show 1 + os.n ≤ 2 ^ 40; omega) fun s' D' M' hsn hO' hoff hfr hnd' => ?_
    have hD' : ∀ b ∈ D', m b = none := by
      rcases hfr with rfl | hfr
      · intro b hb'
        rw [List.mem_singleton] at hb'
        rw [hb']; exact le_none hle hg
      · exact fun b hb' => le_none (Mem.le_trans hle hle2) (hfr b hb')
    have hle' : Mem.le m M' := le_off (Mem.le_trans hle hle2) hD' hoff
    refine stp_get hn (hR.le hle') c2 fun ad2 had2 => ⟨_, (had2 M' (Mem.le_refl _)).2.1, ?_⟩
    have hsn : s'.n = 1 + os.n := hsn
    rw [← hsn]
    refine ih e.frm ([e.slot] ++ out) s' D' M' ?_ ?_ hle' hO' hD'
    · rcases hS j e c2 with ⟨h1, _⟩ | ⟨j', e', h1, h2, _⟩ <;> omega
    · rcases hS j e c2 with ⟨h1, h2⟩ | ⟨j', e', h1, h2, h3, h4⟩
      · left; exact ⟨h1, by rw [← c3, h2]⟩
      · right; exact ⟨j', e', h1, h3, by rw [← c3, h4, List.append_assoc]⟩
theorem find_loop (t : Tab) (h31 : look t 31 = s31) {Q : Value → Mem → Prop} {s r ls : Sl} {a : Ar} {mk seen : List Int} {m : Mem} {g : Nat} {S : List Stp} {ser : Int} (hw : a.wf) (hP : Ptr m g s r a) (hA : ArAt m s r a) (hI : BI a mk (seen, S)) (hn : ls.n = S.length) (hR : Rd m ls.a (S.map stp3))
    (hQ : ∀ (s' : Sl) (M' : Mem) (D' : List Nat), Mem.le m M' → OwnL M' s' (wayOf (S.find? (serIs a.ws ser))).1 D' → (∀ b ∈ D', m b = none) → ret Q (.tuple #[vs s', .bool (wayOf (S.find? (serIs a.ws ser))).2]) M') :
    ∀ (d i : Nat) (M : Mem), i + d = S.length → (S.drop i).find? (serIs a.ws ser) = S.find? (serIs a.ws ser) → Mem.le m M → L21_10 (look t) (d + 1) Q ser g ls.a ls.n ls.c (i : Int) M := by
  intro d
  have hl : S.length ≤ a.ws.length := hI.len
  have hN := hw.n
  induction d with
  | zero =>
    intro i M hi hf hle
    rw [l21_10]
    refine ⟨M, Mem.le_refl _, ?_⟩
    rw [if_neg (by simp; omega)]
    rw [List.drop_eq_nil_of_le (by omega)] at hf
    rw [← hf] at hQ
    exact hQ ⟨none, 0, 0⟩ M [] hle ⟨rfl, .inl ⟨rfl, rfl, rfl, rfl⟩⟩ fun b hb => by cases hb
  | succ d ih =>
    intro i M hi hf hle
    have hlt : i < S.length := by omega
    obtain ⟨e, he⟩ : ∃ e, e = S[i] := ⟨_, rfl⟩
    have hse : S[i]? = some e := by rw [List.getElem?_eq_getElem hlt, he]
    rw [List.drop_eq_getElem_cons hlt, ← he, List.find?_cons] at hf
    obtain ⟨e0, e1, ehd⟩ := hI.hd e (List.mem_of_getElem? hse)
    have hb1 := hle _ _ hP
    rw [l21_10]
    refine ⟨M, Mem.le_refl _, ?_⟩
    rw [if_pos (by simp; omega), wsucc (n := 2 ^ 20) (by omega) (by decide)]
    refine ⟨Mem.le M, Mem.le_refl _, _, _, _, held (cell_of hb1 0), _, held (cell_of hb1 1), _, held (cell_of hb1 2), _, held (cell_of hb1 3), _, held (cell_of hb1 4), _, held (cell_of hb1 5), _, held (cell_of hb1 6), _, held (cell_of hb1 7), _, held (cell_of hb1 8), _, _, _, held (cell_of hb1 9), stp_get hn (hR.le hle) hse fun ad had => ⟨_, fun q hq => (had q hq).1, via h31 ⟨s, r, a, e.p, rfl, ⟨hA.le hle, hw, e0, e1⟩, _, _, _, rfl, Mem.le_refl _, ?_⟩⟩⟩
    have ez : (lookW a.ws e.p).2.2 = serW a.ws e.p := rfl
    rw [ez]
    by_cases c : serW a.ws e.p = ser
    · rw [if_neg (by simpa using c)]
      have hp : serIs a.ws ser e = true := by unfold serIs; rw [decide_eq_true c]
      rw [hp] at hf
      have hf : some e = S.find? (serIs a.ws ser) := hf
      rw [← hf] at hQ
      have hwl := way_len hI.wy i e hse
      refine newA_intro fun g2 m2 hg2 e2 hb2 hle2 => ⟨i + 2, path_loop t (m := m) (W := e.way) hI.wy hn hR (by omega) (fun s' M' D' q1 q2 q3 => hQ s' M' D' q1 q2 q3) (i + 1) (i : Int) [] ⟨some ⟨g2, 0, none⟩, 0, 0⟩ [g2] m2 (by omega) (.inr ⟨i, e, rfl, hse, by rw [List.append_nil]⟩) (Mem.le_trans hle hle2) ⟨rfl, .inr ⟨g2, 3, [], rfl, rfl, hb2, rfl⟩⟩ (fun b hb => by rw [List.mem_singleton] at hb; rw [hb]; exact le_none hle hg2)⟩
    · rw [if_pos (by simpa using c)]
      have hp : serIs a.ws ser e = false := by unfold serIs; rw [decide_eq_false c]
      rw [hp] at hf
      exact ih (i + 1) M (by omega) hf hle
theorem allR_len (a : Ar) : (allR a).length = a.rs.length := by unfold allR; rw [List.length_map, List.length_range]
theorem allR_in (a : Ar) : ∀ x ∈ allR a, 0 ≤ x ∧ x < a.rs.length := fun x hx => by
  unfold allR at hx
  obtain ⟨j, hj, rfl⟩ := List.mem_map.1 hx
  rw [List.mem_range] at hj
  omega
theorem allr_loop (t : Tab) (h44 : look t 44 = s44) (h31 : look t 31 = s31) {Q : Value → Mem → Prop} {s r : Sl} {a : Ar} {mk : List Int} {m : Mem} {g : Nat} {ser : Int} (hw : a.wf) (hk : OkM a mk) (hP : Ptr m g s r a) (hA : ArAt m s r a)
    (hQ : ∀ (s' : Sl) (M' : Mem) (D' : List Nat), Mem.le m M' → OwnL M' s' (wayOf ((reachL a (allR a)).find? (serIs a.ws ser))).1 D' → (∀ b ∈ D', m b = none) → ret Q (.tuple #[vs s', .bool (wayOf ((reachL a (allR a)).find? (serIs a.ws ser))).2]) M') :
    ∀ (d i : Nat) (hs : Sl) (D : List Nat) (M : Mem), i + d = a.rs.length → Mem.le m M → OwnL M hs ((allR a).take i) D → (∀ b ∈ D, m b = none) → L21_5 (look t) (d + 1) Q ser g hs.a hs.n hs.c (i : Int) M := by
  have hkn := hA.k
  have hR := hw.r
  have hal := allR_len a
  intro d
  induction d with
  | zero =>
    intro i hs D M hi hle hO hD
    have hb1 := hle _ _ hP
    rw [List.take_of_length_le (by omega)] at hO
    rw [l21_5]
    refine ⟨M, Mem.le_refl _, _, _, _, cell_of hb1 9, ?_⟩
    rw [if_neg (by simp; omega)]
    refine ⟨_, _, _, cell_of hb1 0, _, cell_of hb1 1, _, cell_of hb1 2, _, cell_of hb1 3, _, cell_of hb1 4, _, cell_of hb1 5, _, cell_of hb1 6, _, cell_of hb1 7, _, cell_of hb1 8, _, _, _, cell_of hb1 9, via h44 ⟨s, r, hs, a, mk, allR a, rfl, hA.le hle, hw, hk, hO.1, hO.rd, allR_in a, by omega, fun ls M2 D2 hle2 hO2 hD2 => ⟨_, _, _, rfl, (reachL a (allR a)).length + 1, ?_⟩⟩⟩
    obtain ⟨seen, hI⟩ := BI.reach hw hk (allR_in a)
    have hn2 := hO2.1
    rw [List.length_map] at hn2
    exact find_loop t h31 (m := M2) hw ((Mem.le_trans hle hle2) _ _ hP) (hA.le (Mem.le_trans hle hle2)) hI hn2 hO2.rd (fun s' M' D' q1 q2 q3 => hQ s' M' D' (Mem.le_trans (Mem.le_trans hle hle2) q1) q2 fun b hb => le_none (Mem.le_trans hle hle2) (q3 b hb)) _ 0 M2 (by omega) rfl (Mem.le_refl _)
  | succ d ih =>
    intro i hs D M hi hle hO hD
    have hb1 := hle _ _ hP
    have hlt : i < (allR a).length := by omega
    rw [l21_5]
    refine ⟨M, Mem.le_refl _, _, _, _, cell_of hb1 9, ?_⟩
    rw [if_pos (by simp; omega), wsucc (n := 2 ^ 20) (by omega) (by decide)]
    refine app_int hle hO hD (by rw [List.length_take]; omega) fun s' M' D' hsn hle' hO' hD' => ?_
    rw [← hsn]
    refine ih (i + 1) s' D' M' (by omega) hle' ?_ hD'
    rw [List.take_succ_eq_append_getElem hlt]
    have e : (allR a)[i] = (i : Int) := by simp [allR]
    rw [e]
    exact hO'
def s21 : Spec := fun args m Q => ∃ (s r : Sl) (a : Ar) (ser : Int), args = [vA s r a, .int .i64 ser] ∧ ArAt m s r a ∧ a.wf ∧ ∀ (s' : Sl) (M : Mem) (D : List Nat), Mem.le m M → OwnL M s' (wayR a ser).1 D → (∀ b ∈ D, m b = none) → Q (.tuple #[vs s', .bool (wayR a ser).2]) M
theorem f21 (t : Tab) (h29 : look t 29 = s29) (h44 : look t 44 = s44) (h31 : look t 31 = s31) : ∀ args m Q, s21 args m Q → FA Try.prog (look t) kp21 Try.f21 args m Q := by
  rintro args m Q ⟨s, r, a, ser, rfl, hA, hw, hQ⟩
  show FA Try.prog (look t) kp21 Try.f21 [.agg #[.slice s.a s.n s.c, .int .i64 a.semi, .int .i64 a.to, .int .i64 a.top, .bool a.cyc, .int .i64 a.scan, .int .i64 a.old, .int .i64 a.cop, .int .i64 a.ser, .slice r.a r.n r.c], .int .i64 ser] m Q
  rw [e21]
  refine newA_intro fun g m2 hg1 e2 hb1 hle2 => ⟨_, _, _, cell_of hb1 0, _, cell_of hb1 1, _, cell_of hb1 2, _, cell_of hb1 3, _, cell_of hb1 4, _, cell_of hb1 5, _, cell_of hb1 6, _, cell_of hb1 7, _, cell_of hb1 8, _, _, _, cell_of hb1 9, via h29 ⟨s, r, a, rfl, hA.le hle2, hw, _, rfl, ?_⟩⟩
  have none_ : ¬ (okP a ∧ 1 ≤ ser) → ret Q (.tuple #[.slice none 0 0, .bool false]) m2 := fun h => by
    have e : wayR a ser = ([], false) := by unfold wayR; rw [if_neg h]
    rw [e] at hQ
    exact ret_intro (Mem.le_refl _) (hQ ⟨none, 0, 0⟩ m2 [] hle2 ⟨rfl, .inl ⟨rfl, rfl, rfl, rfl⟩⟩ fun b hb => by cases hb)
  by_cases hk : okP a
  case neg => rw [pB_no hk, if_pos (by decide)]; exact none_ fun h => hk h.1
  rw [pB_yes hk, if_neg (by decide)]
  by_cases hs : 1 ≤ ser
  case neg => rw [if_pos (by simp; omega)]; exact none_ fun h => hs h.2
  rw [if_neg (by simp; omega)]
  have e : wayR a ser = wayOf ((reachL a (allR a)).find? (serIs a.ws ser)) := by unfold wayR; rw [if_pos ⟨hk, hs⟩]
  rw [e] at hQ
  obtain ⟨mk, hk⟩ := hk
  refine newA_intro fun g3 m4 hg3 e4 hb3 hle4 => ⟨a.rs.length + 1, ?_⟩
  exact allr_loop t h44 h31 hw hk hb1 (hA.le hle2) (fun s' M' D' q1 q2 q3 => ret_intro (Mem.le_refl _) (hQ s' M' D' (Mem.le_trans hle2 q1) q2 fun b hb => le_none hle2 (q3 b hb))) a.rs.length 0 ⟨some ⟨g3, 0, none⟩, 0, 0⟩ [g3] m4 (by omega) hle4 ⟨rfl, .inr ⟨g3, 3, [], rfl, rfl, hb3, rfl⟩⟩ (fun b hb => by rw [List.mem_singleton] at hb; rw [hb]; exact hg3)
end Go.Proofs.Ytjdcndicaeodbaa.Abs
