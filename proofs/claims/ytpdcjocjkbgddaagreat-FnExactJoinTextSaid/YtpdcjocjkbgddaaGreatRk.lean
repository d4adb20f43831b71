/- Arenas: hashes of keys. -/
import Derived.Test.YtpdcjocjkbgddaaGreatRj
namespace Go.Proofs.YtpdcjocjkbgddaaGreat.Abs
open Go.RowKit
set_option linter.unusedVariables false
set_option linter.unusedSimpArgs false
set_option maxRecDepth 20000
def hashS (l : List UInt8) : Int := l.foldl (fun h b => (33 * h + (b.toNat : Int)) % 1000003) 5381
def hashA (ws : List U64) (v : Vl) : Int := if v.1 = 1 then v.2 else if v.1 = 2 then IntKind.u64.wrap v.2 % 1000003 else if v.1 = 7 then v.2 + 7 else if v.1 = 3 then hashS (textL ws (whereW ws v.2)) else (lookW ws (whereW ws v.2)).2.2
/-- A key that is right. -/
structure KeyOk (a : Ar) (v : Vl) : Prop where
  ok : valOkB v = true
  t0 : 1 ≤ v.1
  t1 : v.1 ≤ 7
  r : isRefB v = true → v.2 < a.ws.length ∧ 0 ≤ whereW a.ws v.2 ∧ whereW a.ws v.2 < a.ws.length ∧ placeA a v.2 = whereW a.ws v.2
  s : v.1 = 3 → TextAt a (whereW a.ws v.2)
theorem hash_step {h : Int} (b : UInt8) (h0 : 0 ≤ h) (h1 : h < 1000003) : Int.tmod (IntKind.i64.wrap (IntKind.i64.wrap (33 * h) + IntKind.i64.wrap (b.toNat : Int))) 1000003 = (33 * h + (b.toNat : Int)) % 1000003 ∧ 0 ≤ (33 * h + (b.toNat : Int)) % 1000003 ∧ (33 * h + (b.toNat : Int)) % 1000003 < 1000003 := by
  have hb : b.toNat < 256 := b.toNat_lt
  rw [w64 (x := 33 * h) (by omega) (by omega), w64 (x := (b.toNat : Int)) (by omega) (by omega), w64 (by omega) (by omega), Int.tmod_eq_emod_of_nonneg (by omega)]
  exact ⟨rfl, by omega, by omega⟩
theorem foldH_range : ∀ (l : List UInt8) (h : Int), 0 ≤ h → h < 1000003 → 0 ≤ l.foldl (fun h b => (33 * h + (b.toNat : Int)) % 1000003) h ∧ l.foldl (fun h b => (33 * h + (b.toNat : Int)) % 1000003) h < 1000003
  | [], h, h0, h1 => ⟨h0, h1⟩
  | b :: l, h, h0, h1 => foldH_range l _ (hash_step b h0 h1).2.1 (hash_step b h0 h1).2.2
theorem bytes_get (l : List UInt8) (i : Nat) : (⟨l.toArray⟩ : ByteArray)[i]? = l[i]? := by
  show (if h : i < (⟨l.toArray⟩ : ByteArray).size then some ((⟨l.toArray⟩ : ByteArray)[i]) else none) = l[i]?
  by_cases h : i < l.length
  · rw [dif_pos (show i < (⟨l.toArray⟩ : ByteArray).size from h), List.getElem?_eq_getElem h]
    rfl
  · rw [dif_neg (show ¬ i < (⟨l.toArray⟩ : ByteArray).size from h), List.getElem?_eq_none (by omega)]
theorem loopH (t : Tab) {Q : Value → Mem → Prop} {l : List UInt8} {m : Mem} (hl : l.length ≤ 160) (hQ : ∀ M, Mem.le m M → ret Q (.int .i64 (hashS l)) M) :
    ∀ (d i : Nat), i + d = l.length → ∀ (h : Int), 0 ≤ h → h < 1000003 → (l.drop i).foldl (fun h b => (33 * h + (b.toNat : Int)) % 1000003) h = hashS l → ∀ M : Mem, Mem.le m M →
      L121_12 (look t) (d + 1) Q ⟨l.toArray⟩ h (i : Int) M ∧ L126_10 (look t) (d + 1) Q h ⟨l.toArray⟩ (l.length : Int) (i : Int) M := by
  intro d
  induction d with
  | zero =>
    intro i hi h h0 h1 he M hM
    rw [List.drop_eq_nil_of_le (by omega)] at he
    have he : h = hashS l := he
    subst he
    constructor
    · rw [l121_12]
      refine ⟨M, Mem.le_refl _, ?_⟩
      rw [if_neg (by simp [ByteArray.size]; omega)]
      exact hQ M hM
    · rw [l126_10]
      refine ⟨M, Mem.le_refl _, ?_⟩
      rw [if_neg (by simp; omega)]
      exact hQ M hM
  | succ d ih =>
    intro i hi h h0 h1 he M hM
    have hil : i < l.length := by omega
    rw [List.drop_eq_getElem_cons hil, List.foldl_cons] at he
    obtain ⟨a1, a2, a3⟩ := hash_step l[i] h0 h1
    have hg : (⟨l.toArray⟩ : ByteArray)[Int.toNat (i : Int)]? = some l[i] := by rw [bytes_get, Int.toNat_natCast, List.getElem?_eq_getElem hil]
    have next := ih (i + 1) (by omega) _ a2 a3 he M hM
    constructor
    · rw [l121_12]
      refine ⟨M, Mem.le_refl _, ?_⟩
      rw [if_pos (by simp [ByteArray.size]; omega), wsucc hil (by omega)]
      refine ⟨by omega, _, hg, by decide, ?_⟩
      rw [a1]
      exact next.1
    · rw [l126_10]
      refine ⟨M, Mem.le_refl _, ?_⟩
      rw [if_pos (by simp; omega), wsucc hil (by omega)]
      refine ⟨by omega, _, hg, by decide, ?_⟩
      rw [a1]
      exact next.2
theorem key_ref {v : Vl} (h : v.1 = 3 ∨ v.1 = 4 ∨ v.1 = 5 ∨ v.1 = 6) : isRefB v = true := by
  unfold isRefB kindT
  rcases h with h | h | h | h <;> rw [h] <;> decide
theorem ref_key {v : Vl} (h : isRefB v = true) (h1 : v.1 ≤ 7) : v.1 = 3 ∨ v.1 = 4 ∨ v.1 = 5 ∨ v.1 = 6 := by
  unfold isRefB kindT at h
  repeat' split at h
  all_goals first | omega | (simp at h; done)
theorem text_len {a : Ar} {p : Int} (h : TextAt a p) : (textL a.ws p).length ≤ 160 := by
  have := h.n
  simp [textL, textN]
  omega
theorem val_small {v : Vl} (h : valOkB v = true) (h7 : v.1 = 7) : 1 ≤ v.2 ∧ v.2 ≤ 20 := by
  unfold valOkB at h
  rw [h7] at h
  simpa using h
def s121 : Spec := fun args m Q => ∃ (s r : Sl) (a : Ar) (v : Vl), args = [vA s r a, vVl v] ∧ ArAt m s r a ∧ a.wf ∧ KeyOk a v ∧ Q (.int .i64 (hashA a.ws v)) m
theorem f121 (t : Tab) (h42 : look t 42 = s42) (h97 : look t 97 = s97) (h56 : look t 56 = s56) : ∀ args m Q, s121 args m Q → FA Tryz.prog (look t) kp121 Tryz.f121 args m Q := by
  rintro args m Q ⟨s, r, a, v, rfl, hA, hw, hK, hQ⟩
  show FA Tryz.prog (look t) kp121 Tryz.f121 [.agg #[.slice s.a s.n s.c, .int .i64 a.semi, .int .i64 a.to, .int .i64 a.top, .bool a.cyc, .int .i64 a.scan, .int .i64 a.old, .int .i64 a.cop, .int .i64 a.ser, .slice r.a r.n r.c], .agg #[.int .i64 v.1, .int .i64 v.2]] m Q
  rw [e121]
  unfold hashA at hQ
  refine newA_intro fun g1 m2 hg1 e2 hb1 hle2 => newA_intro fun g3 m4 hg3 e4 hb3 hle4 => ⟨_, cell_of hb3 0, ?_⟩
  have hb1 := hle4 _ _ hb1
  have l4 := Mem.le_trans hle2 hle4
  have hA4 := hA.le l4
  by_cases c1 : v.1 = 1
  · rw [if_pos (by simpa using c1)]; rw [if_pos c1] at hQ; exact ⟨_, cell_of hb3 1, ret_intro l4 hQ⟩
  rw [if_neg (by simpa using c1)]; rw [if_neg c1] at hQ
  by_cases c2 : v.1 = 2
  · rw [if_pos (by simpa using c2)]; rw [if_pos c2] at hQ
    have hu : 0 ≤ IntKind.u64.wrap v.2 := by unfold IntKind.wrap; simp [IntKind.bits, IntKind.signed]; omega
    refine ⟨_, cell_of hb3 1, by decide, ret_int l4 hQ ?_⟩
    rw [Int.tmod_eq_emod_of_nonneg hu, w64 (by omega) (by omega)]
  rw [if_neg (by simpa using c2)]; rw [if_neg c2] at hQ
  by_cases c7 : v.1 = 7
  · rw [if_pos (by simpa using c7)]; rw [if_pos c7] at hQ
    have := val_small hK.ok c7
    exact ⟨_, cell_of hb3 1, ret_int l4 hQ (w64 (by omega) (by omega))⟩
  rw [if_neg (by simpa using c7)]; rw [if_neg c7] at hQ
  have t0 := hK.t0
  have t1 := hK.t1
  have hr := key_ref (v := v) (by omega)
  obtain ⟨w0, w1, w2, w3⟩ := hK.r hr
  have hp := ref_pos hK.ok hr
  by_cases c3 : v.1 = 3
  · rw [if_pos (by simpa using c3)]; rw [if_pos c3] at hQ
    have hT := hK.s c3
    refine ⟨Mem.le m4, Mem.le_refl _, _, _, _, held (cell_of hb1 0), _, held (cell_of hb1 1), _, held (cell_of hb1 2), _, held (cell_of hb1 3), _, held (cell_of hb1 4), _, held (cell_of hb1 5), _, held (cell_of hb1 6), _, held (cell_of hb1 7), _, held (cell_of hb1 8), _, _, _, held (cell_of hb1 9), _, _, _, held (cell_of hb1 0), _, held (cell_of hb1 1), _, held (cell_of hb1 2), _, held (cell_of hb1 3), _, held (cell_of hb1 4), _, held (cell_of hb1 5), _, held (cell_of hb1 6), _, held (cell_of hb1 7), _, held (cell_of hb1 8), _, _, _, held (cell_of hb1 9), _, held (cell_of hb3 1), via h97 ⟨s, r, a, _, rfl, ⟨hA4, hw, by omega, w0⟩, _, rfl, Mem.le_refl _, via h42 ⟨s, r, a, _, rfl, hA4, hw, hT, _, rfl, Mem.le_refl _, (textL a.ws (whereW a.ws v.2)).length + 1, ?_⟩⟩⟩
    exact (loopH t (m := m4) (text_len hT) (fun M hM => ret_intro (Mem.le_trans l4 hM) hQ) _ 0 (by omega) 5381 (by decide) (by decide) rfl m4 (Mem.le_refl _)).1
  · rw [if_neg (by simpa using c3)]; rw [if_neg c3] at hQ
    exact ⟨Mem.le m4, Mem.le_refl _, _, _, _, held (cell_of hb1 0), _, held (cell_of hb1 1), _, held (cell_of hb1 2), _, held (cell_of hb1 3), _, held (cell_of hb1 4), _, held (cell_of hb1 5), _, held (cell_of hb1 6), _, held (cell_of hb1 7), _, held (cell_of hb1 8), _, _, _, held (cell_of hb1 9), _, _, _, held (cell_of hb1 0), _, held (cell_of hb1 1), _, held (cell_of hb1 2), _, held (cell_of hb1 3), _, held (cell_of hb1 4), _, held (cell_of hb1 5), _, held (cell_of hb1 6), _, held (cell_of hb1 7), _, held (cell_of hb1 8), _, _, _, held (cell_of hb1 9), _, held (cell_of hb3 1), via h97 ⟨s, r, a, _, rfl, ⟨hA4, hw, by omega, w0⟩, _, rfl, Mem.le_refl _, via h56 ⟨s, r, a, _, rfl, ⟨hA4, hw, w1, w2⟩, _, _, _, rfl, Mem.le_refl _, ret_intro l4 hQ⟩⟩⟩
def s126 : Spec := fun args m Q => ∃ (g : Nat) (s r : Sl) (a : Ar) (v : Vl), args = [.pointer (some ⟨g, 0, none⟩), vVl v] ∧ Ptr m g s r a ∧ ArAt m s r a ∧ a.sm ∧ a.wf ∧ KeyOk a v ∧ Q (.int .i64 (hashA a.ws v)) m
theorem f126 (t : Tab) (h72 : look t 72 = s72) (h129 : look t 129 = s129) (h86 : look t 86 = s86) : ∀ args m Q, s126 args m Q → FA Tryz.prog (look t) kp126 Tryz.f126 args m Q := by
  rintro args m Q ⟨g, s, r, a, v, rfl, hP, hA, hsm, hw, hK, hQ⟩
  show FA Tryz.prog (look t) kp126 Tryz.f126 [.pointer (some ⟨g, 0, none⟩), .agg #[.int .i64 v.1, .int .i64 v.2]] m Q
  rw [e126]
  unfold hashA at hQ
  refine newA_intro fun g1 m2 hg1 e2 hb1 hle2 => ⟨_, cell_of hb1 0, ?_⟩
  have hA2 := hA.le hle2
  have hP2 : Ptr m2 g s r a := hle2 _ _ hP
  have t0 := hK.t0
  have t1 := hK.t1
  by_cases c2 : v.1 = 2
  · rw [if_pos (by simpa using c2)]; rw [if_neg (by omega), if_pos c2] at hQ
    have hu : 0 ≤ IntKind.u64.wrap v.2 := by unfold IntKind.wrap; simp [IntKind.bits, IntKind.signed]; omega
    refine ⟨_, cell_of hb1 1, by decide, ret_int hle2 hQ ?_⟩
    rw [Int.tmod_eq_emod_of_nonneg hu, w64 (by omega) (by omega)]
  rw [if_neg (by simpa using c2)]
  by_cases c7 : v.1 = 7
  · rw [if_pos (by simpa using c7)]; rw [if_neg (by omega), if_neg (by omega), if_pos c7] at hQ
    have := val_small hK.ok c7
    exact ⟨_, cell_of hb1 1, ret_int hle2 hQ (w64 (by omega) (by omega))⟩
  rw [if_neg (by simpa using c7)]
  by_cases c1 : v.1 = 1
  · iterate 4 rw [if_neg (by simp; omega)]
    rw [if_pos c1] at hQ; exact ⟨_, cell_of hb1 1, ret_intro hle2 hQ⟩
  rw [if_neg c1, if_neg c2, if_neg c7] at hQ
  have hr := key_ref (v := v) (by omega)
  obtain ⟨w0, w1, w2, w3⟩ := hK.r hr
  have hp := ref_pos hK.ok hr
  by_cases c3 : v.1 = 3
  · rw [if_pos (by simpa using c3)]; rw [if_pos c3] at hQ
    have hT := hK.s c3
    refine ⟨_, cell_of hb1 0, _, cell_of hb1 1, via h129 ⟨g, s, r, a, v, rfl, hP2, hA2, hsm, hw, _, rfl, ?_⟩⟩
    rw [w3]
    refine via h72 ⟨g, s, r, a, _, rfl, hP2, hA2, hw, hT, _, rfl, (textL a.ws (whereW a.ws v.2)).length + 1, ?_⟩
    exact (loopH t (m := m2) (text_len hT) (fun M hM => ret_intro (Mem.le_trans hle2 hM) hQ) _ 0 (by omega) 5381 (by decide) (by decide) rfl m2 (Mem.le_refl _)).2
  rw [if_neg (by simpa using c3)]; rw [if_neg c3] at hQ
  have fin : (∃ y20 : Int, Mem.cell? m2 ⟨g1, 0, none⟩ = some (.int .i64 y20) ∧ ∃ y22 : Int, Mem.cell? m2 ⟨g1, 1, none⟩ = some (.int .i64 y22) ∧ look t 129 [.pointer (some ⟨g, 0, none⟩), .agg #[.int .i64 y20, .int .i64 y22]] m2 fun v24 m25 => (∃ y26 : Int, (v24 = .int .i64 y26 ∧ look t 86 [.pointer (some ⟨g, 0, none⟩), .int .i64 y26] m25 fun v27 m28 => (∃ y29 : Int, (∃ y30 : Int, (∃ y31 : Int, (v27 = .agg #[.int .i64 y29, .int .i64 y30, .int .i64 y31] ∧ ret Q (.int .i64 y31) m28))))))) := by
    refine ⟨_, cell_of hb1 0, _, cell_of hb1 1, via h129 ⟨g, s, r, a, v, rfl, hP2, hA2, hsm, hw, _, rfl, ?_⟩⟩
    rw [w3]
    exact via h86 ⟨g, s, r, a, _, rfl, ⟨hP2, hA2, hw, w1, w2⟩, _, _, _, rfl, ret_intro hle2 hQ⟩
  by_cases c4 : v.1 = 4
  · rw [if_pos (by simpa using c4)]; exact fin
  rw [if_neg (by simpa using c4)]
  by_cases c5 : v.1 = 5
  · rw [if_pos (by simpa using c5)]; exact fin
  rw [if_neg (by simpa using c5), if_pos (by simp; omega)]
  exact fin
theorem hash_nn {a : Ar} {v : Vl} (hw : a.wf) (h : KeyOk a v) : 0 ≤ hashA a.ws v := by
  unfold hashA
  have t0 := h.t0
  have t1 := h.t1
  have hok := h.ok
  by_cases c1 : v.1 = 1
  · rw [if_pos c1]
    unfold valOkB at hok
    rw [c1] at hok
    simp at hok
    exact hok.1
  rw [if_neg c1]
  by_cases c2 : v.1 = 2
  · rw [if_pos c2]; omega
  rw [if_neg c2]
  by_cases c7 : v.1 = 7
  · rw [if_pos c7]; have := val_small hok c7; omega
  rw [if_neg c7]
  by_cases c3 : v.1 = 3
  · rw [if_pos c3]; exact (foldH_range _ 5381 (by decide) (by decide)).1
  rw [if_neg c3]
  unfold lookW readH
  split
  · exact (hdW_range (gw_in hw.w _)).2.2.2.2.1
  · exact Int.le_refl _
end Go.Proofs.YtpdcjocjkbgddaaGreat.Abs
/- Arenas: keys that are the same; the keys of a block. -/
namespace Go.Proofs.YtpdcjocjkbgddaaGreat.Abs
open Go.RowKit
set_option linter.unusedVariables false
set_option linter.unusedSimpArgs false
set_option maxRecDepth 20000
def sameT (ws : List U64) (p q : Int) : Bool := ByteArray.toList (textS ws p) == ByteArray.toList (textS ws q)
def sameA (ws : List U64) (v w : Vl) : Bool := if v.1 = w.1 then if isRefB v then if v.1 = 3 then sameT ws (whereW ws v.2) (whereW ws w.2) else whereW ws v.2 == whereW ws w.2 else v.2 == w.2 else false
def s122 : Spec := fun args m Q => ∃ (s r : Sl) (a : Ar) (v w : Vl), args = [vA s r a, vVl v, vVl w] ∧ ArAt m s r a ∧ a.wf ∧ KeyOk a v ∧ KeyOk a w ∧ Q (.bool (sameA a.ws v w)) m
theorem isRef_tag {v w : Vl} (h : v.1 = w.1) : isRefB v = isRefB w := by unfold isRefB; rw [h]
theorem f122 (t : Tab) (h42 : look t 42 = s42) (h97 : look t 97 = s97) (h100 : look t 100 = s100) : ∀ args m Q, s122 args m Q → FA Tryz.prog (look t) kp122 Tryz.f122 args m Q := by
  rintro args m Q ⟨s, r, a, v, w, rfl, hA, hw, hK, hK', hQ⟩
  show FA Tryz.prog (look t) kp122 Tryz.f122 [.agg #[.slice s.a s.n s.c, .int .i64 a.semi, .int .i64 a.to, .int .i64 a.top, .bool a.cyc, .int .i64 a.scan, .int .i64 a.old, .int .i64 a.cop, .int .i64 a.ser, .slice r.a r.n r.c], .agg #[.int .i64 v.1, .int .i64 v.2], .agg #[.int .i64 w.1, .int .i64 w.2]] m Q
  rw [e122]
  unfold sameA at hQ
  refine newA_intro fun g1 m2 hg1 e2 hb1 hle2 => newA_intro fun g3 m4 hg3 e4 hb3 hle4 => newA_intro fun g5 m6 hg5 e6 hb5 hle6 => ⟨_, cell_of (hle6 _ _ hb3) 0, _, cell_of hb5 0, ?_⟩
  have hb1 := hle6 _ _ (hle4 _ _ hb1)
  have hb3 := hle6 _ _ hb3
  have l6 := Mem.le_trans hle2 (Mem.le_trans hle4 hle6)
  have hA6 := hA.le l6
  by_cases c : v.1 = w.1
  case neg => rw [if_pos (by simpa using c)]; rw [if_neg c] at hQ; exact ret_intro l6 hQ
  rw [if_neg (by simpa using c)]
  rw [if_pos c] at hQ
  refine ⟨_, cell_of hb3 0, _, cell_of hb3 1, via h100 ⟨v, rfl, _, rfl, ?_⟩⟩
  cases hr : isRefB v with
  | false => rw [if_pos (by decide)]; rw [hr, if_neg (by decide)] at hQ; exact ⟨_, cell_of hb3 1, _, cell_of hb5 1, ret_intro l6 hQ⟩
  | true =>
    rw [if_neg (by decide)]
    rw [hr, if_pos rfl] at hQ
    have hr' : isRefB w = true := by rw [← isRef_tag c]; exact hr
    obtain ⟨w0, w1, w2, w3⟩ := hK.r hr
    obtain ⟨x0, x1, x2, x3⟩ := hK'.r hr'
    have hp := ref_pos hK.ok hr
    have hp' := ref_pos hK'.ok hr'
    refine ⟨Mem.le m6, Mem.le_refl _, _, _, _, held (cell_of hb1 0), _, held (cell_of hb1 1), _, held (cell_of hb1 2), _, held (cell_of hb1 3), _, held (cell_of hb1 4), _, held (cell_of hb1 5), _, held (cell_of hb1 6), _, held (cell_of hb1 7), _, held (cell_of hb1 8), _, _, _, held (cell_of hb1 9), _, held (cell_of hb3 1), _, _, _, held (cell_of hb1 0), _, held (cell_of hb1 1), _, held (cell_of hb1 2), _, held (cell_of hb1 3), _, held (cell_of hb1 4), _, held (cell_of hb1 5), _, held (cell_of hb1 6), _, held (cell_of hb1 7), _, held (cell_of hb1 8), _, _, _, held (cell_of hb1 9), _, held (cell_of hb5 1), via h97 ⟨s, r, a, _, rfl, ⟨hA6, hw, by omega, w0⟩, _, rfl, Mem.le_refl _, via h97 ⟨s, r, a, _, rfl, ⟨hA6, hw, by omega, x0⟩, _, rfl, Mem.le_refl _, _, cell_of hb3 0, ?_⟩⟩⟩
    by_cases c3 : v.1 = 3
    · rw [if_pos (by simpa using c3)]; rw [if_pos c3] at hQ
      exact ⟨Mem.le m6, Mem.le_refl _, _, _, _, held (cell_of hb1 0), _, held (cell_of hb1 1), _, held (cell_of hb1 2), _, held (cell_of hb1 3), _, held (cell_of hb1 4), _, held (cell_of hb1 5), _, held (cell_of hb1 6), _, held (cell_of hb1 7), _, held (cell_of hb1 8), _, _, _, held (cell_of hb1 9), _, _, _, held (cell_of hb1 0), _, held (cell_of hb1 1), _, held (cell_of hb1 2), _, held (cell_of hb1 3), _, held (cell_of hb1 4), _, held (cell_of hb1 5), _, held (cell_of hb1 6), _, held (cell_of hb1 7), _, held (cell_of hb1 8), _, _, _, held (cell_of hb1 9), via h42 ⟨s, r, a, _, rfl, hA6, hw, hK.s c3, _, rfl, Mem.le_refl _, via h42 ⟨s, r, a, _, rfl, hA6, hw, hK'.s (c ▸ c3), _, rfl, Mem.le_refl _, ret_intro l6 hQ⟩⟩⟩
    · rw [if_neg (by simpa using c3)]; rw [if_neg c3] at hQ
      exact ret_intro l6 hQ
def s127 : Spec := fun args m Q => ∃ (g : Nat) (s r : Sl) (a : Ar) (v w : Vl), args = [.pointer (some ⟨g, 0, none⟩), vVl v, vVl w] ∧ Ptr m g s r a ∧ ArAt m s r a ∧ a.sm ∧ a.wf ∧ KeyOk a v ∧ KeyOk a w ∧ Q (.bool (sameA a.ws v w)) m
theorem f127 (t : Tab) (h72 : look t 72 = s72) (h129 : look t 129 = s129) (h137 : look t 137 = s137) : ∀ args m Q, s127 args m Q → FA Tryz.prog (look t) kp127 Tryz.f127 args m Q := by
  rintro args m Q ⟨g, s, r, a, v, w, rfl, hP, hA, hsm, hw, hK, hK', hQ⟩
  show FA Tryz.prog (look t) kp127 Tryz.f127 [.pointer (some ⟨g, 0, none⟩), .agg #[.int .i64 v.1, .int .i64 v.2], .agg #[.int .i64 w.1, .int .i64 w.2]] m Q
  rw [e127]
  unfold sameA at hQ
  refine newA_intro fun g1 m2 hg1 e2 hb1 hle2 => newA_intro fun g3 m4 hg3 e4 hb3 hle4 => ⟨_, cell_of (hle4 _ _ hb1) 0, _, cell_of hb3 0, ?_⟩
  have hb1 := hle4 _ _ hb1
  have l4 := Mem.le_trans hle2 hle4
  have hA4 := hA.le l4
  have hP4 : Ptr m4 g s r a := l4 _ _ hP
  by_cases c : v.1 = w.1
  case neg => rw [if_pos (by simpa using c)]; rw [if_neg c] at hQ; exact ret_intro l4 hQ
  rw [if_neg (by simpa using c)]
  rw [if_pos c] at hQ
  refine ⟨_, cell_of hb1 0, _, cell_of hb1 1, via h137 ⟨v, rfl, _, rfl, ?_⟩⟩
  cases hr : isRefB v with
  | false => rw [if_pos (by decide)]; rw [hr, if_neg (by decide)] at hQ; exact ⟨_, cell_of hb1 1, _, cell_of hb3 1, ret_intro l4 hQ⟩
  | true =>
    rw [if_neg (by decide)]
    rw [hr, if_pos rfl] at hQ
    have hr' : isRefB w = true := by rw [← isRef_tag c]; exact hr
    obtain ⟨w0, w1, w2, w3⟩ := hK.r hr
    obtain ⟨x0, x1, x2, x3⟩ := hK'.r hr'
    refine ⟨Mem.le m4, Mem.le_refl _, _, held (cell_of hb1 0), _, held (cell_of hb1 1), _, held (cell_of hb3 0), _, held (cell_of hb3 1), via h129 ⟨g, s, r, a, v, rfl, hP4, hA4, hsm, hw, _, rfl, Mem.le_refl _, via h129 ⟨g, s, r, a, w, rfl, hP4, hA4, hsm, hw, _, rfl, Mem.le_refl _, ?_⟩⟩⟩
    rw [w3, x3]
    by_cases ce : whereW a.ws v.2 = whereW a.ws w.2
    · rw [if_pos (by simpa using ce)]
      rw [ce] at hQ
      have : (if v.1 = 3 then sameT a.ws (whereW a.ws w.2) (whereW a.ws w.2) else whereW a.ws w.2 == whereW a.ws w.2) = true := by split <;> simp [sameT]
      rw [this] at hQ
      exact ret_intro l4 hQ
    · rw [if_neg (by simpa using ce)]
      refine ⟨_, cell_of hb1 0, ?_⟩
      by_cases c3 : v.1 = 3
      · rw [if_pos (by simpa using c3)]; rw [if_pos c3] at hQ
        exact via h72 ⟨g, s, r, a, _, rfl, hP4, hA4, hw, hK.s c3, _, rfl, via h72 ⟨g, s, r, a, _, rfl, hP4, hA4, hw, hK'.s (c ▸ c3), _, rfl, ret_intro l4 hQ⟩⟩
      · rw [if_neg (by simpa using c3)]; rw [if_neg c3, show (whereW a.ws v.2 == whereW a.ws w.2) = false from by simpa using ce] at hQ
        exact ret_intro l4 hQ
def s99 : Spec := fun args m Q => ∃ (s r : Sl) (a : Ar) (b i : Int), args = [vA s r a, .int .i64 b, .int .i64 i] ∧ ArAt m s r a ∧ a.wf ∧ 0 ≤ b ∧ 0 ≤ i ∧ b + 1 + 4 * i + 1 < a.ws.length ∧ Q (vVl (readV a.ws (b + 1 + 4 * i)).1) m
theorem f99 (t : Tab) (h94 : look t 94 = s94) : ∀ args m Q, s99 args m Q → FA Tryz.prog (look t) kp99 Tryz.f99 args m Q := by
  rintro args m Q ⟨s, r, a, b, i, rfl, hA, hw, b0, i0, bi, hQ⟩
  show FA Tryz.prog (look t) kp99 Tryz.f99 [.agg #[.slice s.a s.n s.c, .int .i64 a.semi, .int .i64 a.to, .int .i64 a.top, .bool a.cyc, .int .i64 a.scan, .int .i64 a.old, .int .i64 a.cop, .int .i64 a.ser, .slice r.a r.n r.c], .int .i64 b, .int .i64 i] m Q
  rw [e99]
  have hn := hA.n
  have hN := hw.n
  rw [w64 (x := b + 1) (by omega) (by omega), w64 (x := 4 * i) (by omega) (by omega), w64 (x := b + 1 + 4 * i) (by omega) (by omega)]
  refine newA_intro fun g1 m2 hg1 e2 hb1 hle2 => newA_intro fun g3 m4 hg3 e4 hb3 hle4 => ⟨_, _, _, cell_of (hle4 _ _ hb1) 0, via h94 ⟨s, a.ws, _, rfl, hn, hA.w.le (Mem.le_trans hle2 hle4), hw.w, hN, by omega, by omega, _, _, _, rfl, newA_intro fun g14 m15 hg14 e15 hb14 hle15 => ?_⟩⟩
  refine sto (c := #[.int .i64 0, .int .i64 0]) (t := 58) hb14 rfl (by simp) fun m16 e16 h16 hne16 => ?_
  have h16 : m16 g14 = some (.cells #[.int .i64 (readV a.ws (b + 1 + 4 * i)).1.1, .int .i64 (readV a.ws (b + 1 + 4 * i)).1.2] 58 (0, 0)) := h16
  have n1 : g3 ≠ g14 := ne_of_none hg14 hb3
  have b1 : m16 g3 = some (.cells #[.int .i64 0, .int .i64 0] 58 (0, 0)) := by rw [hne16 _ n1]; exact hle15 _ _ hb3
  refine ⟨_, cell_of h16 0, _, cell_of h16 1, sto (c := #[.int .i64 0, .int .i64 0]) (t := 58) b1 rfl (by simp) fun m21 e21 h21 hne21 => ?_⟩
  have h21 : m21 g3 = some (.cells #[.int .i64 (readV a.ws (b + 1 + 4 * i)).1.1, .int .i64 (readV a.ws (b + 1 + 4 * i)).1.2] 58 (0, 0)) := h21
  have l4 : Mem.le m2 m16 := le_other (Mem.le_trans hle4 hle15) (le_none hle4 hg14) hne16
  exact ⟨_, cell_of h21 0, _, cell_of h21 1, ret_intro (Mem.le_trans hle2 (le_other l4 hg3 hne21)) hQ⟩
end Go.Proofs.YtpdcjocjkbgddaaGreat.Abs
/- Arenas: the entry that a key has. -/
namespace Go.Proofs.YtpdcjocjkbgddaaGreat.Abs
open Go.RowKit
set_option linter.unusedVariables false
set_option linter.unusedSimpArgs false
set_option maxRecDepth 20000
def findG (ws : List U64) (b n : Int) (key : Vl) : Nat → Int → Int × Bool
  | 0, _ => (-1, false)
  | f + 1, i => if (valW ws (b + 1 + 4 * i)).1 = 0 then (i, false) else if sameA ws (valW ws (b + 1 + 4 * i)) key then (i, true) else findG ws b n key f ((i + 1) % n)
def findA (ws : List U64) (b n : Int) (key : Vl) : Int × Bool := if key.1 = 0 then (-1, false) else findG ws b n key n.toNat (hashA ws key % n)
/-- A block of n entries whose keys are right. -/
structure BlkOk (a : Ar) (b n : Int) : Prop where
  b0 : 0 ≤ b
  n1 : 1 ≤ n
  n2 : n ≤ 64
  bn : b + 4 * n < a.ws.length
  k : ∀ i : Int, 0 ≤ i → i < n → valOkB (valW a.ws (b + 1 + 4 * i)) = true ∧ ((valW a.ws (b + 1 + 4 * i)).1 = 0 ∨ KeyOk a (valW a.ws (b + 1 + 4 * i)))
theorem BlkOk.read {a : Ar} {b n i : Int} (h : BlkOk a b n) (i0 : 0 ≤ i) (i1 : i < n) : readV a.ws (b + 1 + 4 * i) = (valW a.ws (b + 1 + 4 * i), true) := by unfold readV; rw [(h.k i i0 i1).1]; rfl
theorem loopF (t : Tab) (h99 : look t 99 = s99) (h122 : look t 122 = s122) {Q : Value → Mem → Prop} {s r : Sl} {a : Ar} {b n : Int} {key : Vl} {g gk : Nat} {m : Mem} {res : Int × Bool} (hw : a.wf) (hB : BlkOk a b n) (hK : KeyOk a key) (hP : Ptr m g s r a) (hA : ArAt m s r a) (hk : m gk = some (.cells #[.int .i64 key.1, .int .i64 key.2] 58 (0, 0)))
    (hQ : ∀ M, Mem.le m M → ret Q (.tuple #[.int .i64 res.1, .bool res.2]) M) :
    ∀ (d j : Nat), (j : Int) + d = n → ∀ (i : Int), 0 ≤ i → i < n → findG a.ws b n key d i = res → ∀ M : Mem, Mem.le m M → L82_5 (look t) (d + 1) Q b n g gk i (j : Int) M := by
  intro d
  have hN := hw.n
  have hn := hA.n
  have b0 := hB.b0
  have bn := hB.bn
  have n2 := hB.n2
  induction d with
  | zero =>
    intro j hj i i0 i1 he M hle
    rw [l82_5]
    refine ⟨M, Mem.le_refl _, ?_⟩
    rw [if_neg (by simp; omega)]
    have he : ((-1 : Int), false) = res := he
    subst he
    exact hQ M hle
  | succ d ih =>
    intro j hj i i0 i1 he M hle
    have hb1 := hle _ _ hP
    have hA := hA.le hle
    rw [l82_5]
    refine ⟨M, Mem.le_refl _, ?_⟩
    rw [if_pos (by simp; omega)]
    obtain ⟨v1, v2⟩ := hB.k i i0 i1
    refine ⟨_, _, _, cell_of hb1 0, _, cell_of hb1 1, _, cell_of hb1 2, _, cell_of hb1 3, _, cell_of hb1 4, _, cell_of hb1 5, _, cell_of hb1 6, _, cell_of hb1 7, _, cell_of hb1 8, _, _, _, cell_of hb1 9, via h99 ⟨s, r, a, b, i, rfl, hA, hw, b0, i0, by omega, _, _, rfl, newA_intro fun g8 m9 hg8 e9 hb8 hle9 => sto (c := #[.int .i64 0, .int .i64 0]) (t := 58) hb8 rfl (by simp) fun m10 e10 h10 hne10 => ?_⟩⟩
    have h10 : m10 g8 = some (.cells #[.int .i64 (readV a.ws (b + 1 + 4 * i)).1.1, .int .i64 (readV a.ws (b + 1 + 4 * i)).1.2] 58 (0, 0)) := h10
    rw [hB.read i0 i1] at h10
    have l10 : Mem.le M m10 := le_other hle9 hg8 hne10
    refine ⟨_, cell_of h10 0, ?_⟩
    unfold findG at he
    by_cases c0 : (valW a.ws (b + 1 + 4 * i)).1 = 0
    · rw [if_pos c0] at he
      subst he
      rw [if_pos (by simpa using c0)]
      exact hQ _ (Mem.le_trans hle l10)
    rw [if_neg (by simpa using c0)]
    rw [if_neg c0] at he
    have hb1 := l10 _ _ hb1
    have hk1 := l10 _ _ (hle _ _ hk)
    refine ⟨_, _, _, cell_of hb1 0, _, cell_of hb1 1, _, cell_of hb1 2, _, cell_of hb1 3, _, cell_of hb1 4, _, cell_of hb1 5, _, cell_of hb1 6, _, cell_of hb1 7, _, cell_of hb1 8, _, _, _, cell_of hb1 9, _, cell_of h10 0, _, cell_of h10 1, _, cell_of hk1 0, _, cell_of hk1 1, via h122 ⟨s, r, a, valW a.ws (b + 1 + 4 * i), key, rfl, hA.le l10, hw, v2.resolve_left c0, hK, _, rfl, ?_⟩⟩
    cases hs : sameA a.ws (valW a.ws (b + 1 + 4 * i)) key with
    | true =>
      rw [hs, if_pos rfl] at he
      subst he
      rw [if_pos rfl]
      exact hQ _ (Mem.le_trans hle l10)
    | false =>
      rw [hs, if_neg (by decide)] at he
      rw [if_neg (by decide), w64 (x := i + 1) (by omega) (by omega), Int.tmod_eq_emod_of_nonneg (by omega), wsucc (n := 64) (by omega) (by decide)]
      refine ⟨by omega, ih (j + 1) (by omega) _ (Int.emod_nonneg _ (by omega)) (Int.emod_lt_of_pos _ (by omega)) he m10 (Mem.le_trans hle l10)⟩
theorem loopE (t : Tab) (h125 : look t 125 = s125) (h127 : look t 127 = s127) {Q : Value → Mem → Prop} {s r : Sl} {a : Ar} {b n : Int} {key : Vl} {g gk : Nat} {m : Mem} {res : Int × Bool} (hw : a.wf) (hsm : a.sm) (hB : BlkOk a b n) (hK : KeyOk a key) (hP : Ptr m g s r a) (hA : ArAt m s r a) (hk : m gk = some (.cells #[.int .i64 key.1, .int .i64 key.2] 58 (0, 0)))
    (hQ : ∀ M, Mem.le m M → ret Q (.tuple #[.int .i64 res.1, .bool res.2]) M) :
    ∀ (d j : Nat), (j : Int) + d = n → ∀ (i : Int), 0 ≤ i → i < n → findG a.ws b n key d i = res → ∀ M : Mem, Mem.le m M → L85_4 (look t) (d + 1) Q g b gk n i n (j : Int) M := by
  intro d
  have hN := hw.n
  have hn := hA.n
  have b0 := hB.b0
  have bn := hB.bn
  have n2 := hB.n2
  induction d with
  | zero =>
    intro j hj i i0 i1 he M hle
    rw [l85_4]
    refine ⟨M, Mem.le_refl _, ?_⟩
    rw [if_neg (by simp; omega)]
    have he : ((-1 : Int), false) = res := he
    subst he
    exact hQ M hle
  | succ d ih =>
    intro j hj i i0 i1 he M hle
    have hb1 := hle _ _ hP
    have hA := hA.le hle
    rw [l85_4]
    refine ⟨M, Mem.le_refl _, ?_⟩
    rw [if_pos (by simp; omega), w64 (x := b + 1) (by omega) (by omega), w64 (x := 4 * i) (by omega) (by omega), w64 (x := b + 1 + 4 * i) (by omega) (by omega)]
    obtain ⟨v1, v2⟩ := hB.k i i0 i1
    refine via h125 ⟨g, s, r, a, _, rfl, ⟨hb1, hA, hw, by omega, by omega⟩, by omega, _, _, rfl, newA_intro fun g8 m9 hg8 e9 hb8 hle9 => sto (c := #[.int .i64 0, .int .i64 0]) (t := 58) hb8 rfl (by simp) fun m10 e10 h10 hne10 => ?_⟩
    have h10 : m10 g8 = some (.cells #[.int .i64 (valW a.ws (b + 1 + 4 * i)).1, .int .i64 (valW a.ws (b + 1 + 4 * i)).2] 58 (0, 0)) := h10
    have l10 : Mem.le M m10 := le_other hle9 hg8 hne10
    refine ⟨_, cell_of h10 0, ?_⟩
    unfold findG at he
    by_cases c0 : (valW a.ws (b + 1 + 4 * i)).1 = 0
    · rw [if_pos c0] at he
      subst he
      rw [if_pos (by simpa using c0)]
      exact hQ _ (Mem.le_trans hle l10)
    rw [if_neg (by simpa using c0)]
    rw [if_neg c0] at he
    have hk1 := l10 _ _ (hle _ _ hk)
    refine ⟨_, cell_of h10 0, _, cell_of h10 1, _, cell_of hk1 0, _, cell_of hk1 1, via h127 ⟨g, s, r, a, valW a.ws (b + 1 + 4 * i), key, rfl, l10 _ _ hb1, hA.le l10, hsm, hw, v2.resolve_left c0, hK, _, rfl, ?_⟩⟩
    cases hs : sameA a.ws (valW a.ws (b + 1 + 4 * i)) key with
    | true =>
      rw [hs, if_pos rfl] at he
      subst he
      rw [if_pos rfl]
      exact hQ _ (Mem.le_trans hle l10)
    | false =>
      rw [hs, if_neg (by decide)] at he
      rw [if_neg (by decide), w64 (x := i + 1) (by omega) (by omega), Int.tmod_eq_emod_of_nonneg (by omega), wsucc (n := 64) (by omega) (by decide)]
      refine ⟨by omega, ih (j + 1) (by omega) _ (Int.emod_nonneg _ (by omega)) (Int.emod_lt_of_pos _ (by omega)) he m10 (Mem.le_trans hle l10)⟩
def s82 : Spec := fun args m Q => ∃ (s r : Sl) (a : Ar) (b n : Int) (key : Vl), args = [vA s r a, .int .i64 b, .int .i64 n, vVl key] ∧ ArAt m s r a ∧ a.wf ∧ BlkOk a b n ∧ (key.1 = 0 ∨ KeyOk a key) ∧ Q (.tuple #[.int .i64 (findA a.ws b n key).1, .bool (findA a.ws b n key).2]) m
theorem f82 (t : Tab) (h99 : look t 99 = s99) (h122 : look t 122 = s122) (h121 : look t 121 = s121) : ∀ args m Q, s82 args m Q → FA Tryz.prog (look t) kp82 Tryz.f82 args m Q := by
  rintro args m Q ⟨s, r, a, b, n, key, rfl, hA, hw, hB, hK, hQ⟩
  show FA Tryz.prog (look t) kp82 Tryz.f82 [.agg #[.slice s.a s.n s.c, .int .i64 a.semi, .int .i64 a.to, .int .i64 a.top, .bool a.cyc, .int .i64 a.scan, .int .i64 a.old, .int .i64 a.cop, .int .i64 a.ser, .slice r.a r.n r.c], .int .i64 b, .int .i64 n, .agg #[.int .i64 key.1, .int .i64 key.2]] m Q
  rw [e82]
  have n1 := hB.n1
  unfold findA at hQ
  refine newA_intro fun g1 m2 hg1 e2 hb1 hle2 => newA_intro fun g3 m4 hg3 e4 hb3 hle4 => ?_
  have hb1 := hle4 _ _ hb1
  have l4 := Mem.le_trans hle2 hle4
  rw [if_neg (by simp; omega)]
  refine ⟨_, cell_of hb3 0, ?_⟩
  by_cases c : key.1 = 0
  · rw [if_pos (by simpa using c)]
    rw [if_pos c] at hQ
    exact ret_intro l4 hQ
  rw [if_neg (by simpa using c)]
  rw [if_neg c] at hQ
  have hK := hK.resolve_left c
  have h0 := hash_nn hw hK
  refine ⟨_, _, _, cell_of hb1 0, _, cell_of hb1 1, _, cell_of hb1 2, _, cell_of hb1 3, _, cell_of hb1 4, _, cell_of hb1 5, _, cell_of hb1 6, _, cell_of hb1 7, _, cell_of hb1 8, _, _, _, cell_of hb1 9, _, cell_of hb3 0, _, cell_of hb3 1, via h121 ⟨s, r, a, key, rfl, hA.le l4, hw, hK, _, rfl, by omega, n.toNat + 1, ?_⟩⟩
  rw [Int.tmod_eq_emod_of_nonneg h0]
  exact loopF t h99 h122 (s := s) (r := r) hw hB hK hb1 (hA.le l4) hb3 (fun M hM => ret_intro (Mem.le_trans l4 hM) hQ) n.toNat 0 (by omega) _ (Int.emod_nonneg _ (by omega)) (Int.emod_lt_of_pos _ (by omega)) rfl m4 (Mem.le_refl _)
def s85 : Spec := fun args m Q => ∃ (g : Nat) (s r : Sl) (a : Ar) (b n : Int) (key : Vl), args = [.pointer (some ⟨g, 0, none⟩), .int .i64 b, vVl key] ∧ Ptr m g s r a ∧ ArAt m s r a ∧ a.sm ∧ a.wf ∧ BlkOk a b n ∧ n = (lookW a.ws b).2.1 / 4 ∧ KeyOk a key ∧ Q (.tuple #[.int .i64 (findA a.ws b n key).1, .bool (findA a.ws b n key).2]) m
theorem f85 (t : Tab) (h125 : look t 125 = s125) (h127 : look t 127 = s127) (h126 : look t 126 = s126) (h86 : look t 86 = s86) : ∀ args m Q, s85 args m Q → FA Tryz.prog (look t) kp85 Tryz.f85 args m Q := by
  rintro args m Q ⟨g, s, r, a, b, n, key, rfl, hP, hA, hsm, hw, hB, hn4, hK, hQ⟩
  show FA Tryz.prog (look t) kp85 Tryz.f85 [.pointer (some ⟨g, 0, none⟩), .int .i64 b, .agg #[.int .i64 key.1, .int .i64 key.2]] m Q
  rw [e85]
  have n1 := hB.n1
  have n2 := hB.n2
  have t0 := hK.t0
  have bn := hB.bn
  unfold findA at hQ
  rw [if_neg (by omega)] at hQ
  have h0 := hash_nn hw hK
  refine newA_intro fun g1 m2 hg1 e2 hb1 hle2 => via h86 ⟨g, s, r, a, b, rfl, ⟨hle2 _ _ hP, hA.le hle2, hw, hB.b0, by omega⟩, _, _, _, rfl, by decide, _, cell_of hb1 0, _, cell_of hb1 1, via h126 ⟨g, s, r, a, key, rfl, hle2 _ _ hP, hA.le hle2, hsm, hw, hK, _, rfl, ?_⟩⟩
  rw [Int.tdiv_eq_ediv_of_nonneg (by omega), ← hn4, w64 (x := n) (by omega) (by omega)]
  refine ⟨by omega, n.toNat + 1, ?_⟩
  rw [Int.tmod_eq_emod_of_nonneg h0]
  exact loopE t h125 h127 (s := s) (r := r) hw hsm hB hK (hle2 _ _ hP) (hA.le hle2) hb1 (fun M hM => ret_intro (Mem.le_trans hle2 hM) hQ) n.toNat 0 (by omega) _ (Int.emod_nonneg _ (by omega)) (Int.emod_lt_of_pos _ (by omega)) rfl m2 (Mem.le_refl _)
end Go.Proofs.YtpdcjocjkbgddaaGreat.Abs
