/- Arenas: hashes of keys. -/
import Derived.Test.YtjdcndicaeodbaaGreatRj
namespace Go.Proofs.YtjdcndicaeodbaaGreat.Abs
open Go.RowKit
set_option linter.unusedVariables false
set_option linter.unusedSimpArgs false
set_option maxRecDepth 20000
def hashS (l : List UInt8) : Int := l.foldl (fun h b => (33 * h + (b.toNat : Int)) % 1000003) 5381
def hashA (ws : List U64) (v : Vl) : Int := if v.1 = 1 then v.2 else if v.1 = 2 then IntKind.u64.wrap v.2 % 1000003 else if v.1 = 7 then v.2 + 7 else if v.1 = 3 then hashS (textL ws (whereW ws v.2)) else (lookW ws (whereW ws v.2)).2.2
/-- A key that is right. -/
structure KeyOk (a : Ar) (v : Vl) : Prop where
  ok : valOkB v = true
  t0 : 1 ≤ v.1
  t1 : v.1 ≤ 7
  r : isRefB v = true → v.2 < a.ws.length ∧ 0 ≤ whereW a.ws v.2 ∧ whereW a.ws v.2 < a.ws.length ∧ placeA a v.2 = whereW a.ws v.2
  s : v.1 = 3 → TextAt a (whereW a.ws v.2)
theorem hash_step {h : Int} (b : UInt8) (h0 : 0 ≤ h) (h1 : h < 1000003) : Int.tmod (IntKind.i64.wrap (IntKind.i64.wrap (33 * h) + IntKind.i64.wrap (b.toNat : Int))) 1000003 = (33 * h + (b.toNat : Int)) % 1000003 ∧ 0 ≤ (33 * h + (b.toNat : Int)) % 1000003 ∧ (33 * h + (b.toNat : Int)) % 1000003 < 1000003 := by
  have hb : b.toNat < 256 := b.toNat_lt
  rw [w64 (x := 33 * h) (by omega) (by omega), w64 (x := (b.toNat : Int)) (by omega) (by omega), w64 (by omega) (by omega), Int.tmod_eq_emod_of_nonneg (by omega)]
  exact ⟨rfl, by omega, by omega⟩
theorem foldH_range : ∀ (l : List UInt8) (h : Int), 0 ≤ h → h < 1000003 → 0 ≤ l.foldl (fun h b => (33 * h + (b.toNat : Int)) % 1000003) h ∧ l.foldl (fun h b => (33 * h + (b.toNat : Int)) % 1000003) h < 1000003
  | [], h, h0, h1 => ⟨h0, h1⟩
  | b :: l, h, h0, h1 => foldH_range l _ (hash_step b h0 h1).2.1 (hash_step b h0 h1).2.2
theorem bytes_get (l : List UInt8) (i : Nat) : (⟨l.toArray⟩ : ByteArray)[i]? = l[i]? := by
  show (if h : i < (⟨l.toArray⟩ : ByteArray).size then some ((⟨l.toArray⟩ : ByteArray)[i]) else none) = l[i]?
  by_cases h : i < l.length
  · rw [dif_pos (show i < (⟨l.toArray⟩ : ByteArray).size from h), List.getElem?_eq_getElem h]
    rfl
  · rw [dif_neg (show ¬ i < (⟨l.toArray⟩ : ByteArray).size from h), List.getElem?_eq_none (by omega)]
theorem loopH (t : Tab) {Q : Value → Mem → Prop} {l : List UInt8} {m : Mem} (hl : l.length ≤ 160) (hQ : ∀ M, Mem.le m M → ret Q (.int .i64 (hashS l)) M) :
    ∀ (d i : Nat), i + d = l.length → ∀ (h : Int), 0 ≤ h → h < 1000003 → (l.drop i).foldl (fun h b => (33 * h + (b.toNat : Int)) % 1000003) h = hashS l → ∀ M : Mem, Mem.le m M →
      L221_12 (look t) (d + 1) Q ⟨l.toArray⟩ h (i : Int) M ∧ L260_10 (look t) (d + 1) Q h ⟨l.toArray⟩ (l.length : Int) (i : Int) M := by
  intro d
  induction d with
  | zero =>
    intro i hi h h0 h1 he M hM
    rw [List.drop_eq_nil_of_le (by omega)] at he
    have he : h = hashS l := he
    subst he
    constructor
    · rw [l221_12]
      refine ⟨M, Mem.le_refl _, ?_⟩
      rw [if_neg (by simp [ByteArray.size]; omega)]
      exact hQ M hM
    · rw [l260_10]
      refine ⟨M, Mem.le_refl _, ?_⟩
      rw [if_neg (by simp; omega)]
      exact hQ M hM
  | succ d ih =>
    intro i hi h h0 h1 he M hM
    have hil : i < l.length := by omega
    rw [List.drop_eq_getElem_cons hil, List.foldl_cons] at he
    obtain ⟨a1, a2, a3⟩ := hash_step l[i] h0 h1
    have hg : (⟨l.toArray⟩ : ByteArray)[Int.toNat (i : Int)]? = some l[i] := by rw [bytes_get, Int.toNat_natCast, List.getElem?_eq_getElem hil]
    have next := ih (i + 1) (by omega) _ a2 a3 he M hM
    constructor
    · rw [l221_12]
      refine ⟨M, Mem.le_refl _, ?_⟩
      rw [if_pos (by simp [ByteArray.size]; omega), wsucc hil (by omega)]
      refine ⟨by omega, _, hg, by decide, ?_⟩
      rw [a1]
      exact next.1
    · rw [l260_10]
      refine ⟨M, Mem.le_refl _, ?_⟩
      rw [if_pos (by simp; omega), wsucc hil (by omega)]
      refine ⟨by omega, _, hg, by decide, ?_⟩
      rw [a1]
      exact next.2
theorem key_ref {v : Vl} (h : v.1 = 3 ∨ v.1 = 4 ∨ v.1 = 5 ∨ v.1 = 6) : isRefB v = true := by
  unfold isRefB kindT
  rcases h with h | h | h | h <;> rw [h] <;> decide
theorem ref_key {v : Vl} (h : isRefB v = true) (h1 : v.1 ≤ 7) : v.1 = 3 ∨ v.1 = 4 ∨ v.1 = 5 ∨ v.1 = 6 := by
  unfold isRefB kindT at h
  repeat' split at h
  all_goals first | omega | (simp at h; done)
theorem text_len {a : Ar} {p : Int} (h : TextAt a p) : (textL a.ws p).length ≤ 160 := by
  have := h.n
  simp [textL, textN]
  omega
theorem val_small {v : Vl} (h : valOkB v = true) (h7 : v.1 = 7) : 1 ≤ v.2 ∧ v.2 ≤ 20 := by
  unfold valOkB at h
  rw [h7] at h
  simpa using h
def s221 : Spec := fun args m Q => ∃ (s r : Sl) (a : Ar) (v : Vl), args = [vA s r a, vVl v] ∧ ArAt m s r a ∧ a.wf ∧ KeyOk a v ∧ Q (.int .i64 (hashA a.ws v)) m
theorem f221 (t : Tab) (h146 : look t 146 = s146) (h123 : look t 123 = s123) (h55 : look t 55 = s55) : ∀ args m Q, s221 args m Q → FA Tryz.prog (look t) kp221 Tryz.f221 args m Q := by
  rintro args m Q ⟨s, r, a, v, rfl, hA, hw, hK, hQ⟩
  show FA Tryz.prog (look t) kp221 Tryz.f221 [.agg #[.slice s.a s.n s.c, .int .i64 a.semi, .int .i64 a.to, .int .i64 a.top, .bool a.cyc, .int .i64 a.scan, .int .i64 a.old, .int .i64 a.cop, .int .i64 a.ser, .slice r.a r.n r.c], .agg #[.int .i64 v.1, .int .i64 v.2]] m Q
  rw [e221]
  unfold hashA at hQ
  refine newA_intro fun g1 m2 hg1 e2 hb1 hle2 => newA_intro fun g3 m4 hg3 e4 hb3 hle4 => ⟨_, cell_of hb3 0, ?_⟩
  have hb1 := hle4 _ _ hb1
  have l4 := Mem.le_trans hle2 hle4
  have hA4 := hA.le l4
  by_cases c1 : v.1 = 1
  · rw [if_pos (by simpa using c1)]; rw [if_pos c1] at hQ; exact ⟨_, cell_of hb3 1, ret_intro l4 hQ⟩
  rw [if_neg (by simpa using c1)]; rw [if_neg c1] at hQ
  by_cases c2 : v.1 = 2
  · rw [if_pos (by simpa using c2)]; rw [if_pos c2] at hQ
    have hu : 0 ≤ IntKind.u64.wrap v.2 := by unfold IntKind.wrap; simp [IntKind.bits, IntKind.signed]; omega
    refine ⟨_, cell_of hb3 1, by decide, ret_int l4 hQ ?_⟩
    rw [Int.tmod_eq_emod_of_nonneg hu, w64 (by omega) (by omega)]
  rw [if_neg (by simpa using c2)]; rw [if_neg c2] at hQ
  by_cases c7 : v.1 = 7
  · rw [if_pos (by simpa using c7)]; rw [if_pos c7] at hQ
    have := val_small hK.ok c7
    exact ⟨_, cell_of hb3 1, ret_int l4 hQ (w64 (by omega) (by omega))⟩
  rw [if_neg (by simpa using c7)]; rw [if_neg c7] at hQ
  have t0 := hK.t0
  have t1 := hK.t1
  have hr := key_ref (v := v) (by omega)
  obtain ⟨w0, w1, w2, w3⟩ := hK.r hr
  have hp := ref_pos hK.ok hr
  by_cases c3 : v.1 = 3
  · rw [if_pos (by simpa using c3)]; rw [if_pos c3] at hQ
    have hT := hK.s c3
    refine ⟨Mem.le m4, Mem.le_refl _, _, _, _, held (cell_of hb1 0), _, held (cell_of hb1 1), _, held (cell_of hb1 2), _, held (cell_of hb1 3), _, held (cell_of hb1 4), _, held (cell_of hb1 5), _, held (cell_of hb1 6), _, held (cell_of hb1 7), _, held (cell_of hb1 8), _, _, _, held (cell_of hb1 9), _, _, _, held (cell_of hb1 0), _, held (cell_of hb1 1), _, held (cell_of hb1 2), _, held (cell_of hb1 3), _, held (cell_of hb1 4), _, held (cell_of hb1 5), _, held (cell_of hb1 6), _, held (cell_of hb1 7), _, held (cell_of hb1 8), _, _, _, held (cell_of hb1 9), _, held (cell_of hb3 1), via h123 ⟨s, r, a, _, rfl, ⟨hA4, hw, by omega, w0⟩, _, rfl, Mem.le_refl _, via h146 ⟨s, r, a, _, rfl, hA4, hw, hT, _, rfl, Mem.le_refl _, (textL a.ws (whereW a.ws v.2)).length + 1, ?_⟩⟩⟩
    exact (loopH t (m := m4) (text_len hT) (fun M hM => ret_intro (Mem.le_trans l4 hM) hQ) _ 0 (by omega) 5381 (by decide) (by decide) rfl m4 (Mem.le_refl _)).1
  · rw [if_neg (by simpa using c3)]; rw [if_neg c3] at hQ
    exact ⟨Mem.le m4, Mem.le_refl _, _, _, _, held (cell_of hb1 0), _, held (cell_of hb1 1), _, held (cell_of hb1 2), _, held (cell_of hb1 3), _, held (cell_of hb1 4), _, held (cell_of hb1 5), _, held (cell_of hb1 6), _, held (cell_of hb1 7), _, held (cell_of hb1 8), _, _, _, held (cell_of hb1 9), _, _, _, held (cell_of hb1 0), _, held (cell_of hb1 1), _, held (cell_of hb1 2), _, held (cell_of hb1 3), _, held (cell_of hb1 4), _, held (cell_of hb1 5), _, held (cell_of hb1 6), _, held (cell_of hb1 7), _, held (cell_of hb1 8), _, _, _, held (cell_of hb1 9), _, held (cell_of hb3 1), via h123 ⟨s, r, a, _, rfl, ⟨hA4, hw, by omega, w0⟩, _, rfl, Mem.le_refl _, via h55 ⟨s, r, a, _, rfl, ⟨hA4, hw, w1, w2⟩, _, _, _, rfl, Mem.le_refl _, ret_intro l4 hQ⟩⟩⟩
def s260 : Spec := fun args m Q => ∃ (g : Nat) (s r : Sl) (a : Ar) (v : Vl), args = [.pointer (some ⟨g, 0, none⟩), vVl v] ∧ Ptr m g s r a ∧ ArAt m s r a ∧ a.sm ∧ a.wf ∧ KeyOk a v ∧ Q (.int .i64 (hashA a.ws v)) m
theorem f260 (t : Tab) (h151 : look t 151 = s151) (h127 : look t 127 = s127) (h60 : look t 60 = s60) : ∀ args m Q, s260 args m Q → FA Tryz.prog (look t) kp260 Tryz.f260 args m Q := by
  rintro args m Q ⟨g, s, r, a, v, rfl, hP, hA, hsm, hw, hK, hQ⟩
  show FA Tryz.prog (look t) kp260 Tryz.f260 [.pointer (some ⟨g, 0, none⟩), .agg #[.int .i64 v.1, .int .i64 v.2]] m Q
  rw [e260]
  unfold hashA at hQ
  refine newA_intro fun g1 m2 hg1 e2 hb1 hle2 => ⟨_, cell_of hb1 0, ?_⟩
  have hA2 := hA.le hle2
  have hP2 : Ptr m2 g s r a := hle2 _ _ hP
  have t0 := hK.t0
  have t1 := hK.t1
  by_cases c2 : v.1 = 2
  · rw [if_pos (by simpa using c2)]; rw [if_neg (by omega), if_pos c2] at hQ
    have hu : 0 ≤ IntKind.u64.wrap v.2 := by unfold IntKind.wrap; simp [IntKind.bits, IntKind.signed]; omega
    refine ⟨_, cell_of hb1 1, by decide, ret_int hle2 hQ ?_⟩
    rw [Int.tmod_eq_emod_of_nonneg hu, w64 (by omega) (by omega)]
  rw [if_neg (by simpa using c2)]
  by_cases c7 : v.1 = 7
  · rw [if_pos (by simpa using c7)]; rw [if_neg (by omega), if_neg (by omega), if_pos c7] at hQ
    have := val_small hK.ok c7
    exact ⟨_, cell_of hb1 1, ret_int hle2 hQ (w64 (by omega) (by omega))⟩
  rw [if_neg (by simpa using c7)]
  by_cases c1 : v.1 = 1
  · iterate 4 rw [if_neg (by simp; omega)]
    rw [if_pos c1] at hQ; exact ⟨_, cell_of hb1 1, ret_intro hle2 hQ⟩
  rw [if_neg c1, if_neg c2, if_neg c7] at hQ
  have hr := key_ref (v := v) (by omega)
  obtain ⟨w0, w1, w2, w3⟩ := hK.r hr
  have hp := ref_pos hK.ok hr
  by_cases c3 : v.1 = 3
  · rw [if_pos (by simpa using c3)]; rw [if_pos c3] at hQ
    have hT := hK.s c3
    refine ⟨_, cell_of hb1 0, _, cell_of hb1 1, via h127 ⟨g, s, r, a, v, rfl, hP2, hA2, hsm, hw, _, rfl, ?_⟩⟩
    rw [w3]
    refine via h151 ⟨g, s, r, a, _, rfl, hP2, hA2, hw, hT, _, rfl, (textL a.ws (whereW a.ws v.2)).length + 1, ?_⟩
    exact (loopH t (m := m2) (text_len hT) (fun M hM => ret_intro (Mem.le_trans hle2 hM) hQ) _ 0 (by omega) 5381 (by decide) (by decide) rfl m2 (Mem.le_refl _)).2
  rw [if_neg (by simpa using c3)]; rw [if_neg c3] at hQ
  have fin : (∃ y20 : Int, Mem.cell? m2 ⟨g1, 0, none⟩ = some (.int .i64 y20) ∧ ∃ y22 : Int, Mem.cell? m2 ⟨g1, 1, none⟩ = some (.int .i64 y22) ∧ look t 127 [.pointer (some ⟨g, 0, none⟩), .agg #[.int .i64 y20, .int .i64 y22]] m2 fun v24 m25 => (∃ y26 : Int, (v24 = .int .i64 y26 ∧ look t 60 [.pointer (some ⟨g, 0, none⟩), .int .i64 y26] m25 fun v27 m28 => (∃ y29 : Int, (∃ y30 : Int, (∃ y31 : Int, (v27 = .agg #[.int .i64 y29, .int .i64 y30, .int .i64 y31] ∧ ret Q (.int .i64 y31) m28))))))) := by
    refine ⟨_, cell_of hb1 0, _, cell_of hb1 1, via h127 ⟨g, s, r, a, v, rfl, hP2, hA2, hsm, hw, _, rfl, ?_⟩⟩
    rw [w3]
    exact via h60 ⟨g, s, r, a, _, rfl, ⟨hP2, hA2, hw, w1, w2⟩, _, _, _, rfl, ret_intro hle2 hQ⟩
  by_cases c4 : v.1 = 4
  · rw [if_pos (by simpa using c4)]; exact fin
  rw [if_neg (by simpa using c4)]
  by_cases c5 : v.1 = 5
  · rw [if_pos (by simpa using c5)]; exact fin
  rw [if_neg (by simpa using c5), if_pos (by simp; omega)]
  exact fin
theorem hash_nn {a : Ar} {v : Vl} (hw : a.wf) (h : KeyOk a v) : 0 ≤ hashA a.ws v := by
  unfold hashA
  have t0 := h.t0
  have t1 := h.t1
  have hok := h.ok
  by_cases c1 : v.1 = 1
  · rw [if_pos c1]
    unfold valOkB at hok
    rw [c1] at hok
    simp at hok
    exact hok.1
  rw [if_neg c1]
  by_cases c2 : v.1 = 2
  · rw [if_pos c2]; omega
  rw [if_neg c2]
  by_cases c7 : v.1 = 7
  · rw [if_pos c7]; have := val_small hok c7; omega
  rw [if_neg c7]
  by_cases c3 : v.1 = 3
  · rw [if_pos c3]; exact (foldH_range _ 5381 (by decide) (by decide)).1
  rw [if_neg c3]
  unfold lookW readH
  split
  · exact (hdW_range (gw_in hw.w _)).2.2.2.2.1
  · exact Int.le_refl _
end Go.Proofs.YtjdcndicaeodbaaGreat.Abs
