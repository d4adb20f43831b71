/- Texts of the claim, merged: rules, contracts and plain laws. No condition. -/
import Derived.Test.YtpkehednooilhaaGreatZdc
import Derived.Test.YtpkehednooilhaaGreatZdEqD
import Derived.Test.YtpkehednooilhaaGreatZdd
import Derived.Test.YtpkehednooilhaaGreatZdEqU
set_option linter.unusedVariables false
set_option linter.unusedSimpArgs false
set_option linter.unusedSectionVars false
set_option maxRecDepth 20000
set_option maxHeartbeats 2000000
namespace Go.Proofs.YtpkehednooilhaaGreat.Abs
open Go.RowKit
def hid (X : List Nat) (m : Mem) : Mem := fun b => if b ∈ X then none else m b
theorem hid_off {X : List Nat} {m : Mem} {b : Nat} (h : b ∉ X) : hid X m b = m b := if_neg h
theorem hid_le (X : List Nat) (m : Mem) : Mem.le (hid X m) m := fun b o e => by
 unfold hid at e
 split at e
 ·cases e
 ·exact e
theorem hid_mono {X : List Nat} {m m' : Mem} (h : Off X m m') : Mem.le (hid X m) (hid X m') := fun b o e => by
 unfold hid at e ⊢
 split at e
 ·cases e
 ·rename_i hb
  rw [if_neg hb]
  exact h b o hb e
theorem hid_add {X D : List Nat} {m M : Mem} (hf : ∀ b ∈ D, m b = none) (hl : Mem.le (hid X m) M) : Mem.le (hid X m) (hid (X ++ D) M) := fun b o e => by
 have e' := hl b o e
 unfold hid at e ⊢
 split at e
 ·cases e
 ·rename_i hb
  rw [if_neg fun k => (List.mem_append.1 k).elim hb fun k => by rw [hf b k] at e; cases e]
  exact e'
theorem off_le {X : List Nat} {m M : Mem} (h : Off X m M) : Mem.le (hid X m) M := fun b o e => by
 unfold hid at e
 split at e
 ·cases e
 ·rename_i hb
  exact h b o hb e
def Cu (s : Sl) (X : List Nat) (m : Mem) (g : Nat) : Prop := g ∈ X ∧ (∃ i h : Int, 0 ≤ i ∧ m g = some (.cells #[.slice s.a s.n s.c, .int .i64 i, .int .i64 h] 161 (0, 0))) ∧ ∃ bs : List U8, Rd (hid X m) s.a bs ∧ bs.length = s.n ∧ bs.length ≤ 2 ^ 20
def Kc (m : Mem) (g : Nat) (M : Mem) : Prop := Off [g] m M ∧ ∀ (s : Sl) (i h : Int), 0 ≤ i → m g = some (.cells #[.slice s.a s.n s.c, .int .i64 i, .int .i64 h] 161 (0, 0)) → ∃ i' h' : Int, 0 ≤ i' ∧ M g = some (.cells #[.slice s.a s.n s.c, .int .i64 i', .int .i64 h'] 161 (0, 0))
theorem Kc.refl (m : Mem) (g : Nat) : Kc m g m := ⟨Off.refl _ _, fun s i h h0 e => ⟨i, h, h0, e⟩⟩
theorem Kc.trans {m M N : Mem} {g : Nat} (h : Kc m g M) (k : Kc M g N) : Kc m g N := ⟨h.1.trans k.1, fun s i v h0 e => by
 obtain ⟨i', v', h0', e'⟩ := h.2 s i v h0 e
 exact k.2 s i' v' h0' e'⟩
theorem Kc.of_le {m M : Mem} (g : Nat) (l : Mem.le m M) : Kc m g M := ⟨Off.of_le l, fun s i v h0 e => ⟨i, v, h0, l _ _ e⟩⟩
theorem Kc.put {m M N : Mem} {g b : Nat} (h : Kc m g M) (hb : m b = none) (hg : b ≠ g) (ho : ∀ x, x ≠ b → N x = M x) : Kc m g N := ⟨h.1.fresh hb ho, fun s i v h0 e => by rw [ho g (Ne.symm hg)]; exact h.2 s i v h0 e⟩
theorem Kc.at {m M : Mem} {g b : Nat} {o : Obj} (h : Kc m g M) (e : m b = some o) (hb : b ≠ g) : M b = some o := h.1 b o (fun k => hb (List.mem_singleton.1 k)) e
theorem Kc.off {s : Sl} {X : List Nat} {m M : Mem} {g : Nat} (h : Kc m g M) (hC : Cu s X m g) : Off X m M := fun b o hb e => h.1 b o (fun k => hb (by rw [List.mem_singleton.1 k]; exact hC.1)) e
theorem Kc.cu {s : Sl} {X : List Nat} {m M : Mem} {g : Nat} (h : Kc m g M) (hC : Cu s X m g) : Cu s X M g := by
 obtain ⟨hx, ⟨i, v, h0, e⟩, bs, hR, hn⟩ := id hC
 exact ⟨hx, h.2 s i v h0 e, bs, hR.le (hid_mono (h.off hC)), hn⟩
theorem Cu.live {s : Sl} {X : List Nat} {m : Mem} {g : Nat} (h : Cu s X m g) : ∃ o, m g = some o := by
 obtain ⟨_, ⟨i, v, _, e⟩, _⟩ := h
 exact ⟨_, e⟩
theorem Cu.ne {s : Sl} {X : List Nat} {m : Mem} {g b : Nat} (h : Cu s X m g) (hb : m b = none) : b ≠ g := fun e => by
 obtain ⟨o, ho⟩ := h.live
 rw [e, ho] at hb
 cases hb
theorem Kc.fresh {s : Sl} {X : List Nat} {m M : Mem} {g b : Nat} (h : Kc m g M) (hC : Cu s X m g) (hb : M b = none) : m b = none := by
 cases e : m b with
 | none => rfl
 | some o => have := h.at e ((h.cu hC).ne hb); rw [hb] at this; cases this
theorem Kc.add {s : Sl} {X D : List Nat} {m M : Mem} {g : Nat} (h : Kc m g M) (hC : Cu s X m g) (hf : ∀ b ∈ D, m b = none) : Cu s (X ++ D) M g := by
 obtain ⟨hx, ⟨i, v, h0, e⟩, bs, hR, hn⟩ := id hC
 exact ⟨List.mem_append_left _ hx, h.2 s i v h0 e, bs, hR.le (hid_add hf (off_le (h.off hC))), hn⟩
theorem Cu.le {s : Sl} {X : List Nat} {m m' : Mem} {g : Nat} (h : Cu s X m g) (hl : Mem.le m m') : Cu s X m' g := (Kc.of_le g hl).cu h
theorem and255 {x : BitVec (IntKind.bits .i64)} : 0 ≤ IntKind.i64.wrap (BitVec.toNat (x &&& BitVec.ofInt (IntKind.bits .i64) (255 : Int))) ∧ IntKind.i64.wrap (BitVec.toNat (x &&& BitVec.ofInt (IntKind.bits .i64) (255 : Int))) ≤ 255 := by
 have h : BitVec.toNat (x &&& BitVec.ofInt (IntKind.bits .i64) (255 : Int)) ≤ 255 := by
  rw [BitVec.toNat_and]
  exact Nat.le_trans Nat.and_le_right (by decide)
 rw [w64 (by omega) (by omega)]
 omega
theorem Wo.hid {X D : List Nat} {m : Mem} {s r : Sl} {a : Ar} (h : Wo m s r a D) (hd : ∀ b ∈ D, b ∉ X) : ArAt (hid X m) s r a := (h.ext (m' := Abs.hid X m) fun b hb => hid_off (hd b hb)).at
abbrev lA (s r : Sl) (a : Ar) : List Value := [.slice s.a s.n s.c, .int .i64 a.semi, .int .i64 a.to, .int .i64 a.top, .bool a.cyc, .int .i64 a.scan, .int .i64 a.old, .int .i64 a.cop, .int .i64 a.ser, .slice r.a r.n r.c]
theorem Ptr.rd {m : Mem} {g : Nat} {s r : Sl} {a : Ar} (p : Ptr m g s r a) {K : List Value → Prop} (h : K (lA s r a)) : rA m g K := ⟨_, _, _, cO p 0, _, cO p 1, _, cO p 2, _, cO p 3, _, cO p 4, _, cO p 5, _, cO p 6, _, cO p 7, _, cO p 8, _, _, _, cO p 9, h⟩
theorem Ptr.hd {S : Mem → Prop} {g : Nat} {s r : Sl} {a : Ar} (p : ∀ q, S q → Ptr q g s r a) {K : List Value → Prop} (h : K (lA s r a)) : hA S g K := ⟨_, _, _, fun q hq => cO (p q hq) 0, _, fun q hq => cO (p q hq) 1, _, fun q hq => cO (p q hq) 2, _, fun q hq => cO (p q hq) 3, _, fun q hq => cO (p q hq) 4, _, fun q hq => cO (p q hq) 5, _, fun q hq => cO (p q hq) 6, _, fun q hq => cO (p q hq) 7, _, fun q hq => cO (p q hq) 8, _, _, _, fun q hq => cO (p q hq) 9, h⟩
theorem wA_of {s r : Sl} {a : Ar} {K : List Value → Prop} (h : K (lA s r a)) : wA (vA s r a) K := ⟨_, _, _, _, _, _, _, _, _, _, _, _, _, _, rfl, h⟩
theorem wN_of {s r : Sl} {a : Ar} {z : Int} {K : List Value → Int → Prop} (h : K (lA s r a) z) : wN (.tuple #[vA s r a, .int .i64 z]) K := ⟨_, _, _, _, _, _, _, _, _, _, _, _, _, _, _, rfl, h⟩
theorem wB_of {s r : Sl} {a : Ar} {z : Bool} {K : List Value → Bool → Prop} (h : K (lA s r a) z) : wB (.tuple #[vA s r a, .bool z]) K := ⟨_, _, _, _, _, _, _, _, _, _, _, _, _, _, _, rfl, h⟩
theorem sto_A {m : Mem} {g : Nat} {c : Array Value} {s r : Sl} {a : Ar} {K : Mem → Prop} (h : m g = some (.cells c 27 (0, 0))) (hc : c.size = 10) (hK : ∀ m', (∀ b, b ≠ g → m' b = m b) → Ptr m' g s r a → K m') : stoA m ⟨g, 0, none⟩ (lA s r a) K := by
 refine sto h rfl (by rw [hc]; exact Nat.le_refl 10) fun m' e q ne => hK m' ne ?_
 have e : setAll c 0 (lA s r a) = (lA s r a).toArray := by
  have hl : c.toList.length = 10 := by rw [Array.length_toList, hc]
  have := set_all_mid (lA s r a) [] c.toList (by rw [hl]; exact Nat.le_refl 10)
  rw [List.drop_eq_nil_of_le (by rw [hl]; exact Nat.le_refl 10)] at this
  simpa using this
 unfold Ptr
 rw [q, e]
 rfl
def s204 : Spec := fun args m Q => ∃ (X : List Nat) (g : Nat) (s0 : Sl), args = [.pointer (some ⟨g, 0, none⟩)] ∧ Cu s0 X m g ∧ ∀ (x : Int) (M : Mem), 0 ≤ x → x ≤ 255 → Kc m g M → Q (.int .i64 x) M
theorem f204 (t : Tab) : Mt t s204 kp204 Tryz.f204 := by
 rintro args m Q ⟨X, g, s0, rfl, hC, hQ⟩
 rw [e204]
 obtain ⟨sa, sn, sc⟩ := s0
 obtain ⟨hx, ⟨i, v, h0, e⟩, bs, hR, hn, hb⟩ := id hC
 have hn : bs.length = sn := hn
 have hR : Rd (hid X m) sa bs := hR
 have mk : ∀ (M : Mem) (i' v' : Int), (∀ b, b ≠ g → M b = m b) → M g = some (.cells #[.slice sa sn sc, .int .i64 i', .int .i64 v'] 161 (0, 0)) → 0 ≤ i' → Kc m g M := fun M i' v' ne q h0' =>
  ⟨fun b o hb h => by rw [ne b fun e => hb (by simp [e])]; exact h, fun s1 i1 v1 _ e1 => by
   have := e.symm.trans e1
   simp at this
   exact ⟨i', v', h0', by rw [q]; simp [this]⟩⟩
 refine ⟨v, cO e 2, sto e rfl (by simp) fun m3 e3 q3 ne3 => ?_⟩
 have q3 : m3 g = some (.cells #[.slice sa sn sc, .int .i64 i, .int .i64 (IntKind.i64.wrap (IntKind.i64.wrap (v * 6364136223846793005) + 1442695040888963407))] 161 (0, 0)) := q3
 have k3 := mk m3 i _ ne3 q3 h0
 have hR3 : Rd m3 sa bs := (hR.le (hid_mono (m' := m3) fun b o hb h => by rw [ne3 b fun e => hb (e ▸ hx)]; exact h)).le (hid_le X m3)
 refine ⟨Mem.le m3, Mem.le_refl _, _, held (cO q3 2), by decide, _, held (cO q3 2), by decide, Mem.le m3, Mem.le_refl _, _, held (cO q3 1), _, _, _, held (cO q3 0), ?_⟩
 by_cases c : i < (sn : Int)
 ·rw [if_pos (by simpa using c)]
  refine ⟨Mem.le m3, Mem.le_refl _, _, _, _, held (cO q3 0), _, held (cO q3 1), ?_⟩
  refine at1 (⟨0⟩ : U8) (fun x : U8 => .int .u8 x.v) (fun _ => rfl) hR3 hn h0 c fun ad had hd => ⟨_, hd, _, cO q3 1, sto q3 rfl (by simp) fun m4 e4 q4 ne4 => ?_⟩
  have q4 : m4 g = some (.cells #[.slice sa sn sc, .int .i64 (IntKind.i64.wrap (i + 1)), .int .i64 (IntKind.i64.wrap (IntKind.i64.wrap (v * 6364136223846793005) + 1442695040888963407))] 161 (0, 0)) := q4
  have k4 := mk m4 _ _ (fun b hb => (ne4 b hb).trans (ne3 b hb)) q4 (by rw [w64 (by omega) (by omega)]; omega)
  exact ret_intro (Mem.le_refl _) (hQ _ m4 and255.1 and255.2 k4)
 ·rw [if_neg (by simpa using c)]
  exact ret_intro (Mem.le_refl _) (hQ _ m3 and255.1 and255.2 k3)
def s144 : Spec := fun args m Q => ∃ (X : List Nat) (g : Nat) (s0 : Sl) (n : Int), args = [.pointer (some ⟨g, 0, none⟩), .int .i64 n] ∧ Cu s0 X m g ∧ n ≤ 4294967296 ∧ ∀ (x : Int) (M : Mem), 0 ≤ x → (x < n ∨ n ≤ 0 ∧ x = 0) → Kc m g M → Q (.int .i64 x) M
theorem tmod_in {x n : Int} (h0 : 0 ≤ x) (hn : 0 < n) : 0 ≤ Int.tmod x n ∧ Int.tmod x n < n := by
 rw [Int.tmod_eq_emod_of_nonneg h0]
 exact ⟨Int.emod_nonneg _ (by omega), Int.emod_lt_of_pos _ hn⟩
theorem f144 (t : Tab) (h204 : look t 204 = s204) : Mt t s144 kp144 Tryz.f144 := by
 rintro args m Q ⟨X, g, s0, n, rfl, hC, hn, hQ⟩
 rw [e144]
 by_cases c0 : n ≤ 0
 ·rw [if_pos (by simpa using c0)]
  exact ret_intro (Mem.le_refl _) (hQ 0 m (Int.le_refl _) (.inr ⟨c0, rfl⟩) (Kc.refl m g))
 rw [if_neg (by simpa using c0)]
 by_cases c1 : n ≤ 256
 ·rw [if_pos (by simpa using c1)]
  refine via h204 ⟨X, g, s0, rfl, hC, fun x M x0 x1 k => ⟨_, rfl, by omega, ret_intro (Mem.le_refl _) (hQ _ M ?_ (.inl ?_) k)⟩⟩
  ·exact (tmod_in x0 (by omega)).1
  ·exact (tmod_in x0 (by omega)).2
 rw [if_neg (by simpa using c1)]
 refine via h204 ⟨X, g, s0, rfl, hC, fun x1 M1 a1 b1 k1 => ⟨_, rfl, via h204 ⟨X, g, s0, rfl, k1.cu hC, fun x2 M2 a2 b2 k2 => ⟨_, rfl, via h204 ⟨X, g, s0, rfl, (k1.trans k2).cu hC, fun x3 M3 a3 b3 k3 => ⟨_, rfl, via h204 ⟨X, g, s0, rfl, (k1.trans (k2.trans k3)).cu hC, fun x4 M4 a4 b4 k4 => ⟨_, rfl, by omega, ?_⟩⟩⟩⟩⟩⟩⟩⟩
 rw [w64 (x := x1 * 16777216) (by omega) (by omega), w64 (x := x2 * 65536) (by omega) (by omega), w64 (x := x3 * 256) (by omega) (by omega), w64 (x := x1 * 16777216 + x2 * 65536) (by omega) (by omega), w64 (x := x1 * 16777216 + x2 * 65536 + x3 * 256) (by omega) (by omega), w64 (x := x1 * 16777216 + x2 * 65536 + x3 * 256 + x4) (by omega) (by omega)]
 have := tmod_in (x := x1 * 16777216 + x2 * 65536 + x3 * 256 + x4) (n := n) (by omega) (by omega)
 exact ret_intro (Mem.le_refl _) (hQ _ M4 this.1 (.inl this.2) (k1.trans (k2.trans (k3.trans k4))))
def s114 : Spec := fun args m Q => ∃ (X : List Nat) (g : Nat) (s0 : Sl) (n : Int), args = [.pointer (some ⟨g, 0, none⟩), .int .i64 n] ∧ Cu s0 X m g ∧ n ≤ 4294967296 ∧ ∀ (x : Bool) (M : Mem), Kc m g M → Q (.bool x) M
theorem f114 (t : Tab) (h144 : look t 144 = s144) : Mt t s114 kp114 Tryz.f114 := by
 rintro args m Q ⟨X, g, s0, n, rfl, hC, hn, hQ⟩
 rw [e114]
 exact via h144 ⟨X, g, s0, n, rfl, hC, hn, fun x M _ _ k => ⟨_, rfl, ret_intro (Mem.le_refl _) (hQ _ M k)⟩⟩
def s115 : Spec := fun args m Q => ∃ (X : List Nat) (g : Nat) (s0 : Sl) (s : Sl) (l : List Int), args = [.pointer (some ⟨g, 0, none⟩), vs s] ∧ Cu s0 X m g ∧ Rd (hid X m) s.a l ∧ l.length = s.n ∧ 0 < l.length ∧ l.length ≤ 100 ∧ ∀ (x : Int) (M : Mem), x ∈ l → Kc m g M → Q (.int .i64 x) M
theorem f115 (t : Tab) (h144 : look t 144 = s144) : Mt t s115 kp115 Tryz.f115 := by
 rintro args m Q ⟨X, g, s0, ⟨sa, sn, sc⟩, l, rfl, hC, hR, hn, hl, hu, hQ⟩
 show FA _ _ _ _ [.pointer (some ⟨g, 0, none⟩), .slice sa sn sc] m Q
 have hn : l.length = sn := hn
 have hR : Rd (hid X m) sa l := hR
 rw [e115]
 refine via h144 ⟨X, g, s0, _, rfl, hC, by omega, fun x M x0 x1 k => ⟨_, rfl, ?_⟩⟩
 have hR' : Rd M sa l := (hR.le (hid_mono (k.off hC))).le (hid_le X M)
 refine at1 (0 : Int) (fun x : Int => .int .i64 x) (fun _ => rfl) hR' hn x0 (by omega) fun ad had hd => ⟨_, hd _ (Mem.le_refl _), ret_intro (Mem.le_refl _) (hQ _ M ?_ k)⟩
 rw [List.getD_eq_getElem?_getD, List.getElem?_eq_getElem (by omega), Option.getD_some]
 exact List.getElem_mem _
def s132 : Spec := fun args m Q => ∃ (X : List Nat) (g : Nat) (s0 : Sl) (s : Sl) (l : List ByteArray), args = [.pointer (some ⟨g, 0, none⟩), vs s] ∧ Cu s0 X m g ∧ Rd (hid X m) s.a l ∧ l.length = s.n ∧ 0 < l.length ∧ l.length ≤ 100 ∧ ∀ (x : ByteArray) (M : Mem), x ∈ l → Kc m g M → Q (.string x) M
theorem f132 (t : Tab) (h144 : look t 144 = s144) : Mt t s132 kp132 Tryz.f132 := by
 rintro args m Q ⟨X, g, s0, ⟨sa, sn, sc⟩, l, rfl, hC, hR, hn, hl, hu, hQ⟩
 show FA _ _ _ _ [.pointer (some ⟨g, 0, none⟩), .slice sa sn sc] m Q
 have hn : l.length = sn := hn
 have hR : Rd (hid X m) sa l := hR
 rw [e132]
 refine via h144 ⟨X, g, s0, _, rfl, hC, by omega, fun x M x0 x1 k => ⟨_, rfl, ?_⟩⟩
 have hR' : Rd M sa l := (hR.le (hid_mono (k.off hC))).le (hid_le X M)
 refine at1 (ByteArray.empty) (fun x : ByteArray => .string x) (fun _ => rfl) hR' hn x0 (by omega) fun ad had hd => ⟨_, hd _ (Mem.le_refl _), ret_intro (Mem.le_refl _) (hQ _ M ?_ k)⟩
 rw [List.getD_eq_getElem?_getD, List.getElem?_eq_getElem (by omega), Option.getD_some]
 exact List.getElem_mem _
def s83 : Spec := fun args m Q => ∃ (s : Sl) (bs : List U8), args = [vs s] ∧ Rd m s.a bs ∧ bs.length = s.n ∧ bs.length ≤ 2 ^ 20 ∧ ∀ (g : Nat) (M : Mem), m g = none → Mem.le m M → Cu s [g] M g → Q (.pointer (some ⟨g, 0, none⟩)) M
theorem f83 (t : Tab) : Mt t s83 kp83 Tryz.f83 := by
 rintro args m Q ⟨⟨sa, sn, sc⟩, bs, rfl, hR, hn, hb, hQ⟩
 show FA _ _ _ _ [.slice sa sn sc] m Q
 have hn : bs.length = sn := hn
 have hR : Rd m sa bs := hR
 rw [e83]
 have fin : ∀ h : Int, newA m (.cells #[.slice sa sn sc, .int .i64 0, .int .i64 h] 161 (0, 0)) fun g6 m7 => ret Q (.pointer (some ⟨g6, 0, none⟩)) m7 := fun h => newA_intro fun g m1 hg e1 hb1 hle => by
  have hh : Mem.le m (hid [g] m1) := fun b o e => by
   have : b ∉ [g] := fun k => by rw [List.mem_singleton.1 k, hg] at e; cases e
   rw [hid_off this]
   exact hle b o e
  exact ret_intro (Mem.le_refl _) (hQ g m1 hg hle ⟨by simp, ⟨0, h, Int.le_refl _, hb1⟩, bs, hR.le hh, hn, hb⟩)
 suffices key : ∀ (d i : Nat) (h : Int), i + d = bs.length → L83_3 (look t) (d + 1) Q sa sn sc h (i : Int) m from ⟨bs.length + 1, key bs.length 0 _ (by omega)⟩
 intro d
 induction d with
 | zero =>
  intro i h hi
  rw [l83_3]
  refine ⟨m, Mem.le_refl _, ?_⟩
  rw [if_neg (by simp; omega)]
  exact fin h
 | succ d ih =>
  intro i h hi
  rw [l83_3]
  refine ⟨m, Mem.le_refl _, ?_⟩
  rw [if_pos (by simp; omega)]
  by_cases c : (i : Int) < 4000
  ·rw [if_pos (by simpa using c), wsucc (n := 2 ^ 20) (by omega) (by decide)]
   exact at1 (⟨0⟩ : U8) (fun x : U8 => .int .u8 x.v) (fun _ => rfl) hR hn (by omega) (by omega) fun ad had hd => ⟨_, hd _ (Mem.le_refl _), ih (i + 1) _ (by omega)⟩
  ·rw [if_neg (by simpa using c)]
   exact fin h
def s169 : Spec := fun args m Q => ∃ (s : Sl) (k : Int), args = [vs s, .int .i64 k] ∧ s.n ≤ 2 ^ 20 ∧ 0 ≤ k ∧ k ≤ 1000 ∧ ∀ x : Int, 0 ≤ x → x ≤ 1000 → Q (.int .i64 x) m
theorem f169 (t : Tab) : Mt t s169 kp169 Tryz.f169 := by
 rintro args m Q ⟨⟨sa, sn, sc⟩, k, rfl, hn, k0, k1, hQ⟩
 show FA _ _ _ _ [.slice sa sn sc, .int .i64 k] m Q
 have hn : sn ≤ 2 ^ 20 := hn
 rw [e169]
 refine ⟨by decide, ?_⟩
 have e : Int.tdiv (sn : Int) 20 = ((sn / 20 : Nat) : Int) := by rw [Int.tdiv_eq_ediv_of_nonneg (by omega)]; omega
 rw [e, w64 (x := ((sn / 20 : Nat) : Int)) (by omega) (by omega), w64 (x := 2 + ((sn / 20 : Nat) : Int)) (by omega) (by omega)]
 by_cases c : 2 + ((sn / 20 : Nat) : Int) > k
 ·rw [if_pos (by simpa using c)]
  exact ret_intro (Mem.le_refl _) (hQ _ k0 k1)
 ·rw [if_neg (by simpa using c)]
  exact ret_intro (Mem.le_refl _) (hQ _ (by omega) (by omega))
def zB (m : Mem) (g : Nat) : Prop := ∃ c : Array Value, m g = some (.cells c 27 (0, 0)) ∧ c.size = 10
theorem zB.of {m : Mem} {g : Nat} (h : m g = some (.cells zAr 27 (0, 0))) : zB m g := ⟨_, h, rfl⟩
theorem Ptr.z {m : Mem} {g : Nat} {s r : Sl} {a : Ar} (h : Ptr m g s r a) : zB m g := ⟨_, h, rfl⟩
theorem zB.eq {m m' : Mem} {g : Nat} (h : zB m g) (e : m' g = m g) : zB m' g := by
 obtain ⟨c, h1, h2⟩ := h
 exact ⟨c, e.trans h1, h2⟩
theorem zB.le {m m' : Mem} {g : Nat} (h : zB m g) (l : Mem.le m m') : zB m' g := by
 obtain ⟨c, h1, h2⟩ := h
 exact ⟨c, l _ _ h1, h2⟩
theorem zB.live {m : Mem} {g : Nat} (h : zB m g) : m g ≠ none := by
 obtain ⟨c, h1, h2⟩ := h
 rw [h1]; exact fun e => by cases e
theorem zB.sto {m : Mem} {g : Nat} {s r : Sl} {a : Ar} {K : Mem → Prop} (h : zB m g) (hK : ∀ m', (∀ b, b ≠ g → m' b = m b) → Ptr m' g s r a → K m') : stoA m ⟨g, 0, none⟩ (lA s r a) K := by
 obtain ⟨c, h1, h2⟩ := h
 exact sto_A h1 h2 hK
def nxK (X : Value) (m : Mem) (q : Ar) (Q : Value → Mem → Prop) : Prop := ∀ (s' r' : Sl) (D : List Nat) (M : Mem), Mem.le m M → Wo M s' r' q D → (∀ b ∈ D, m b = none) → Q (.tuple #[vA s' r' q, X]) M
structure St0 (m : Mem) (g1 g3 g5 : Nat) (s r : Sl) (a : Ar) (s' r' : Sl) (b : Ar) (D : List Nat) (M : Mem) : Prop where
 p1 : Ptr M g1 s r a
 A : ArAt M s r a
 A0 : ArAt m s r a
 z : zB M g3
 z3 : m g3 = none
 d3 : g3 ∉ D
 im : Im M g5 s' r' b D
 hO : Off D m M
 hD : ∀ b ∈ D, m b = none
 n3 : g3 ≠ g5
 d1 : g1 ∉ D
 n1 : g1 ≠ g5
 z5 : m g5 = none
theorem im_ret {X : Value} {m M : Mem} {g3 g5 : Nat} {s' r' : Sl} {b : Ar} {D : List Nat} {Q : Value → Mem → Prop} (im : Im M g5 s' r' b D) (z : zB M g3) (z3 : m g3 = none) (d3 : g3 ∉ D) (hO : Off D m M) (hD : ∀ b ∈ D, m b = none) (hQ : nxK X m b Q) :
  rA M g5 fun w => stoA M ⟨g3, 0, none⟩ w fun m' => rA m' g3 fun w' => ret Q (.tuple #[.agg w'.toArray, X]) m' :=
 im.p.rd (z.sto fun m' ne p => p.rd (ret_off (hO.fresh z3 ne) (hQ s' r' D _ (le_new (fun b hb => mix_off hb) hD) (Wo.mix (im.w.ext fun q hq => ne q fun e => d3 (e ▸ hq))) hD)))
theorem St0.ret {X : Value} {m M : Mem} {g1 g3 g5 : Nat} {s r s' r' : Sl} {a b : Ar} {D : List Nat} {Q : Value → Mem → Prop} (S : St0 m g1 g3 g5 s r a s' r' b D M) (hQ : nxK X m b Q) :
  rA M g5 fun w => stoA M ⟨g3, 0, none⟩ w fun m' => rA m' g3 fun w' => Abs.ret Q (.tuple #[.agg w'.toArray, X]) m' :=
 im_ret S.im S.z S.z3 S.d3 S.hO S.hD hQ
theorem wo_ret {X : Value} {m M : Mem} {g3 : Nat} {s' r' : Sl} {b : Ar} {D : List Nat} {Q : Value → Mem → Prop} (w : Wo M s' r' b D) (z : zB M g3) (z3 : m g3 = none) (d3 : g3 ∉ D) (hO : Off D m M) (hD : ∀ b ∈ D, m b = none) (hQ : nxK X m b Q) :
  stoA M ⟨g3, 0, none⟩ (lA s' r' b) fun m' => rA m' g3 fun w' => ret Q (.tuple #[.agg w'.toArray, X]) m' :=
 z.sto fun m' ne p => p.rd (ret_off (hO.fresh z3 ne) (hQ s' r' D _ (le_new (fun b hb => mix_off hb) hD) (Wo.mix (w.ext fun q hq => ne q fun e => d3 (e ▸ hq))) hD))
theorem cp_pre (t : Tab) {F : FuncId} (hF : look t F = s108) {m M : Mem} {g1 g3 : Nat} {s r : Sl} {a : Ar} (l2 : Mem.le m M) (p1 : Ptr M g1 s r a) (z : zB M g3) (z3 : m g3 = none) (A : ArAt m s r a) (hw : a.wf) {K : Nat → Mem → Prop}
  (hK : ∀ (g5 : Nat) (s' r' : Sl) (D : List Nat) (M' : Mem), Mem.le M M' → St0 m g1 g3 g5 s r a s' r' a D M' → K g5 M') :
  rA M g1 fun w => look t F [.agg w.toArray] M fun v m3 => wA v fun w' => newA m3 (.cells zAr 27 (0, 0)) fun g5 m4 => stoA m4 ⟨g5, 0, none⟩ w' fun m5 => K g5 m5 := by
 refine p1.rd (via hF ⟨s, r, a, rfl, A.le l2, hw, fun s' r' D m3 l3 w3 f3 => wA_of ?_⟩)
 refine newA_intro fun g5 m4 hg5 e4 hb5 hle4 => (zB.of hb5).sto fun m5 ne5 p5 => ?_
 have l5 : Mem.le m3 m5 := le_other hle4 hg5 ne5
 have L := Mem.le_trans l3 l5
 have hD : ∀ b ∈ D, m b = none := fun b hb => le_none l2 (f3 b hb)
 have no : ∀ {g : Nat}, M g ≠ none → g ∉ D ∧ g ≠ g5 := fun {g} h => ⟨fun hd => h (f3 g hd), fun e => h (le_none l3 (e ▸ hg5))⟩
 have n3 := no z.live
 have n1 := no p1.z.live
 exact hK g5 s' r' D m5 L ⟨L _ _ p1, A.le (Mem.le_trans l2 L), A, z.le L, z3, n3.1, ⟨p5, w3.le l5, w3.fresh hg5⟩, Off.of_le (Mem.le_trans l2 L), hD, n3.2, n1.1, n1.2, le_none (Mem.le_trans l2 l3) hg5⟩
theorem ok_in (t : Tab) {F : FuncId} (hF : look t F = s20) {M : Mem} {g1 : Nat} {s r : Sl} {a : Ar} (p1 : Ptr M g1 s r a) (A : ArAt M s r a) (hw : a.wf) {K L : Mem → Prop} (hn : ¬ okP a → K M) (hy : okP a → L M) :
  rA M g1 fun w => look t F [.agg w.toArray] M fun v m' => ∃ b : Bool, v = .bool b ∧ if (!b) = true then K m' else L m' := by
 refine p1.rd (via hF ⟨s, r, a, rfl, A, hw, _, rfl, ?_⟩)
 by_cases k : okP a
 ·rw [pB_yes k, if_neg (by decide)]; exact hy k
 ·rw [pB_no k, if_pos (by decide)]; exact hn k
theorem rt_in (t : Tab) (h136 : look t 136 = s136) {M : Mem} {g1 : Nat} {s r : Sl} {a : Ar} {i : Int} (p1 : Ptr M g1 s r a) (A : ArAt M s r a) (hw : a.wf) {K L : Mem → Prop} (hn : ¬ (0 ≤ i ∧ i < a.rs.length) → K M) (hy : 0 ≤ i ∧ i < a.rs.length → L M) :
  rA M g1 fun w => look t 136 [.agg w.toArray, .int .i64 i] M fun v m' => ∃ b : Bool, v = .bool b ∧ if (!b) = true then K m' else L m' := by
 refine p1.rd (via h136 ⟨s, r, a, i, rfl, A, hw, _, rfl, ?_⟩)
 by_cases k : 0 ≤ i ∧ i < a.rs.length
 ·rw [decide_eq_true k, if_neg (by decide)]; exact hy k
 ·rw [decide_eq_false k, if_pos (by decide)]; exact hn k
theorem cp_ret (t : Tab) (h108 : look t 108 = s108) {X : Value} {m M : Mem} {g1 g3 : Nat} {s r : Sl} {a : Ar} {Q : Value → Mem → Prop} (l2 : Mem.le m M) (p1 : Ptr M g1 s r a) (z : zB M g3) (z3 : m g3 = none) (A : ArAt m s r a) (hw : a.wf) (hQ : nxK X m a Q) :
  rA M g1 fun w => look t 108 [.agg w.toArray] M fun v m3 => wA v fun w' => stoA m3 ⟨g3, 0, none⟩ w' fun m' => rA m' g3 fun w2 => ret Q (.tuple #[.agg w2.toArray, X]) m' :=
 p1.rd (via h108 ⟨s, r, a, rfl, A.le l2, hw, fun s' r' D m3 l3 w3 f3 => wA_of (wo_ret w3 (z.le l3) z3 (fun hd => z.live (f3 g3 hd)) (Off.of_le (Mem.le_trans l2 l3)) (fun b hb => le_none l2 (f3 b hb)) hQ)⟩)
def s72 : Spec := fun args m Q => ∃ (s r : Sl) (a : Ar) (i : Int) (v : Vl), args = [vA s r a, .int .i64 i, vVl v] ∧ ArAt m s r a ∧ a.wf ∧ nxK (.bool (srA a i v).2) m (srA a i v).1 Q
theorem f72 (t : Tab) (h108 : look t 108 = s108) (h20 : look t 20 = s20) (h136 : look t 136 = s136) (h92 : look t 92 = s92) (h110 : look t 110 = s110) : Mt t s72 kp72 Tryz.f72 := by
 rintro args m Q ⟨s, r, a, i, v, rfl, hA, hw, hQ⟩
 show FA _ _ _ _ [aG s r a, .int .i64 i, .agg #[.int .i64 v.1, .int .i64 v.2]] m Q
 rw [e72]
 refine newA_intro fun g1 m1 hg1 e1 hb1 hle1 => newA_intro fun gv m2 hgv e2 hbv hle2 => newA_intro fun g3 m3 hg3 e3 hb3 hle3 => ?_
 have l2 := Mem.le_trans hle1 hle2
 have p1 : Ptr m3 g1 s r a := hle3 _ _ (hle2 _ _ hb1)
 refine cp_pre t h108 (Mem.le_trans l2 hle3) p1 (zB.of hb3) (le_none l2 hg3) hA hw fun g5 s' r' D M hl S => ?_
 have bv := hl _ _ (hle3 _ _ hbv)
 have bad : srA a i v = (a, false) → nxK (.bool false) m a Q := fun e => by rw [e] at hQ; exact hQ
 refine ok_in t h20 S.p1 S.A hw (fun k => S.ret (bad (if_neg fun h => k h.1))) fun k1 => ?_
 refine rt_in t h136 S.p1 S.A hw (fun k => S.ret (bad (if_neg fun h => k h.2.1))) fun k2 => ?_
 refine ⟨_, cO bv 0, _, cO bv 1, via h92 ⟨v, rfl, _, rfl, ?_⟩⟩
 cases c3 : valOkB v with
 | false => rw [if_pos (by decide)]; exact S.ret (bad (if_neg fun h => by rw [c3] at h; cases h.2.2.1))
 | true =>
  rw [if_neg (by decide)]
  refine ⟨_, cO bv 0, _, cO bv 1, via h110 ⟨v, rfl, _, rfl, ?_⟩⟩
  cases c4 : isRefB v with
  | true => rw [if_pos rfl]; exact S.ret (bad (if_neg fun h => by rw [c4] at h; cases h.2.2.2))
  | false =>
   rw [if_neg (by decide)]
   have e : srA a i v = ({ a with rs := a.rs.set i.toNat v }, true) := if_pos ⟨k1, k2, c3, c4⟩
   rw [e] at hQ
   refine ⟨_, _, _, cO S.im.p 9, _, cO bv 0, _, cO bv 1, S.im.put_r k2.1 (by omega) fun m6 o6 im6 => ?_⟩
   exact im_ret im6 (S.z.eq (o6 g3 S.d3)) S.z3 S.d3 (S.hO.trans (Off.of_eq o6)) S.hD hQ
def s243 : Spec := fun args m Q => ∃ (s r : Sl) (a : Ar) (i f : Int), args = [vA s r a, .int .i64 i, .int .i64 f] ∧ ArAt m s r a ∧ a.wf ∧ nxK (.bool (mrA a i f).2) m (mrA a i f).1 Q
theorem f243 (t : Tab) (h108 : look t 108 = s108) (h20 : look t 20 = s20) (h136 : look t 136 = s136) : Mt t s243 kp243 Tryz.f243 := by
 rintro args m Q ⟨s, r, a, i, f, rfl, hA, hw, hQ⟩
 show FA _ _ _ _ [aG s r a, .int .i64 i, .int .i64 f] m Q
 rw [e243]
 refine newA_intro fun g1 m1 hg1 e1 hb1 hle1 => newA_intro fun g3 m3 hg3 e3 hb3 hle3 => ?_
 have p1 : Ptr m3 g1 s r a := hle3 _ _ hb1
 refine cp_pre t h108 (Mem.le_trans hle1 hle3) p1 (zB.of hb3) (le_none hle1 hg3) hA hw fun g5 s' r' D M hl S => ?_
 have bad : mrA a i f = (a, false) → nxK (.bool false) m a Q := fun e => by rw [e] at hQ; exact hQ
 refine ok_in t h20 S.p1 S.A hw (fun k => S.ret (bad (if_neg fun h => k h.1))) fun k1 => ?_
 refine rt_in t h136 S.p1 S.A hw (fun k => S.ret (bad (if_neg fun h => k h.2.1))) fun k2 => ?_
 refine rt_in t h136 S.p1 S.A hw (fun k => S.ret (bad (if_neg fun h => k h.2.2))) fun k3 => ?_
 have e : mrA a i f = ({ a with rs := a.rs.set i.toNat (rtA a f) }, true) := if_pos ⟨k1, k2, k3⟩
 rw [e] at hQ
 have A5 := S.im.w.at
 refine ⟨Mem.le M, Mem.le_refl _, _, _, _, held (cO S.im.p 9), _, _, _, held (cO S.im.p 9), rgetH A5.r A5.k k3.1 (by have := A5.k; omega) fun ad had c1 c2 => ⟨_, fun q hq => c1 q (A5.r.le hq), _, fun q hq => c2 q (A5.r.le hq), S.im.put_r (v := rtA a f) k2.1 (by omega) fun m6 o6 im6 => ?_⟩⟩
 exact im_ret im6 (S.z.eq (o6 g3 S.d3)) S.z3 S.d3 (S.hO.trans (Off.of_eq o6)) S.hD hQ
def s252 : Spec := fun args m Q => ∃ (s r : Sl) (a : Ar) (D : List Nat) (i : Int), args = [vA s r a, .int .i64 i] ∧ Wo m s r a D ∧ OkC a ∧ (0 ≤ i ∧ i < a.rs.length) ∧
 ∀ m', (∀ b, b ∉ D → m' b = m b) → Wo m' s r (ntR a i).1 D → Q (.tuple #[vA s r (ntR a i).1, .int .i64 (ntR a i).2]) m'
theorem f252 (t : Tab) (h146 : look t 146 = s146) : Mt t s252 kp252 Tryz.f252 := by
 rintro args m Q ⟨s, r, a, D, i, rfl, hW, hG, hi, hQ⟩
 show FA _ _ _ _ [aG s r a, .int .i64 i] m Q
 rw [e252]
 have hsz : sizeB 2 3 = true := by decide
 obtain ⟨k1, k2, k3, k4⟩ := ask_ok hG hsz
 refine newA_intro fun g1 m1 hg1 e1 hb1 hle1 => newA_intro fun g3 m2 hg3 e2 hb3 hle2 => ?_
 have l2 := Mem.le_trans hle1 hle2
 have p1 : Ptr m2 g1 s r a := hle2 _ _ hb1
 have im := hW.loc hg1 p1 l2
 have z3 := le_none hle1 hg3
 have d3 := hW.fresh z3
 refine p1.rd (via h146 ⟨s, r, a, D, 2, 3, rfl, im.w, hG, hsz, fun m3 o3 w3 => ⟨_, _, _, _, _, _, _, _, _, _, _, _, _, _, _, _, rfl, ?_⟩⟩)
 unfold ntR at hQ
 generalize askA 2 3 a = q at *
 obtain ⟨b, p, c⟩ := q
 simp only at k1 k2 k4 hQ w3 ⊢
 refine newA_intro fun g5 m4 hg5 e4 hb5 hle4 => (zB.of hb5).sto fun m5 ne5 p5 => ?_
 have l5 : Mem.le m3 m5 := le_other hle4 hg5 ne5
 have im5 : Im m5 g5 s r b D := ⟨p5, w3.le l5, w3.fresh hg5⟩
 have O3 : Off D m m3 := (Off.of_le l2).trans (Off.of_eq o3)
 have h35 : zB m5 g3 := (((zB.of hb3).eq (o3 g3 d3)).le l5)
 have O5 : Off D m m5 := O3.trans (Off.of_le l5)
 have fin : ∀ {M : Mem} {q : Ar}, Im M g5 s r q D → zB M g3 → Off D m M → (∀ m', (∀ b, b ∉ D → m' b = m b) → Wo m' s r q D → Q (.tuple #[vA s r q, .int .i64 c]) m') →
   rA M g5 fun w => stoA M ⟨g3, 0, none⟩ w fun m' => rA m' g3 fun w' => ret Q (.tuple #[.agg w'.toArray, .int .i64 c]) m' := fun im z hO hQ =>
  im.p.rd (z.sto fun m' ne p => p.rd (ret_off (hO.fresh z3 ne) (hQ _ (fun b hb => mix_off hb) (Wo.mix (im.w.ext fun q hq => ne q fun e => d3 (e ▸ hq))))))
 by_cases hc : c = 0
 ·rw [if_pos (by rw [hc]; rfl)]
  rw [if_pos hc] at hQ
  refine ⟨_, _, _, cO im5.p 9, im5.put_r (v := (4, p)) hi.1 (by show i < (b.rs.length : Int); omega) fun m6 o6 im6 => ?_⟩
  exact fin im6 (h35.eq (o6 g3 d3)) (O5.trans (Off.of_eq o6)) hQ
 ·rw [if_neg (by simpa using hc)]
  rw [if_neg hc] at hQ
  exact fin im5 h35 O5 hQ
def s240 : Spec := fun args m Q => ∃ (s r : Sl) (a : Ar) (i : Int), args = [vA s r a, .int .i64 i] ∧ ArAt m s r a ∧ a.wf ∧ nxK (.int .i64 (ntA a i).2) m (ntA a i).1 Q
theorem f240 (t : Tab) (h108 : look t 108 = s108) (h20 : look t 20 = s20) (h136 : look t 136 = s136) (h252 : look t 252 = s252) : Mt t s240 kp240 Tryz.f240 := by
 rintro args m Q ⟨s, r, a, i, rfl, hA, hw, hQ⟩
 show FA _ _ _ _ [aG s r a, .int .i64 i] m Q
 rw [e240]
 refine newA_intro fun g1 m1 hg1 e1 hb1 hle1 => newA_intro fun g3 m2 hg3 e2 hb3 hle2 => ?_
 have l2 := Mem.le_trans hle1 hle2
 have p1 : Ptr m2 g1 s r a := hle2 _ _ hb1
 have z := zB.of hb3
 have z3 := le_none hle1 hg3
 have bad : ntA a i = (a, 1) → nxK (.int .i64 1) m a Q := fun e => by rw [e] at hQ; exact hQ
 refine ok_in t h20 p1 (hA.le l2) hw (fun k => cp_ret t h108 l2 p1 z z3 hA hw (bad (if_neg fun h => k h.1))) fun k1 => ?_
 refine rt_in t h136 p1 (hA.le l2) hw (fun k => cp_ret t h108 l2 p1 z z3 hA hw (bad (if_neg fun h => k h.2.1))) fun k2 => ?_
 refine ⟨_, cO p1 8, ?_⟩
 by_cases k3 : a.ser < 1000000000
 ·rw [if_neg (by simp; omega)]
  have e : ntA a i = ntR a i := if_pos ⟨k1, k2, k3⟩
  rw [e] at hQ
  refine p1.rd (via h108 ⟨s, r, a, rfl, hA.le l2, hw, fun s' r' D m3 l3 w3 f3 => wA_of ?_⟩)
  refine via h252 ⟨s', r', a, D, i, rfl, w3, okC_of hw k1, k2, fun m4 o4 w4 => wN_of ?_⟩
  have d3 : g3 ∉ D := fun hd => z.live (f3 g3 hd)
  exact wo_ret w4 ((z.le l3).eq (o4 g3 d3)) z3 d3 ((Off.of_le (Mem.le_trans l2 l3)).trans (Off.of_eq o4)) (fun b hb => le_none l2 (f3 b hb)) hQ
 ·rw [if_pos (by simp; omega)]
  exact cp_ret t h108 l2 p1 z z3 hA hw (bad (if_neg fun h => k3 h.2.2))
def s32 : Spec := fun args m Q => ∃ (s r : Sl) (a : Ar), args = [vA s r a] ∧ ArAt m s r a ∧ a.wf ∧ nxK (.bool (fpA a).2) m (fpA a).1 Q
theorem f32 (t : Tab) (h108 : look t 108 = s108) (h20 : look t 20 = s20) (h109 : look t 109 = s109) : Mt t s32 kp32 Tryz.f32 := by
 rintro args m Q ⟨s, r, a, rfl, hA, hw, hQ⟩
 show FA _ _ _ _ [aG s r a] m Q
 rw [e32]
 refine newA_intro fun g1 m1 hg1 e1 hb1 hle1 => newA_intro fun g3 m3 hg3 e3 hb3 hle3 => ?_
 have p1 : Ptr m3 g1 s r a := hle3 _ _ hb1
 refine cp_pre t h108 (Mem.le_trans hle1 hle3) p1 (zB.of hb3) (le_none hle1 hg3) hA hw fun g5 s' r' D M hl S => ?_
 have bad : fpA a = (a, false) → nxK (.bool false) m a Q := fun e => by rw [e] at hQ; exact hQ
 refine ok_in t h20 S.p1 S.A hw (fun k => S.ret (bad (if_neg fun h => k h.1))) fun k1 => ⟨_, cO S.p1 4, ?_⟩
 cases c : a.cyc with
 | true => rw [if_pos rfl]; exact S.ret (bad (if_neg fun h => by rw [c] at h; cases h.2))
 | false =>
  rw [if_neg (by decide)]
  have e : fpA a = (flipA a, true) := if_pos ⟨k1, c⟩
  rw [e] at hQ
  refine S.im.p.rd (via h109 ⟨s', r', a, D, rfl, S.im.w, ok_i0 hw k1 c, fun m6 o6 w6 => wA_of ?_⟩)
  exact wo_ret w6 (S.z.eq (o6 g3 S.d3)) S.z3 S.d3 (S.hO.trans (Off.of_eq o6)) S.hD hQ
open Classical in
noncomputable def cstA (a : Ar) (n : Int) : Int := if okP a then cntA n.toNat (overA a) else 0
def s37 : Spec := fun args m Q => ∃ (s r : Sl) (a : Ar) (n : Int), args = [vA s r a, .int .i64 n] ∧ ArAt m s r a ∧ a.wf ∧ (-9223372036854775808 ≤ n ∧ n ≤ 9223372036854775807) ∧ nxK (.int .i64 (cstA a n)) m (csA a n) Q
theorem f37 (t : Tab) (h108 : look t 108 = s108) (h20 : look t 20 = s20) (h118 : look t 118 = s118) (h117 : look t 117 = s117) : Mt t s37 kp37 Tryz.f37 := by
 rintro args m Q ⟨s, r, a, n, rfl, hA, hw, hn, hQ⟩
 show FA _ _ _ _ [aG s r a, .int .i64 n] m Q
 rw [e37]
 refine newA_intro fun g1 m1 hg1 e1 hb1 hle1 => newA_intro fun g3 m2 hg3 e2 hb3 hle2 => ?_
 have l2 := Mem.le_trans hle1 hle2
 have p1 : Ptr m2 g1 s r a := hle2 _ _ hb1
 have z := zB.of hb3
 have z3 := le_none hle1 hg3
 refine ok_in t h20 p1 (hA.le l2) hw (fun k => cp_ret t h108 l2 p1 z z3 hA hw ?_) fun k1 => ?_
 ·have e1 : csA a n = a := if_neg k
  have e2 : cstA a n = 0 := if_neg k
  rw [e1, e2] at hQ; exact hQ
 ·have e1 : csA a n = stepsA n.toNat (overA a) := if_pos k1
  have e2 : cstA a n = cntA n.toNat (overA a) := if_pos k1
  rw [e1, e2] at hQ
  have hG := okC_of hw k1
  refine p1.rd (via h108 ⟨s, r, a, rfl, hA.le l2, hw, fun s' r' D m3 l3 w3 f3 => wA_of ?_⟩)
  refine via h118 ⟨s', r', a, D, rfl, w3, fun m4 o4 w4 => wA_of ?_⟩
  refine via h117 ⟨s', r', overA a, D, n, rfl, w4, hG.over.1, hn.1, hn.2, fun m5 k o5 ⟨w5, ek⟩ => wN_of ?_⟩
  have d3 : g3 ∉ D := fun hd => z.live (f3 g3 hd)
  rw [ek]
  exact wo_ret w5 (((z.le l3).eq (o4 g3 d3)).eq (o5 g3 d3)) z3 d3 (((Off.of_le (Mem.le_trans l2 l3)).trans (Off.of_eq o4)).trans (Off.of_eq o5)) (fun b hb => le_none l2 (f3 b hb)) hQ
theorem wI_of {s r : Sl} {a : Ar} {z x : Int} {K : List Value → Int → Int → Prop} (h : K (lA s r a) z x) : wI (.tuple #[vA s r a, .int .i64 z, .int .i64 x]) K := ⟨_, _, _, _, _, _, _, _, _, _, _, _, _, _, _, _, rfl, h⟩
theorem wV_of {s r : Sl} {a : Ar} {v : Vl} {K : List Value → Int → Int → Prop} (h : K (lA s r a) v.1 v.2) : wV (.tuple #[vA s r a, vVl v]) K := ⟨_, _, _, _, _, _, _, _, _, _, _, _, _, _, _, _, rfl, h⟩
theorem im_retA {m M : Mem} {g3 g5 : Nat} {s' r' : Sl} {b : Ar} {D : List Nat} {Q : Value → Mem → Prop} (im : Im M g5 s' r' b D) (z : zB M g3) (z3 : m g3 = none) (d3 : g3 ∉ D) (hO : Off D m M) (hQ : ∀ m', (∀ b, b ∉ D → m' b = m b) → Wo m' s' r' b D → Q (vA s' r' b) m') :
  rA M g5 fun w => stoA M ⟨g3, 0, none⟩ w fun m' => rA m' g3 fun w' => ret Q (.agg w'.toArray) m' :=
 im.p.rd (z.sto fun m' ne p => p.rd (ret_off (hO.fresh z3 ne) (hQ _ (fun b hb => mix_off hb) (Wo.mix (im.w.ext fun q hq => ne q fun e => d3 (e ▸ hq))))))
def s253 : Spec := fun args m Q => ∃ (s r : Sl) (a : Ar) (D : List Nat) (ri ki ii : Int), args = [vA s r a, .int .i64 ri, .int .i64 ki, .int .i64 ii] ∧ Wo m s r a D ∧ SkOk a ri ri ri ∧ (0 ≤ ki ∧ ki < a.rs.length) ∧ (0 ≤ ii ∧ ii < a.rs.length) ∧ (rtA a ki).1 ≠ 9 ∧
 ∀ m', (∀ b, b ∉ D → m' b = m b) → Wo m' s r (gkB (ldA a ((rtA a ri).2 + 2)) ri ki ii) D → Q (vA s r (gkB (ldA a ((rtA a ri).2 + 2)) ri ki ii)) m'
theorem f253 (t : Tab) (h244 : look t 244 = s244) (h179 : look t 179 = s179) (h152 : look t 152 = s152) : Mt t s253 kp253 Tryz.f253 := by
 intro args m Q hh
 obtain ⟨s, r, a, D, ri, ki, ii, ha, hW, h, hki, hii, hk9, hQ⟩ := hh
 have ha : args = [aG s r a, .int .i64 ri, .int .i64 ki, .int .i64 ii] := ha
 rw [ha, e253]
 obtain ⟨hb, L, ert⟩ := h.load
 have erl : (ldA a ((rtA a ri).2 + 2)).rs.length = a.rs.length := by rw [L.f.rs]
 refine newA_intro fun g1 m1 hg1 e1 hb1 hle1 => newA_intro fun g3 m2 hg3 e2 hb3 hle2 => ?_
 have l2 := Mem.le_trans hle1 hle2
 have p1 : Ptr m2 g1 s r a := hle2 _ _ hb1
 have im := hW.loc hg1 p1 l2
 have n13 : g1 ≠ g3 := ne_of_none hg3 hb1
 have z3 := le_none hle1 hg3
 have d3 := hW.fresh z3
 refine p1.rd (via h244 ⟨s, r, a, D, ri, ri, ri, rfl, im.w, h, fun m3 o3 w3 => wI_of ?_⟩)
 have ek : rtA (ldA a ((rtA a ri).2 + 2)) ki = rtA a ki := ert ki
 rw [← ek] at hk9
 generalize ldA a ((rtA a ri).2 + 2) = b at *
 refine put_all ((o3 g1 im.g).trans im.p) w3 im.g fun m4 o4 im4 => ?_
 have O4 : Off D m m4 := ((Off.of_le l2).trans (Off.of_eq o3)).fresh hg1 o4
 have h34 : zB m4 g3 := ((zB.of hb3).eq (o3 g3 d3)).eq (o4 g3 (Ne.symm n13))
 have A4 := im4.w.at
 have k4 := A4.k
 have hwb := okC_wf hb.ok
 have hn := hwb.n
 have T := hb.tab
 have tn : (blkOf b.ws (rtA b ri).2).2 = 0 ∨ 1 ≤ (blkOf b.ws (rtA b ri).2).1 ∧ (blkOf b.ws (rtA b ri).2).1 < b.ws.length ∧ 0 ≤ (blkOf b.ws (rtA b ri).2).2 ∧ (blkOf b.ws (rtA b ri).2).2 ≤ 64 ∧ BlkOk b (blkOf b.ws (rtA b ri).2).1 (blkOf b.ws (rtA b ri).2).2 := by
  rcases T.b with ⟨e, _⟩ | ⟨_, _, b3, _, b5, _⟩
  ·rw [e]; exact .inl rfl
  ·have at' := hb.ok.at b3
   have n1 := b5.n1
   have n2 := b5.n2
   exact .inr ⟨at'.2.1, by omega, by omega, by omega, b5⟩
 have kk : (rtA b ki).1 = 0 ∨ KeyOk b (rtA b ki) := by
  by_cases c : (rtA b ki).1 = 0
  ·exact .inl c
  ·exact .inr (hb.ok.key hb.s (.inl ⟨ki.toNat, by omega, rfl⟩) c (hb.s.rr ki.toNat (by omega)) hk9)
 refine ⟨Mem.le m4, Mem.le_refl _, Ptr.hd (fun q hq => hq _ _ im4.p) ?_⟩
 refine ⟨_, _, _, held (cO im4.p 9), rgetH A4.r k4 hki.1 (by omega) fun ad had c1 c2 => ⟨_, fun q hq => c1 q (A4.r.le hq), _, fun q hq => c2 q (A4.r.le hq), ?_⟩⟩
 refine via h179 ⟨s, r, b, (blkOf b.ws (rtA b ri).2).1, (blkOf b.ws (rtA b ri).2).2, rtA b ki, rfl, A4, hwb, tn.imp id fun k => ⟨k.2.2.2.2, kk⟩, _, _, rfl, Mem.le_refl _, ?_⟩
 show if (!(findA b.ws (blkOf b.ws (rtA b ri).2).1 (blkOf b.ws (rtA b ri).2).2 (rtA b ki)).2) = true then _ else _
 have fe := SkOk.ref2 hb (r := ri)
 have eG : gkB b ri ki ii = if (blkOf b.ws (rtA b ri).2).2 ≠ 0 ∧ (findA b.ws (blkOf b.ws (rtA b ri).2).1 (blkOf b.ws (rtA b ri).2).2 (rtA b ki)).2 = true then _ else _ := rfl
 cases ce : (findA b.ws (blkOf b.ws (rtA b ri).2).1 (blkOf b.ws (rtA b ri).2).2 (rtA b ki)).2 with
 | false =>
  rw [if_pos (by decide)]
  rw [if_neg (by rw [ce]; simp)] at eG
  rw [eG] at hQ
  refine ⟨_, _, _, cO im4.p 9, im4.put_r (v := (0, 0)) hii.1 (by omega) fun m5 o5 im5 => ?_⟩
  exact im_retA im5 (h34.eq (o5 g3 d3)) z3 d3 (O4.trans (Off.of_eq o5)) hQ
 | true =>
  rw [if_neg (by decide)]
  have hn0 : (blkOf b.ws (rtA b ri).2).2 ≠ 0 := fun e => by
   unfold findA at ce
   split at ce
   ·cases ce
   ·rw [e] at ce
    cases ce
  obtain ⟨tn0, tn1, tn2, tn3, tB⟩ := tn.resolve_left hn0
  rw [if_pos ⟨hn0, ce⟩] at eG
  have hz : 0 ≤ (findA b.ws (blkOf b.ws (rtA b ri).2).1 (blkOf b.ws (rtA b ri).2).2 (rtA b ki)).1 ∧ (findA b.ws (blkOf b.ws (rtA b ri).2).1 (blkOf b.ws (rtA b ri).2).2 (rtA b ki)).1 < (blkOf b.ws (rtA b ri).2).2 := by
   have e2 := ce
   have n1 := tB.n1
   unfold findA at e2 ⊢
   split at e2
   ·cases e2
   ·rename_i c0
    rw [if_neg c0]
    exact findG_yes (by omega) _ _ (Int.emod_nonneg _ (by omega)) (Int.emod_lt_of_pos _ (by omega)) e2
  obtain ⟨q1, q2, q3, q4⟩ := hb.ref2 hn0 hz.1 hz.2
  generalize (findA b.ws (blkOf b.ws (rtA b ri).2).1 (blkOf b.ws (rtA b ri).2).2 (rtA b ki)).1 = e at *
  generalize (blkOf b.ws (rtA b ri).2).1 = bk at *
  rw [eG] at hQ
  refine im4.p.rd ?_
  rw [w64 (x := bk + 3) (by omega) (by omega), w64 (x := 4 * e) (by omega) (by omega), w64 (x := bk + 3 + 4 * e) (by omega) (by omega)]
  refine via h152 ⟨s, r, b, D, bk + 3 + 4 * e, rfl, im4.w, hwb, q3, q4, q1, q2, fun m5 o5 w5 => wV_of ?_⟩
  have erc : (ldA b (bk + 3 + 4 * e)).rs = b.rs := by
   unfold ldA
   split
   ·rename_i cy
    obtain ⟨T1, T2, C, v1, v2⟩ := q2 cy
    obtain ⟨Ta, F⟩ := fwd_ok C v1 v2
    exact F.f.rs
   ·rfl
  have O5 : Off D m m5 := O4.trans (Off.of_eq o5)
  refine newA_intro fun g6 m6 hg6 e6 hb6 hle6 => newA_intro fun g7 m7 hg7 e7 hb7 hle7 => (zB.of (hle7 _ _ hb6)).sto fun m8 ne8 p8 => ?_
  have n67 : g7 ≠ g6 := Ne.symm (ne_of_none hg7 hb6)
  have b78 := (ne8 g7 n67).trans hb7
  have l8 : Mem.le m5 m8 := le_other (Mem.le_trans hle6 hle7) hg6 ne8
  refine sto (c := #[.int .i64 0, .int .i64 0]) (t := 75) b78 rfl (by simp) fun m9 e9 q9 ne9 => ?_
  have q9 : m9 g7 = some (.cells #[.int .i64 (ldV b (bk + 3 + 4 * e)).1, .int .i64 (ldV b (bk + 3 + 4 * e)).2] 75 (0, 0)) := q9
  have l9 : Mem.le m5 m9 := le_other l8 (le_none hle6 hg7) ne9
  have im9 : Im m9 g6 s r (ldA b (bk + 3 + 4 * e)) D := ⟨(ne9 g6 (Ne.symm n67)).trans p8, w5.le l9, w5.fresh hg6⟩
  have z6 : m g6 = none := O5.none hg6 (w5.fresh hg6)
  refine ⟨_, _, _, cO im9.p 9, _, cO q9 0, _, cO q9 1, im9.put_r (v := ldV b (bk + 3 + 4 * e)) hii.1 (by rw [erc]; omega) fun m10 o10 im10 => ?_⟩
  exact im_retA im10 (((h34.eq (o5 g3 d3)).le l9).eq (o10 g3 d3)) z3 d3 ((O5.trans (Off.of_le l9)).trans (Off.of_eq o10)) hQ
def s241 : Spec := fun args m Q => ∃ (s r : Sl) (a : Ar) (ri ki ii : Int), args = [vA s r a, .int .i64 ri, .int .i64 ki, .int .i64 ii] ∧ ArAt m s r a ∧ a.wf ∧ nxK (.bool (gkA a ri ki ii).2) m (gkA a ri ki ii).1 Q
theorem f241 (t : Tab) (h108 : look t 108 = s108) (h20 : look t 20 = s20) (h136 : look t 136 = s136) (h155 : look t 155 = s155) (h253 : look t 253 = s253) : Mt t s241 kp241 Tryz.f241 := by
 rintro args m Q ⟨s, r, a, ri, ki, ii, rfl, hA, hw, hQ⟩
 show FA _ _ _ _ [aG s r a, .int .i64 ri, .int .i64 ki, .int .i64 ii] m Q
 rw [e241]
 refine newA_intro fun g1 m1 hg1 e1 hb1 hle1 => newA_intro fun g3 m3 hg3 e3 hb3 hle3 => ?_
 have p1 : Ptr m3 g1 s r a := hle3 _ _ hb1
 refine cp_pre t h108 (Mem.le_trans hle1 hle3) p1 (zB.of hb3) (le_none hle1 hg3) hA hw fun g5 s' r' D M hl S => ?_
 have bad : gkA a ri ki ii = (a, false) → nxK (.bool false) m a Q := fun e => by rw [e] at hQ; exact hQ
 refine ok_in t h20 S.p1 S.A hw (fun k => S.ret (bad (if_neg fun h => k h.1))) fun k1 => ?_
 refine S.p1.rd (via h155 ⟨s, r, a, ri, rfl, S.A, hw, _, rfl, ?_⟩)
 by_cases k2 : (0 ≤ ri ∧ ri < a.rs.length) ∧ (rtA a ri).1 = 4
 case neg => rw [pB_no k2, if_pos (by decide)]; exact S.ret (bad (if_neg fun h => k2 h.2.1))
 rw [pB_yes k2, if_neg (by decide)]
 refine rt_in t h136 S.p1 S.A hw (fun k => S.ret (bad (if_neg fun h => k h.2.2.1))) fun k3 => ?_
 refine rt_in t h136 S.p1 S.A hw (fun k => S.ret (bad (if_neg fun h => k h.2.2.2.1))) fun k4 => ?_
 refine ⟨_, _, _, cO S.p1 9, rget S.A.r S.A.k k3.1 (by have := S.A.k; omega) fun ad had c1 c2 => ⟨_, c1, ?_⟩⟩
 by_cases k5 : (rtA a ki).1 = 9
 ·rw [if_pos (by show ((rtA a ki).1 == 9) = true; simp [k5])]
  exact S.ret (bad (if_neg fun h => h.2.2.2.2 k5))
 rw [if_neg (by show ¬ ((rtA a ki).1 == 9) = true; simp [k5])]
 have kP : gkP a ri ki ii := ⟨k1, k2, k3, k4, k5⟩
 have e : gkA a ri ki ii = (gkB (ldA a ((rtA a ri).2 + 2)) ri ki ii, true) := if_pos kP
 rw [e] at hQ
 refine S.im.p.rd (via h253 ⟨s', r', a, D, ri, ki, ii, rfl, S.im.w, skOk_of hw kP.sk, k3, k4, k5, fun m6 o6 w6 => wA_of ?_⟩)
 exact wo_ret w6 (S.z.eq (o6 g3 S.d3)) S.z3 S.d3 (S.hO.trans (Off.of_eq o6)) S.hD hQ
def s140 : Spec := fun args m Q => ∃ (X : List Nat) (g : Nat) (s0 s r : Sl) (a : Ar) (tg : Int), args = [.pointer (some ⟨g, 0, none⟩), vA s r a, .int .i64 tg] ∧ Cu s0 X m g ∧ ArAt (hid X m) s r a ∧ a.wf ∧ ∀ (x : Int) (M : Mem), 0 ≤ x → x ≤ 2 ^ 20 → Kc m g M → Q (.int .i64 x) M
theorem f140 (t : Tab) (h144 : look t 144 = s144) : Mt t s140 kp140 Tryz.f140 := by
 rintro args m Q ⟨X, g, s0, s, r, a, tg, rfl, hC, hA, hw, hQ⟩
 show FA _ _ _ _ [.pointer (some ⟨g, 0, none⟩), aG s r a, .int .i64 tg] m Q
 rw [e140]
 have hk := hA.k
 have hr := hw.r
 refine newA_intro fun g1 m2 hg1 e1 hb1 hle1 => ⟨_, _, _, cO hb1 9, via h144 ⟨X, g, s0, _, rfl, hC.le hle1, by omega, fun y M y0 y1 k => ⟨_, rfl, ?_⟩⟩⟩
 have k0 := (Kc.of_le g hle1).trans k
 have n1 : g1 ≠ g := hC.ne hg1
 have p1 : Ptr M g1 s r a := k.at hb1 n1
 have A : ArAt M s r a := (hA.le (hid_mono (k0.off hC))).le (hid_le X M)
 have yb : y ≤ 2 ^ 20 := by omega
 suffices key : ∀ (d i : Nat), i + d = r.n → L140_3 (look t) (d + 1) Q tg g1 y (i : Int) M from ⟨r.n + 1, key r.n 0 (by omega)⟩
 intro d
 induction d with
 | zero =>
  intro i hi
  rw [l140_3]
  refine ⟨M, Mem.le_refl _, _, _, _, cO p1 9, ?_⟩
  rw [if_neg (by simp; omega)]
  exact ret_intro (Mem.le_refl _) (hQ y M y0 yb k0)
 | succ d ih =>
  intro i hi
  rw [l140_3]
  refine ⟨M, Mem.le_refl _, _, _, _, cO p1 9, ?_⟩
  rw [if_pos (by simp; omega)]
  refine ⟨_, _, _, cO p1 9, by omega, _, _, _, cO p1 9, ?_⟩
  rw [w64 (x := y + (i : Int)) (by omega) (by omega)]
  have tm := tmod_in (x := y + (i : Int)) (n := (r.n : Int)) (by omega) (by omega)
  refine rget A.r A.k tm.1 tm.2 fun ad had c1 c2 => ⟨_, c1, ?_⟩
  by_cases c : ((a.rs.getD (Int.tmod (y + (i : Int)) (r.n : Int)).toNat (0, 0)).1 == tg) = true
  ·rw [if_pos c]
   exact ret_intro (Mem.le_refl _) (hQ _ M tm.1 (by omega) k0)
  ·rw [if_neg c, wsucc (n := 2 ^ 20) (by omega) (by decide)]
   exact ih (i + 1) (by omega)
def dwK (g : Nat) (m : Mem) (P : Ar → Prop) (Q : Value → Mem → Prop) : Prop := ∀ (s' r' : Sl) (b : Ar) (D : List Nat) (M : Mem), Kc m g M → Wo M s' r' b D → (∀ x ∈ D, m x = none) → P b → Q (vA s' r' b) M
structure Ac (m : Mem) (g g1 g3 : Nat) (s0 : Sl) (X : List Nat) (s r : Sl) (a : Ar) (M : Mem) : Prop where
 k : Kc m g M
 C : Cu s0 X m g
 p1 : Ptr M g1 s r a
 z3 : zB M g3
 e1 : m g1 = none
 e3 : m g3 = none
 n13 : g3 ≠ g1
 A : ArAt (hid X m) s r a
section
variable {m M N : Mem} {g g1 g3 : Nat} {s0 s r : Sl} {X : List Nat} {a : Ar}
theorem Ac.n1 (S : Ac m g g1 g3 s0 X s r a M) : g1 ≠ g := S.C.ne S.e1
theorem Ac.n3 (S : Ac m g g1 g3 s0 X s r a M) : g3 ≠ g := S.C.ne S.e3
theorem Ac.cu (S : Ac m g g1 g3 s0 X s r a M) : Cu s0 X M g := S.k.cu S.C
theorem Ac.kc (S : Ac m g g1 g3 s0 X s r a M) (h : Kc M g N) : Ac m g g1 g3 s0 X s r a N :=
 ⟨S.k.trans h, S.C, h.at S.p1 S.n1, by obtain ⟨c, e, hc⟩ := S.z3; exact ⟨c, h.at e S.n3, hc⟩, S.e1, S.e3, S.n13, S.A⟩
theorem Ac.le (S : Ac m g g1 g3 s0 X s r a M) (h : Mem.le M N) : Ac m g g1 g3 s0 X s r a N := S.kc (Kc.of_le g h)
theorem Ac.hidA (S : Ac m g g1 g3 s0 X s r a M) : ArAt (hid X M) s r a := S.A.le (hid_mono (S.k.off S.C))
theorem Ac.at (S : Ac m g g1 g3 s0 X s r a M) : ArAt M s r a := S.hidA.le (hid_le X M)
theorem Ac.fin (S : Ac m g g1 g3 s0 X s r a M) {P : Ar → Prop} {Q : Value → Mem → Prop} {s' r' : Sl} {b : Ar} {D : List Nat} (l : Mem.le M N) (w : Wo N s' r' b D) (f : ∀ x ∈ D, M x = none) (hP : P b) (hQ : dwK g m P Q) :
  stoA N ⟨g1, 0, none⟩ (lA s' r' b) fun m2 => rA m2 g1 fun w3 => stoA m2 ⟨g3, 0, none⟩ w3 fun m3 => rA m3 g3 fun w4 => ret Q (.agg w4.toArray) m3 := by
 have S' := S.le l
 have d1 : g1 ∉ D := fun h => by have := f g1 h; have e := S.p1; unfold Ptr at e; rw [this] at e; cases e
 have d3 : g3 ∉ D := fun h => S.z3.live (f g3 h)
 refine S'.p1.z.sto fun m2 ne2 p2 => p2.rd ((S'.z3.eq (ne2 g3 S.n13)).sto fun m3 ne3 p3 => p3.rd (ret_intro (Mem.le_refl _) ?_))
 refine hQ s' r' b D m3 ((S'.k.put S.e1 S.n1 ne2).put S.e3 S.n3 ne3) ((w.ext fun q hq => ne2 q fun e => d1 (e ▸ hq)).ext fun q hq => ne3 q fun e => d3 (e ▸ hq)) (fun x hx => S.k.fresh S.C (f x hx)) hP
theorem Ac.finN (S : Ac m g g1 g3 s0 X s r a M) {P : Ar → Prop} {Q : Value → Mem → Prop} {q : Ar × Int} (hP : P q.1) (hQ : dwK g m P Q) :
  ncK M q fun v m' => wN v fun w' y => stoA m' ⟨g1, 0, none⟩ w' fun m2 => rA m2 g1 fun w3 => stoA m2 ⟨g3, 0, none⟩ w3 fun m3 => rA m3 g3 fun w4 => ret Q (.agg w4.toArray) m3 :=
 fun s' r' D N l w f => wN_of (S.fin l w f hP hQ)
theorem Ac.finS (S : Ac m g g1 g3 s0 X s r a M) {P : Ar → Prop} {Q : Value → Mem → Prop} {q : Ar × Int} (hP : P q.1) (hQ : dwK g m P Q) :
  ncK M q fun v m' => wN v fun w' y => Ptr m' g1 s r a ∧ stoA m' ⟨g1, 0, none⟩ w' fun m2 => rA m2 g1 fun w3 => stoA m2 ⟨g3, 0, none⟩ w3 fun m3 => rA m3 g3 fun w4 => ret Q (.agg w4.toArray) m3 :=
 fun s' r' D N l w f => wN_of ⟨l _ _ S.p1, S.fin l w f hP hQ⟩
theorem Ac.finB (S : Ac m g g1 g3 s0 X s r a M) {P : Ar → Prop} {Q : Value → Mem → Prop} {q : Ar} {x : Bool} (hP : P q) (hQ : dwK g m P Q) :
  nxK (.bool x) M q fun v m' => wB v fun w' y => stoA m' ⟨g1, 0, none⟩ w' fun m2 => rA m2 g1 fun w3 => stoA m2 ⟨g3, 0, none⟩ w3 fun m3 => rA m3 g3 fun w4 => ret Q (.agg w4.toArray) m3 :=
 fun s' r' D N l w f => wB_of (S.fin l w f hP hQ)
theorem Ac.finT (S : Ac m g g1 g3 s0 X s r a M) {P : Ar → Prop} {Q : Value → Mem → Prop} {q : Ar} {x : Bool} (hP : P q) (hQ : dwK g m P Q) :
  nxK (.bool x) M q fun v m' => wB v fun w' y => Ptr m' g1 s r a ∧ stoA m' ⟨g1, 0, none⟩ w' fun m2 => rA m2 g1 fun w3 => stoA m2 ⟨g3, 0, none⟩ w3 fun m3 => rA m3 g3 fun w4 => ret Q (.agg w4.toArray) m3 :=
 fun s' r' D N l w f => wB_of ⟨l _ _ S.p1, S.fin l w f hP hQ⟩
end
def acT (call : FuncId → Spec) (Q : Value → Mem → Prop) (a0g : Nat) (m1115 : Mem) (S1086 : Mem → Prop) (w35 : List Value) (y1113 : Int) (g1114 : Nat) (y17 : Int) (g1 : Nat) (g3 : Nat) : Prop :=
 shD_1 call Q a0g m1115 S1086 w35 y1113 g1114 y17 g1 g3
def acP (call : FuncId → Spec) (Q : Value → Mem → Prop) (a0g : Nat) (m19 : Mem) (y17 : Int) (g1 : Nat) (g3 : Nat) : Prop :=
 shD_0 call Q m19 g1 a0g y17 g3
theorem rd_hid {α : Type} [Enc α] {X : List Nat} {M : Mem} {g : Nat} {c : Array Value} {t : TypeId} {l : List α} (h : M g = some (.cells c t (0, 0))) (hg : g ∉ X) (hc : c.toList = flat Enc.e l ++ []) : Rd (hid X M) (some ⟨g, 0, none⟩) l := Rd.of_block (by rw [hid_off hg]; exact h) hc
section
variable {m N : Mem} {g g1 g3 : Nat} {s0 s r : Sl} {a : Ar}
theorem Ac.row {α : Type} [Enc α] {M : Mem} (S : Ac m g g1 g3 s0 [g] s r a M) {gb : Nat} {c : Array Value} {t : TypeId} {l : List α} (hg : M gb = none) (h : N gb = some (.cells c t (0, 0))) (hc : c.toList = flat Enc.e l ++ []) : Rd (hid [g] N) (some ⟨gb, 0, none⟩) l :=
 rd_hid h (fun k => S.cu.ne hg (List.mem_singleton.1 k)) hc
theorem acP_ok (t : Tab) (h132 : look t 132 = s132) (h53 : look t 53 = s53) (S : Ac m g g1 g3 s0 [g] s r a N) (hK : Kp a) {Q : Value → Mem → Prop} (hQ : dwK g m (fun b => Kp b ∧ Ln a b) Q) {y : Int} : acP (look t) Q g N y g1 g3 := by
 unfold acP
 refine ⟨fun q => Ptr q g1 s r a, S.p1, Ptr.hd (fun _ h => h) (newA_intro fun gb m6 hgb e6 hb6 hle6 => ⟨(S.le hle6).p1, ?_⟩)⟩
 refine via h132 ⟨[g], g, s0, ⟨some ⟨gb, 0, none⟩, 5, 5⟩, [⟨#[]⟩, ⟨#[97]⟩, ⟨#[107, 101, 121]⟩, ⟨#[97, 32, 108, 111, 110, 103, 101, 114, 32, 116, 101, 120, 116]⟩, ⟨#[48, 49, 50, 51, 52, 53, 54, 55, 56, 57, 48, 49, 50, 51, 52, 53, 54, 55, 56, 57, 48, 49, 50, 51, 52, 53, 54, 55, 56, 57, 48, 49, 50, 51, 52, 53, 54, 55, 56, 57]⟩], rfl, (S.le hle6).cu, S.row hgb hb6 rfl, rfl, by decide, by decide, fun x M' _ k => ⟨_, rfl, ?_⟩⟩
 have S' := (S.le hle6).kc k
 exact ⟨S'.p1, via h53 ⟨s, r, a, x, y, rfl, S'.at, hK.wf, S'.finS (hK.pt x y) hQ⟩⟩
theorem nf_fin (t : Tab) (h62 : look t 62 = s62) (S : Ac m g g1 g3 s0 [g] s r a N) (hK : Kp a) {gk : Nat} {k pr i y : Int} (hk : N gk = some (.cells #[.int .i64 k, .int .i64 k] 3 (0, 0))) (y0 : 0 ≤ y) (y1 : y < 2) {Q : Value → Mem → Prop} (hQ : dwK g m (fun b => Kp b ∧ Ln a b) Q) :
  0 ≤ IntKind.i64.wrap (1 + y) ∧ IntKind.i64.wrap (1 + y) ≤ ((2 : Nat) : Int) ∧ look t 62 [.agg (lA s r a).toArray, .int .i64 pr, .slice (if 2 = 0 then some ⟨gk, 0, none⟩ else Option.map (fun z : Addr => z.add (0 * 1)) (some ⟨gk, 0, none⟩)) ((IntKind.i64.wrap (1 + y)).toNat - 0) (2 - 0), .int .i64 i] N fun v m' => wN v fun w' _ => Ptr m' g1 s r a ∧ stoA m' ⟨g1, 0, none⟩ w' fun m2 => rA m2 g1 fun w3 => stoA m2 ⟨g3, 0, none⟩ w3 fun m3 => rA m3 g3 fun w4 => ret Q (.agg w4.toArray) m3 := by
 rw [w64 (x := 1 + y) (by omega) (by omega)]
 refine ⟨by omega, by omega, ?_⟩
 have hR : Rd N (some ⟨gk, 0, none⟩) ([k, k].take (1 + y).toNat) := (Rd.of_block (spare := []) hk rfl : Rd N _ [k, k]).take _
 have hl : ([k, k].take (1 + y).toNat).length = (1 + y).toNat := by rw [List.length_take]; show min _ 2 = _; omega
 exact via h62 ⟨s, r, ⟨some ⟨gk, 0, none⟩, (1 + y).toNat, 2⟩, a, pr, [k, k].take (1 + y).toNat, i, rfl, S.at, hK.wf, hl.symm, hR, by omega, S.finS (hK.nf pr _ i) hQ⟩
theorem acT_ok (t : Tab) (h144 : look t 144 = s144) (h62 : look t 62 = s62) (S : Ac m g g1 g3 s0 [g] s r a N) (hK : Kp a) {gk : Nat} {k pr i : Int} (hk : N gk = some (.cells #[.int .i64 k, .int .i64 k] 3 (0, 0))) (hg : gk ≠ g) {Q : Value → Mem → Prop} (hQ : dwK g m (fun b => Kp b ∧ Ln a b) Q) :
  acT (look t) Q g N (fun q => Ptr q g1 s r a) (lA s r a) pr gk i g1 g3 := by
 unfold acT
 refine via h144 ⟨[g], g, s0, _, rfl, S.cu, by omega, fun y M u v k => ⟨_, rfl, (S.kc k).p1, ?_⟩⟩
 exact nf_fin t h62 (S.kc k) hK (k.at hk hg) u (by omega) hQ
end
def s220 : Spec := fun args m Q => ∃ (g : Nat) (s0 s r : Sl) (a : Ar), args = [.pointer (some ⟨g, 0, none⟩), vA s r a] ∧ Cu s0 [g] m g ∧ ArAt (hid [g] m) s r a ∧ Kp a ∧ dwK g m (fun b => Kp b ∧ Ln a b) Q
theorem f220 (t : Tab) (h144 : look t 144 = s144) (h132 : look t 132 = s132) (h140 : look t 140 = s140) (h72 : look t 72 = s72) (h53 : look t 53 = s53) (h240 : look t 240 = s240) (h208 : look t 208 = s208) (h241 : look t 241 = s241) (h242 : look t 242 = s242) (h62 : look t 62 = s62) (h58 : look t 58 = s58) (h243 : look t 243 = s243) : Mt t s220 kp220 Tryz.f220 := by
 rintro args m Q ⟨g, s0, s, r, a, rfl, hC, hAt, hK, hQ⟩
 show FA _ _ _ _ [.pointer (some ⟨g, 0, none⟩), aG s r a] m Q
 rw [e220]
 have hk := hAt.k
 have hw := hK.wf
 have hr := hw.r
 refine newA_intro fun g1 m1 hg1 e1 hb1 hle1 => newA_intro fun g3 m2 hg3 e2 hb3 hle2 => ?_
 have l2 := Mem.le_trans hle1 hle2
 have S2 : Ac m g g1 g3 s0 [g] s r a m2 := ⟨Kc.of_le g l2, hC, hle2 _ _ hb1, zB.of hb3, hg1, le_none hle1 hg3, Ne.symm (ne_of_none hg3 hb1), hAt⟩
 refine ⟨_, _, _, cO S2.p1 9, via h144 ⟨[g], g, s0, _, rfl, S2.cu, by omega, fun y1 M3 u1 v1 k3 => ⟨_, rfl, ?_⟩⟩⟩
 have S3 := S2.kc k3
 refine via h144 ⟨[g], g, s0, _, rfl, S3.cu, by omega, fun y2 M4 u2 v2 k4 => ⟨_, rfl, ?_⟩⟩
 have S4 := S3.kc k4
 refine via h144 ⟨[g], g, s0, _, rfl, S4.cu, by omega, fun y3 M5 u3 v3 k5 => ⟨_, rfl, ?_⟩⟩
 have S5 := S4.kc k5
 refine via h144 ⟨[g], g, s0, _, rfl, S5.cu, by omega, fun y M u v k6 => ⟨_, rfl, ?_⟩⟩
 have S := S5.kc k6
 clear S2 S3 S4 S5 k3 k4 k5 k6
 have pick : ∀ {N : Mem} (SN : Ac m g g1 g3 s0 [g] s r a N) (tg : Int) {K : Int → Mem → Prop}, (∀ (x : Int) (M' : Mem), 0 ≤ x → x ≤ 2 ^ 20 → Ac m g g1 g3 s0 [g] s r a M' → K x M') → look t 140 [.pointer (some ⟨g, 0, none⟩), .agg (lA s r a).toArray, .int .i64 tg] N fun v m' => ∃ x : Int, v = .int .i64 x ∧ K x m' :=
  fun {N} SN tg {K} hK => via h140 ⟨[g], g, s0, s, r, a, tg, rfl, SN.cu, SN.hidA, hw, fun x M' x0 x1 k => ⟨_, rfl, hK x M' x0 x1 (SN.kc k)⟩⟩
 have hdl : ∀ q : Mem, Ptr q g1 s r a → Ptr q g1 s r a := fun _ h => h
 by_cases c : y = 0
 ·rw [if_pos (by simpa using c)]
  refine ⟨fun q => Ptr q g1 s r a, S.p1, Ptr.hd hdl (via h144 ⟨[g], g, s0, _, rfl, S.cu, by omega, fun y5 M5 u5 v5 k5 => ⟨_, rfl, (S.kc k5).p1, ?_⟩⟩)⟩
  exact via h72 ⟨s, r, a, y3, (2, y5), rfl, (S.kc k5).at, hw, (S.kc k5).finT (hK.sr y3 (2, y5)) hQ⟩
 rw [if_neg (by simpa using c)]
 by_cases c : y = 1
 ·rw [if_pos (by simpa using c)]
  exact (acP_ok t h132 h53 S hK hQ : acP (look t) Q g M y3 g1 g3)
 rw [if_neg (by simpa using c)]
 by_cases c : y = 2
 ·rw [if_pos (by simpa using c)]
  exact (acP_ok t h132 h53 S hK hQ : acP (look t) Q g M y3 g1 g3)
 rw [if_neg (by simpa using c)]
 by_cases c : y = 3
 ·rw [if_pos (by simpa using c)]
  exact S.p1.rd (via h240 ⟨s, r, a, y3, rfl, S.at, hw, fun s' r' D N l w f => wN_of (S.fin l w f (hK.nt y3) hQ)⟩)
 rw [if_neg (by simpa using c)]
 by_cases c : y = 4
 ·rw [if_pos (by simpa using c)]
  exact S.p1.rd (via h240 ⟨s, r, a, y3, rfl, S.at, hw, fun s' r' D N l w f => wN_of (S.fin l w f (hK.nt y3) hQ)⟩)
 rw [if_neg (by simpa using c)]
 have sk : ∃ S492 : Mem → Prop, S492 M ∧ hA S492 g1 fun w15 => hA S492 g1 fun w16 => look t 140 [.pointer (some ⟨g, 0, none⟩), .agg w16.toArray, .int .i64 4] M fun v541 m542 => ∃ y543 : Int, v541 = .int .i64 y543 ∧ S492 m542 ∧ look t 208 [.agg w15.toArray, .int .i64 y543, .int .i64 y2, .int .i64 y3] m542 fun v544 m545 => wN v544 fun w55 y560 => S492 m545 ∧ stoA m545 ⟨g1, 0, none⟩ w55 fun m561 => rA m561 g1 fun w17 => stoA m561 ⟨g3, 0, none⟩ w17 fun m586 => rA m586 g3 fun w18 => ret Q (.agg w18.toArray) m586 :=
  ⟨fun q => Ptr q g1 s r a, S.p1, Ptr.hd hdl (Ptr.hd hdl (pick S 4 fun x M' x0 x1 S' => ⟨S'.p1, via h208 ⟨s, r, a, x, y2, y3, rfl, S'.at, hw, S'.finS (hK.sk x y2 y3) hQ⟩⟩))⟩
 by_cases c : y = 5
 ·rw [if_pos (by simpa using c)]; exact sk
 rw [if_neg (by simpa using c)]
 by_cases c : y = 6
 ·rw [if_pos (by simpa using c)]; exact sk
 rw [if_neg (by simpa using c)]
 by_cases c : y = 7
 ·rw [if_pos (by simpa using c)]; exact sk
 rw [if_neg (by simpa using c)]
 by_cases c : y = 8
 ·rw [if_pos (by simpa using c)]
  exact ⟨fun q => Ptr q g1 s r a, S.p1, Ptr.hd hdl (Ptr.hd hdl (pick S 4 fun x M' x0 x1 S' => ⟨S'.p1, via h241 ⟨s, r, a, x, y2, y3, rfl, S'.at, hw, S'.finT (hK.gk x y2 y3) hQ⟩⟩))⟩
 rw [if_neg (by simpa using c)]
 by_cases c : y = 9
 ·rw [if_pos (by simpa using c)]
  exact S.p1.rd (via h242 ⟨s, r, a, y1, y3, rfl, S.at, hw, S.finN (hK.nc y1 y3) hQ⟩)
 rw [if_neg (by simpa using c)]
 by_cases c : y = 10
 ·rw [if_pos (by simpa using c)]
  refine S.p1.rd (pick S 9 fun k M' k0 k1 S' => ⟨fun q => Ptr q g1 s r a, S'.p1, Ptr.hd hdl ⟨?_, ?_⟩⟩)
  ·refine via h144 ⟨[g], g, s0, _, rfl, S'.cu, by omega, fun pr M2 u2 v2 k2 => ⟨_, rfl, (S'.kc k2).p1, ?_, ?_⟩⟩
   ·refine newA_intro fun gk m6 hgk e6 hb6 hle6 => ⟨((S'.kc k2).le hle6).p1, ?_⟩
    exact (acT_ok t h144 h62 ((S'.kc k2).le hle6) hK hb6 ((S'.kc k2).cu.ne hgk) hQ : acT (look t) Q g m6 (fun q => Ptr q g1 s r a) (lA s r a) pr gk y3 g1 g3)
   ·refine via h144 ⟨[g], g, s0, _, rfl, (S'.kc k2).cu, by omega, fun z M3 u3 v3 k3 => ⟨_, rfl, ((S'.kc k2).kc k3).p1, ?_⟩⟩
    exact newA_intro fun gk m6 hgk e6 hb6 hle6 => ⟨(((S'.kc k2).kc k3).le hle6).p1, nf_fin t h62 (((S'.kc k2).kc k3).le hle6) hK hb6 u3 (by omega) hQ⟩
  ·refine newA_intro fun gk m6 hgk e6 hb6 hle6 => ⟨(S'.le hle6).p1, ?_⟩
   refine via h144 ⟨[g], g, s0, _, rfl, (S'.le hle6).cu, by omega, fun pr M2 u2 v2 k2 => ⟨_, rfl, ((S'.le hle6).kc k2).p1, ?_⟩⟩
   exact (acT_ok t h144 h62 ((S'.le hle6).kc k2) hK (k2.at hb6 (S'.cu.ne hgk)) (S'.cu.ne hgk) hQ : acT (look t) Q g M2 (fun q => Ptr q g1 s r a) (lA s r a) pr gk y3 g1 g3)
 rw [if_neg (by simpa using c)]
 by_cases c : y = 11
 ·rw [if_pos (by simpa using c)]
  exact ⟨fun q => Ptr q g1 s r a, S.p1, Ptr.hd hdl (Ptr.hd hdl (Ptr.hd hdl (pick S 3 fun x M' x0 x1 S' => ⟨S'.p1, pick S' 3 fun z M2 z0 z1 S2 => ⟨S2.p1, via h58 ⟨s, r, a, x, z, y3, rfl, S2.at, hw, S2.finS (hK.jt x z y3) hQ⟩⟩⟩)))⟩
 rw [if_neg (by simpa using c)]
 exact S.p1.rd (via h243 ⟨s, r, a, y1, y2, rfl, S.at, hw, S.finB (hK.mr y1 y2) hQ⟩)
def nwA (n k : Int) : Ar := ⟨List.replicate (2 * n).toNat ⟨0⟩, n, 0, 1, false, 0, 0, 0, 1, List.replicate k.toNat (0, 0)⟩
theorem nwA_kp {n k : Int} (n0 : 256 ≤ n) (n1 : n ≤ 4000) (k0 : 0 ≤ k) (k1 : k ≤ 24) : Kp (nwA n k) := by
 refine ⟨⟨fun x hx => ?_, ?_, ?_⟩, by show (1 : Int) ≤ 1; omega, ?_, .inr ⟨rfl, rfl⟩⟩
 ·have := List.eq_of_mem_replicate hx
  rw [this]; exact ⟨by decide, by decide⟩
 ·show (List.replicate _ _).length ≤ _
  rw [List.length_replicate]; omega
 ·show (List.replicate _ _).length ≤ _
  rw [List.length_replicate]; omega
 ·show (1 : Int) ≤ ((List.replicate _ _).length : Nat)
  rw [List.length_replicate]; omega
theorem own_zero {α : Type} [Enc α] {m : Mem} {g n k : Nat} {t : TypeId} (z : α) {c : Array Value} (hc : c = (Enc.e z).toArray) (hs : Enc.s α = k) (h : m g = some (.cells (zeroRow c (n * k)) t (0, 0))) : OwnL m ⟨some ⟨g, 0, none⟩, n, n⟩ (List.replicate n z) [g] := by
 refine ⟨(List.length_replicate).symm, .inr ⟨g, t, [], rfl, rfl, ?_, ?_⟩⟩
 ·rw [h, hc, ← hs, zeroRow_eq, List.append_nil]
 ·simp
def s219 : Spec := fun args m Q => ∃ n k : Int, args = [.int .i64 n, .int .i64 k] ∧ (256 ≤ n ∧ n ≤ 4000) ∧ (0 ≤ k ∧ k ≤ 24) ∧ nxK (.bool true) m (nwA n k) Q
theorem f219 (t : Tab) (h103 : look t 103 = s103) : Mt t s219 kp219 Tryz.f219 := by
 rintro args m Q ⟨n, k, rfl, hn, hk, hQ⟩
 rw [e219]
 refine newA_intro fun g1 m1 hg1 e1 hb1 hle1 => via h103 ⟨_, _, _, rfl, _, rfl, ?_⟩
 rw [decide_eq_true hn, if_neg (by decide)]
 refine via h103 ⟨_, _, _, rfl, _, rfl, ?_⟩
 rw [decide_eq_true hk, if_neg (by decide)]
 rw [w64 (x := 2 * n) (by omega) (by omega)]
 have fin : ∀ (M : Mem) (gw gr : Nat), Mem.le m1 M → m1 gw = none → m1 gr = none → gw ≠ gr → M gw = some (.cells (zeroRow #[.int .u64 0] ((2 * n).toNat * 1)) 37 (0, 0)) → M gr = some (.cells (zeroRow #[.int .i64 0, .int .i64 0] (k.toNat * 2)) 75 (0, 0)) →
   stoA M ⟨g1, 0, none⟩ (lA ⟨some ⟨gw, 0, none⟩, (2 * n).toNat, (2 * n).toNat⟩ ⟨some ⟨gr, 0, none⟩, k.toNat, k.toNat⟩ (nwA n k)) fun m' => True ∧ rA m' g1 fun w => ret Q (.tuple #[.agg w.toArray, .bool true]) m' := by
  intro M gw gr hl ew er nwr hw hr
  have o1 : OwnL M ⟨some ⟨gw, 0, none⟩, (2 * n).toNat, (2 * n).toNat⟩ (nwA n k).ws [gw] := own_zero (⟨0⟩ : U64) rfl rfl hw
  have o2 : OwnL M ⟨some ⟨gr, 0, none⟩, k.toNat, k.toNat⟩ (nwA n k).rs [gr] := own_zero ((0, 0) : Vl) rfl rfl hr
  have l := Mem.le_trans hle1 hl
  have n1 : ∀ {g : Nat}, m1 g = none → g ≠ g1 := fun h e => by rw [e, hb1] at h; cases h
  have d1 : g1 ∉ [gw] ++ [gr] := by simp; exact ⟨Ne.symm (n1 ew), Ne.symm (n1 er)⟩
  have hD : ∀ b ∈ [gw] ++ [gr], m b = none := fun b hb => by
   rcases List.mem_append.1 hb with h | h
   ·rw [List.mem_singleton.1 h]; exact le_none hle1 ew
   ·rw [List.mem_singleton.1 h]; exact le_none hle1 er
  have w : Wo M ⟨some ⟨gw, 0, none⟩, (2 * n).toNat, (2 * n).toNat⟩ ⟨some ⟨gr, 0, none⟩, k.toNat, k.toNat⟩ (nwA n k) ([gw] ++ [gr]) := ⟨[gw], [gr], o1, o2, rfl, by simp [nwr]⟩
  exact ((zB.of hb1).le hl).sto fun m' ne p => ⟨trivial, p.rd (ret_off ((Off.of_le l).fresh hg1 ne) (hQ _ _ _ _ (le_new (fun b hb => mix_off hb) hD) (Wo.mix (w.ext fun q hq => ne q fun e => d1 (e ▸ hq))) hD))⟩
 refine ⟨fun _ => True, trivial, ⟨by omega, by omega, by show 2 * n * (8 : Nat) ≤ 2 ^ 47; omega, by omega, ?_⟩, ⟨by omega, by omega, by show k * (16 : Nat) ≤ 2 ^ 47; omega, by omega, ?_⟩⟩
 ·refine newA_intro fun gw m2 hgw e2 hb2 hle2 => ⟨trivial, by omega, by omega, by show k * (16 : Nat) ≤ 2 ^ 47; omega, by omega, newA_intro fun gr m3 hgr e3 hb3 hle3 => ⟨trivial, ?_⟩⟩
  exact fin m3 gw gr (Mem.le_trans hle2 hle3) hgw (le_none hle2 hgr) (ne_of_none hgr hb2) (hle3 _ _ hb2) hb3
 ·refine newA_intro fun gr m2 hgr e2 hb2 hle2 => ⟨trivial, by omega, by omega, by show 2 * n * (8 : Nat) ≤ 2 ^ 47; omega, by omega, newA_intro fun gw m3 hgw e3 hb3 hle3 => ⟨trivial, ?_⟩⟩
  exact fin m3 gw gr (Mem.le_trans hle2 hle3) (le_none hle2 hgw) hgr (Ne.symm (ne_of_none hgw hb2)) hb3 (hle3 _ _ hb2)
structure Aw (m : Mem) (g g1 g5 : Nat) (s0 s r : Sl) (b : Ar) (D : List Nat) (M : Mem) : Prop where
 k : Kc m g M
 C : Cu s0 [g] m g
 im : Im M g5 s r b D
 z1 : zB M g1
 e1 : m g1 = none
 e5 : m g5 = none
 n15 : g1 ≠ g5
 d1 : g1 ∉ D
 f : ∀ x ∈ D, m x = none
 K : Kp b
 L : 0 < b.ws.length ∧ 3 ≤ b.rs.length ∧ b.rs.length ≤ 24
section
variable {m M N : Mem} {g g1 g5 : Nat} {s0 s r : Sl} {b : Ar} {D : List Nat}
theorem Aw.dg (S : Aw m g g1 g5 s0 s r b D M) : g ∉ D := fun h => by
 obtain ⟨o, e⟩ := S.C.live
 rw [S.f g h] at e
 cases e
theorem Aw.n1 (S : Aw m g g1 g5 s0 s r b D M) : g1 ≠ g := S.C.ne S.e1
theorem Aw.n5 (S : Aw m g g1 g5 s0 s r b D M) : g5 ≠ g := S.C.ne S.e5
theorem Aw.cu (S : Aw m g g1 g5 s0 s r b D M) : Cu s0 [g] M g := S.k.cu S.C
theorem Aw.hidA (S : Aw m g g1 g5 s0 s r b D M) : ArAt (hid [g] M) s r b := S.im.w.hid fun x hx k => S.dg (List.mem_singleton.1 k ▸ hx)
theorem Aw.kc (S : Aw m g g1 g5 s0 s r b D M) (h : Kc M g N) : Aw m g g1 g5 s0 s r b D N := by
 have h1 : ∀ x, x ∈ g5 :: D → N x = M x := fun x hx => by
  have hg : x ≠ g := by
   rcases List.mem_cons.1 hx with e | e
   ·rw [e]; exact S.n5
   ·exact fun k => S.dg (k ▸ e)
  have : ∃ o, M x = some o := by
   rcases List.mem_cons.1 hx with e | e
   ·rw [e]; exact ⟨_, S.im.p⟩
   ·exact S.im.w.live x e
  obtain ⟨o, ho⟩ := this
  rw [ho]; exact h.at ho hg
 exact ⟨S.k.trans h, S.C, S.im.ext h1, by obtain ⟨c, e, hc⟩ := S.z1; exact ⟨c, h.at e S.n1, hc⟩, S.e1, S.e5, S.n15, S.d1, S.f, S.K, S.L⟩
theorem Aw.put (S : Aw m g g1 g5 s0 s r b D M) (h : Kc M g N) {s' r' : Sl} {c : Ar} {E : List Nat} (w : Wo N s' r' c E) (f : ∀ x ∈ E, M x = none) (hP : Kp c ∧ Ln b c) {K : Mem → Prop} (hK : ∀ M', Aw m g g1 g5 s0 s' r' c E M' → K M') : stoA N ⟨g5, 0, none⟩ (lA s' r' c) K := by
 have S' := S.kc h
 have no : ∀ {x : Nat}, M x ≠ none → x ∉ E := fun h hx => h (f _ hx)
 have d5 : g5 ∉ E := no (by have := S.im.p; unfold Ptr at this; rw [this]; exact fun e => by cases e)
 have d1 : g1 ∉ E := no S.z1.live
 refine S'.im.p.z.sto fun m2 ne2 p2 => hK m2 ⟨S'.k.put S.e5 S.n5 ne2, S.C, ⟨p2, w.ext fun q hq => ne2 q fun e => d5 (e ▸ hq), d5⟩, S'.z1.eq (ne2 g1 S.n15), S.e1, S.e5, S.n15, d1, fun x hx => S.k.fresh S.C (f x hx), hP.1, ?_, ?_⟩
 ·rw [hP.2.1]; exact S.L.1
 ·rw [hP.2.2]; exact S.L.2
theorem Aw.fin (S : Aw m g g1 g5 s0 s r b D M) {P : Ar → Prop} {Q : Value → Mem → Prop} (hP : P b) (hQ : dwK g m P Q) : rA M g5 fun w => stoA M ⟨g1, 0, none⟩ w fun m' => rA m' g1 fun w' => ret Q (.agg w'.toArray) m' :=
 S.im.p.rd (S.z1.sto fun m' ne p => p.rd (ret_intro (Mem.le_refl _) (hQ s r b D m' (S.k.put S.e1 S.n1 ne) (S.im.w.ext fun q hq => ne q fun e => S.d1 (e ▸ hq)) S.f hP)))
theorem Aw.at (S : Aw m g g1 g5 s0 s r b D M) : ArAt M s r b := S.im.w.at
theorem Aw.flip (t : Tab) (h32 : look t 32 = s32) (S : Aw m g g1 g5 s0 s r b D M) {K : Mem → Prop} (hK : ∀ s' r' c E M', Aw m g g1 g5 s0 s' r' c E M' → K M') :
  rA M g5 fun w => look t 32 [.agg w.toArray] M fun v m' => wB v fun w' _ => stoA m' ⟨g5, 0, none⟩ w' K :=
 S.im.p.rd (via h32 ⟨s, r, b, rfl, S.at, S.K.wf, fun s' r' E N l w f => wB_of (S.put (Kc.of_le g l) w f S.K.fp fun M' S' => hK _ _ _ _ M' S')⟩)
theorem Aw.steps (t : Tab) (h144 : look t 144 = s144) (h37 : look t 37 = s37) (S : Aw m g g1 g5 s0 s r b D M) {k : Int} {u : Int → Int} (hk : k ≤ 1000) (hu : ∀ x, 0 ≤ x → x ≤ 1000 → -9223372036854775808 ≤ u x ∧ u x ≤ 9223372036854775807) {K : Mem → Prop} (hK : ∀ s' r' c E M', Aw m g g1 g5 s0 s' r' c E M' → K M') :
  ∃ T : Mem → Prop, T M ∧ hA T g5 fun w => look t 144 [.pointer (some ⟨g, 0, none⟩), .int .i64 k] M fun v m1 => ∃ y : Int, v = .int .i64 y ∧ T m1 ∧ look t 37 [.agg w.toArray, .int .i64 (u y)] m1 fun v' m2 => wN v' fun w' _ => T m2 ∧ stoA m2 ⟨g5, 0, none⟩ w' K := by
 refine ⟨fun q => Ptr q g5 s r b, S.im.p, Ptr.hd (fun _ h => h) (via h144 ⟨[g], g, s0, _, rfl, S.cu, by omega, fun y M2 u2 v2 k2 => ⟨_, rfl, (S.kc k2).im.p, ?_⟩⟩)⟩
 have S2 := S.kc k2
 exact via h37 ⟨s, r, b, _, rfl, S2.at, S.K.wf, hu y u2 (by omega), fun s' r' E N l w f => wN_of ⟨l _ _ S2.im.p, S2.put (Kc.of_le g l) w f (S.K.cs _) fun M' S' => hK _ _ _ _ M' S'⟩⟩
end
def s168 : Spec := fun args m Q => ∃ (g : Nat) (s0 : Sl) (n : Int), args = [.pointer (some ⟨g, 0, none⟩), .int .i64 n] ∧ Cu s0 [g] m g ∧ (0 ≤ n ∧ n ≤ 2000) ∧ dwK g m (fun b => Kp b ∧ 0 < b.ws.length ∧ 3 ≤ b.rs.length ∧ b.rs.length ≤ 24) Q
theorem f168 (t : Tab) (h144 : look t 144 = s144) (h114 : look t 114 = s114) (h115 : look t 115 = s115) (h219 : look t 219 = s219) (h220 : look t 220 = s220) (h32 : look t 32 = s32) (h37 : look t 37 = s37) : Mt t s168 kp168 Tryz.f168 := by
 rintro args m Q ⟨g, s0, n, rfl, hC, hn, hQ⟩
 rw [e168]
 refine newA_intro fun g1 m1 hg1 e1 hb1 hle1 => newA_intro fun gl m2 hgl e2 hbl hle2 => ?_
 have l2 := Mem.le_trans hle1 hle2
 have C2 := hC.le l2
 have gn : gl ≠ g := (hC.le hle1).ne hgl
 refine via h115 ⟨[g], g, s0, ⟨some ⟨gl, 0, none⟩, 5, 5⟩, [256, 256, 300, 400, 512], rfl, C2, rd_hid hbl (fun k => gn (List.mem_singleton.1 k)) rfl, rfl, by decide, by decide, fun se M3 hse k3 => ⟨_, rfl, ?_⟩⟩
 refine via h144 ⟨[g], g, s0, _, rfl, k3.cu C2, by omega, fun y M4 y0 y1 k4 => ⟨_, rfl, ?_⟩⟩
 have k14 := ((Kc.of_le g l2).trans k3).trans k4
 have hse' : 256 ≤ se ∧ se ≤ 4000 := by simp at hse; omega
 rw [w64 (x := 3 + y) (by omega) (by omega)]
 have hp := nwA_kp (n := se) (k := 3 + y) hse'.1 hse'.2 (by omega) (by omega)
 refine via h219 ⟨se, 3 + y, rfl, hse', by omega, fun s r D M5 l5 w5 f5 => wB_of ?_⟩
 refine newA_intro fun g5 m6 hg5 e6 hb5 hle6 => (zB.of hb5).sto fun M ne p => ?_
 have lM : Mem.le M5 M := le_other hle6 hg5 ne
 have kM : Kc m g M := k14.trans (Kc.of_le g (Mem.le_trans l5 lM))
 have z1 : zB M4 g1 := by
  have : zB m2 g1 := (zB.of hb1).le hle2
  obtain ⟨c, e, hc⟩ := this
  exact ⟨c, (k3.trans k4).at e (hC.ne hg1), hc⟩
 have S : Aw m g g1 g5 s0 s r (nwA se (3 + y)) D M := ⟨kM, hC, ⟨p, w5.le lM, w5.fresh hg5⟩, (z1.le l5).le lM, hg1, (k14.trans (Kc.of_le g l5)).fresh hC hg5, fun e => z1.live (by rw [e]; exact le_none l5 hg5), fun h => z1.live (f5 g1 h), fun x hx => k14.fresh hC (f5 x hx), hp, by show 0 < (List.replicate _ _).length; rw [List.length_replicate]; omega, by show 3 ≤ (List.replicate _ _).length ∧ (List.replicate _ _).length ≤ 24; rw [List.length_replicate]; omega⟩
 clear kM z1 lM ne p
 suffices key : ∀ (d i : Nat), (i : Int) + d = n → ∀ (s r : Sl) (b : Ar) (D : List Nat) (M : Mem), Aw m g g1 g5 s0 s r b D M → L168_3 (look t) (d + 1) Q g n g1 g5 (i : Int) M from ⟨n.toNat + 1, key n.toNat 0 (by omega) s r _ D M S⟩
 intro d
 induction d with
 | zero =>
  intro i hi s r b D M S
  rw [l168_3]
  refine ⟨M, Mem.le_refl _, ?_⟩
  rw [if_neg (by simp; omega)]
  refine via h114 ⟨[g], g, s0, _, rfl, S.cu, by omega, fun x M2 k2 => ⟨_, rfl, ?_⟩⟩
  have S2 := S.kc k2
  cases x with
  | true =>
   rw [if_pos rfl]
   refine S2.flip t h32 fun s' r' c E M' S' => ?_
   exact S'.steps t h144 h37 (u := fun x => x) (by omega) (fun x _ _ => by omega) fun s' r' c E M' S' => S'.fin ⟨S'.K, S'.L⟩ hQ
  | false => rw [if_neg (by decide)]; exact S2.fin ⟨S2.K, S2.L⟩ hQ
 | succ d ih =>
  intro i hi s r b D M S
  rw [l168_3]
  refine ⟨M, Mem.le_refl _, ?_⟩
  rw [if_pos (by simp; omega)]
  have ei : IntKind.i64.wrap ((i : Int) + 1) = ((i + 1 : Nat) : Int) := wsucc (n := 2000) (by omega) (by decide)
  refine S.im.p.rd (via h220 ⟨g, s0, s, r, b, rfl, S.cu, S.hidA, S.K, fun s' r' c E N k w f hP => wA_of (S.put k w f hP fun M' S' => ?_)⟩)
  refine via h144 ⟨[g], g, s0, _, rfl, S'.cu, by omega, fun x M2 x0 x1 k2 => ⟨_, rfl, ?_⟩⟩
  have S2 := S'.kc k2
  by_cases c0 : x = 0
  ·rw [if_pos (by simpa using c0)]
   exact S2.flip t h32 fun s' r' c E M' S' => by rw [ei]; exact ih (i + 1) (by omega) s' r' c E M' S'
  rw [if_neg (by simpa using c0)]
  by_cases c1 : x = 1
  ·rw [if_pos (by simpa using c1)]
   exact S2.steps t h144 h37 (u := fun x => IntKind.i64.wrap (1 + x)) (by omega) (fun x _ _ => by show -9223372036854775808 ≤ IntKind.i64.wrap (1 + x) ∧ _; rw [w64 (by omega) (by omega)]; omega) fun s' r' c E M' S' => by rw [ei]; exact ih (i + 1) (by omega) s' r' c E M' S'
  rw [if_neg (by simpa using c1)]
  by_cases c2 : x = 2
  ·rw [if_pos (by simpa using c2)]
   exact S2.steps t h144 h37 (u := fun x => IntKind.i64.wrap (1 + x)) (by omega) (fun x _ _ => by show -9223372036854775808 ≤ IntKind.i64.wrap (1 + x) ∧ _; rw [w64 (by omega) (by omega)]; omega) fun s' r' c E M' S' => by rw [ei]; exact ih (i + 1) (by omega) s' r' c E M' S'
  rw [if_neg (by simpa using c2), ei]
  exact ih (i + 1) (by omega) s' r' c E M2 S2
def Kq (a : Ar) : Prop := a.wf ∧ (okP a → Gd a)
theorem Kp.kq {a : Ar} (h : Kp a) : Kq a := ⟨h.wf, h.gd⟩
theorem kq_of {a : Ar} (hw : a.wf) (h : okP a → a.cyc = true → a.scan ≠ a.top) : Kq a := ⟨hw, fun hk => by
 rcases okC_of hw hk with k | ⟨T1, T2, k⟩
 ·exact .inl k
 ·exact .inr ⟨T1, T2, k, h hk k.c.cy⟩⟩
structure As (m : Mem) (g g1 g3 : Nat) (s0 s r : Sl) (a : Ar) (D : List Nat) (M : Mem) : Prop where
 k : Kc m g M
 C : Cu s0 (g :: D) m g
 im : Im M g1 s r a D
 z3 : zB M g3
 e1 : m g1 = none
 e3 : m g3 = none
 n13 : g3 ≠ g1
 w : Wo m s r a D
 dg : g ∉ D
def spK (g : Nat) (D : List Nat) (m : Mem) (Q : Value → Mem → Prop) : Prop := ∀ (s' r' : Sl) (b : Ar) (E : List Nat) (M : Mem), Off (g :: D) m M → (∀ (s : Sl) (i h : Int), 0 ≤ i → m g = some (.cells #[.slice s.a s.n s.c, .int .i64 i, .int .i64 h] 161 (0, 0)) → ∃ i' h' : Int, 0 ≤ i' ∧ M g = some (.cells #[.slice s.a s.n s.c, .int .i64 i', .int .i64 h'] 161 (0, 0))) → Wo M s' r' b E → (∀ x ∈ E, x ∈ D ∨ m x = none) → Kq b → Q (vA s' r' b) M
section
variable {m M N : Mem} {g g1 g3 : Nat} {s0 s r : Sl} {a : Ar} {D : List Nat}
theorem As.n1 (S : As m g g1 g3 s0 s r a D M) : g1 ≠ g := S.C.ne S.e1
theorem As.n3 (S : As m g g1 g3 s0 s r a D M) : g3 ≠ g := S.C.ne S.e3
theorem As.cu (S : As m g g1 g3 s0 s r a D M) : Cu s0 (g :: D) M g := S.k.cu S.C
theorem As.d3 (S : As m g g1 g3 s0 s r a D M) : g3 ∉ D := S.w.fresh S.e3
theorem As.kc (S : As m g g1 g3 s0 s r a D M) (h : Kc M g N) : As m g g1 g3 s0 s r a D N := by
 have h1 : ∀ x, x ∈ g1 :: D → N x = M x := fun x hx => by
  have hg : x ≠ g := by
   rcases List.mem_cons.1 hx with e | e
   ·rw [e]; exact S.n1
   ·exact fun k => S.dg (k ▸ e)
  have : ∃ o, M x = some o := by
   rcases List.mem_cons.1 hx with e | e
   ·rw [e]; exact ⟨_, S.im.p⟩
   ·exact S.im.w.live x e
  obtain ⟨o, ho⟩ := this
  rw [ho]; exact h.at ho hg
 exact ⟨S.k.trans h, S.C, S.im.ext h1, by obtain ⟨c, e, hc⟩ := S.z3; exact ⟨c, h.at e S.n3, hc⟩, S.e1, S.e3, S.n13, S.w, S.dg⟩
theorem sp_fin (S : As m g g1 g3 s0 s r a D M) {Q : Value → Mem → Prop} {s' r' : Sl} {b : Ar} {E : List Nat} (hO : ∀ x, x ≠ g1 → x ∉ D → x ∉ E → N x = M x) (im : Im N g1 s' r' b E) (hE : ∀ x ∈ E, x ∈ D ∨ M x = none) (hb : Kq b) (hQ : spK g D m Q) :
  rA N g1 fun w => stoA N ⟨g3, 0, none⟩ w fun m' => rA m' g3 fun w' => ret Q (.agg w'.toArray) m' := by
 have eE : ∀ {x : Nat}, M x ≠ none → x ∉ D → x ∉ E := fun h hd hx => (hE _ hx).elim hd h
 have e3 : g3 ∉ E := eE S.z3.live S.d3
 have lg : ∃ o, M g = some o := S.cu.live
 have eg : g ∉ E := eE (by obtain ⟨o, e⟩ := lg; rw [e]; exact fun e => by cases e) S.dg
 have z3 : zB N g3 := S.z3.eq (hO g3 S.n13 S.d3 e3)
 refine im.p.rd (z3.sto fun m' ne p => p.rd (ret_intro (Mem.le_refl _) ?_))
 refine hQ s' r' b E m' (fun x o hx e => ?_) (fun s1 i v h0 e => ?_) (im.w.ext fun q hq => ne q fun e => e3 (e ▸ hq)) (fun x hx => (hE x hx).imp id fun h => ?_) hb
 ·have x3 : x ≠ g3 := fun h => by rw [h, S.e3] at e; cases e
  have x1 : x ≠ g1 := fun h => by rw [h, S.e1] at e; cases e
  have xg : x ≠ g := fun h => hx (by simp [h])
  have xd : x ∉ D := fun h => hx (by simp [h])
  have eM := S.k.at e xg
  rw [ne x x3, hO x x1 xd (eE (by rw [eM]; exact fun e => by cases e) xd)]
  exact eM
 ·rw [ne g (Ne.symm S.n3), hO g (Ne.symm S.n1) S.dg eg]
  exact S.k.2 s1 i v h0 e
 ·exact S.k.fresh S.C h
theorem As.below (t : Tab) (h144 : look t 144 = s144) (S : As m g g1 g3 s0 s r a D M) {n : Int} (hn : n ≤ 4294967296) {K : Int → Mem → Prop} (hK : ∀ (x : Int) (M' : Mem), 0 ≤ x → (x < n ∨ n ≤ 0 ∧ x = 0) → As m g g1 g3 s0 s r a D M' → K x M') :
  look t 144 [.pointer (some ⟨g, 0, none⟩), .int .i64 n] M fun v m' => ∃ x : Int, v = .int .i64 x ∧ K x m' :=
 via h144 ⟨g :: D, g, s0, _, rfl, S.cu, hn, fun x M' x0 x1 k => ⟨_, rfl, hK x M' x0 x1 (S.kc k)⟩⟩
theorem As.pick (t : Tab) (h115 : look t 115 = s115) (S : As m g g1 g3 s0 s r a D M) {gl n : Nat} {c : Array Value} {ty : TypeId} {l : List Int} (h0 : M gl = none) (lN : Mem.le M N) (hb : N gl = some (.cells c ty (0, 0))) (hc : c.toList = flat Enc.e l ++ []) (hn : l.length = n) (l0 : 0 < l.length) (l1 : l.length ≤ 100) {K : Int → Mem → Prop} (hK : ∀ (x : Int) (M' : Mem), x ∈ l → As m g g1 g3 s0 s r a D M' → K x M') :
  look t 115 [.pointer (some ⟨g, 0, none⟩), .slice (some ⟨gl, 0, none⟩) n n] N fun v m' => ∃ x : Int, v = .int .i64 x ∧ K x m' := by
 have hx : gl ∉ g :: D := fun h => by
  rcases List.mem_cons.1 h with e | e
  ·exact S.cu.ne h0 e
  ·obtain ⟨o, ho⟩ := S.im.w.live gl e; rw [h0] at ho; cases ho
 exact via h115 ⟨g :: D, g, s0, ⟨some ⟨gl, 0, none⟩, n, n⟩, l, rfl, (S.kc (Kc.of_le g lN)).cu, rd_hid hb hx hc, hn, l0, l1, fun x M' hx k => ⟨_, rfl, hK x M' hx ((S.kc (Kc.of_le g lN)).kc k)⟩⟩
end
def s170 : Spec := fun args m Q => ∃ (g : Nat) (s0 s r : Sl) (a : Ar) (D : List Nat), args = [.pointer (some ⟨g, 0, none⟩), vA s r a] ∧ Cu s0 (g :: D) m g ∧ Wo m s r a D ∧ g ∉ D ∧ Kp a ∧ 0 < a.ws.length ∧ a.rs.length ≤ 1000 ∧ spK g D m Q
theorem f170 (t : Tab) (h144 : look t 144 = s144) (h115 : look t 115 = s115) : Mt t s170 kp170 Tryz.f170 := by
 rintro args m Q ⟨g, s0, s, r, a, D, rfl, hC, hW, hg, hK, h0, hr1, hQ⟩
 show FA _ _ _ _ [.pointer (some ⟨g, 0, none⟩), aG s r a] m Q
 rw [e170]
 have hw := hK.wf
 have hn := hw.n
 have hrr := hw.r
 have kt0 := hK.t0
 have kt1 := hK.t1
 have ks := hK.s
 have hAt := hW.at
 have hsn := hAt.n
 have hrn := hAt.k
 refine newA_intro fun g1 m1 hg1 e1 hb1 hle1 => newA_intro fun g3 m2 hg3 e2 hb3 hle2 => ?_
 have l2 := Mem.le_trans hle1 hle2
 have p1 : m2 g1 = some (.cells (cA s r a) 27 (0, 0)) := hle2 _ _ hb1
 have S : As m g g1 g3 s0 s r a D m2 := ⟨Kc.of_le g l2, hC, hW.loc hg1 p1 l2, zB.of hb3, hg1, le_none hle1 hg3, Ne.symm (ne_of_none hg3 hb1), hW, hg⟩
 refine S.below t h144 (by omega) fun y M y0 y1 S => ?_
 clear p1 hb1 hb3
 have hD : ∀ x ∈ D, x ∈ D ∨ M x = none := fun x hx => .inl hx
 have one : ∀ {N : Mem} {b : Ar}, Im N g1 s r b D → (∀ x, x ≠ g1 → N x = M x) → Kq b → rA N g1 fun w => stoA N ⟨g3, 0, none⟩ w fun m' => rA m' g3 fun w' => ret Q (.agg w'.toArray) m' :=
  fun im hO hb => sp_fin S (fun x x1 _ _ => hO x x1) im hD hb hQ
 by_cases c : y = 0
 ·rw [if_pos (by simpa using c)]
  refine ⟨_, cO S.im.p 3, S.im.fld 3 _ { a with top := a.top + 1 } ?_ (by decide) rfl rfl rfl fun N ne im => one im ne (kq_of ⟨hw.w, hw.n, hw.r⟩ fun _ cy => ?_)⟩
  ·rw [w64 (by omega) (by omega)]; rfl
  ·show a.scan ≠ a.top + 1
   rcases ks with e | e
   ·omega
   ·have cy : a.cyc = true := cy; rw [e.1] at cy; cases cy
 rw [if_neg (by simpa using c)]
 have word : ∀ {M' : Mem} (S' : As m g g1 g3 s0 s r a D M') {i : Int} {x : Int}, 0 ≤ i → i < a.ws.length → optA s.a fun d => 0 ≤ i ∧ i < (s.n : Int) ∧ stoA M' (d.add (i.toNat * 1)) [.int .u64 (uW x)] fun N => rA N g1 fun w => stoA N ⟨g3, 0, none⟩ w fun m' => rA m' g3 fun w' => ret Q (.agg w'.toArray) m' :=
  fun {M'} S' {i x} i0 i1 => S'.im.put_w i0 i1 fun N o im => sp_fin S' (fun z _ zd _ => o z zd) im (fun z hz => .inl hz) (kq_of ⟨inW_set hw.w (uW_in x), by show (setW _ _ _).length ≤ _; rw [setW_len]; exact hn, hrr⟩ fun _ cy => by
   show a.scan ≠ a.top
   rcases ks with e | e
   ·omega
   ·have cy : a.cyc = true := cy; rw [e.1] at cy; cases cy) hQ
 by_cases c : y = 1
 ·rw [if_pos (by simpa using c)]
  refine ⟨fun q => Ptr q g1 s r a, S.im.p, _, _, _, fun q hq => cO hq 0, _, _, _, fun q hq => cO hq 0, S.below t h144 (by omega) fun i M2 i0 i1 S2 => ⟨S2.im.p, S2.below t h144 (by omega) fun x M3 x0 x1 S3 => ⟨S3.im.p, ?_⟩⟩⟩
  exact word S3 i0 (by omega)
 rw [if_neg (by simpa using c)]
 by_cases c : y = 2
 ·rw [if_pos (by simpa using c)]
  refine ⟨fun q => Ptr q g1 s r a, S.im.p, _, _, _, fun q hq => cO hq 0, _, fun q hq => cO hq 3, S.below t h144 (by omega) fun i M2 i0 i1 S2 => ⟨S2.im.p, S2.below t h144 (by omega) fun x M3 x0 x1 S3 => ⟨S3.im.p, ?_⟩⟩⟩
  exact word S3 i0 (by omega)
 rw [if_neg (by simpa using c)]
 by_cases c : y = 3
 ·rw [if_pos (by simpa using c)]
  refine ⟨_, cO S.im.p 4, S.im.fld 4 _ { a with cyc := !a.cyc } rfl (by decide) rfl rfl rfl fun N ne im => one im ne (kq_of ⟨hw.w, hw.n, hw.r⟩ fun _ cy => ?_)⟩
  show a.scan ≠ a.top
  have cy : (!a.cyc) = true := cy
  rcases ks with e | e
  ·omega
  ·omega
 rw [if_neg (by simpa using c)]
 by_cases c : y = 4
 ·rw [if_pos (by simpa using c)]
  refine newA_intro fun gl m6 hgl e6 hb6 hle6 => S.pick t h115 (l := [0, 1, 1000000000, 1000000001]) hgl hle6 hb6 rfl rfl (by decide) (by decide) fun x M' hx S' => ?_
  refine S'.im.fld 8 _ { a with ser := x } rfl (by decide) rfl rfl rfl fun N ne im => sp_fin S' (fun z z1 _ _ => ne z z1) im (fun z hz => .inl hz) (kq_of ⟨hw.w, hw.n, hw.r⟩ fun _ cy => ?_) hQ
  show a.scan ≠ a.top
  rcases ks with e | e
  ·omega
  ·have cy : a.cyc = true := cy; rw [e.1] at cy; cases cy
 rw [if_neg (by simpa using c)]
 by_cases c : y = 5
 ·rw [if_pos (by simpa using c)]
  refine ⟨fun q => Ptr q g1 s r a, S.im.p, _, _, _, fun q hq => cO hq 9, S.below t h144 (by omega) fun x M2 x0 x1 S2 => ⟨S2.im.p, newA_intro fun gv m6 hgv e6 hb6 hle6 => ⟨hle6 _ _ S2.im.p, ?_⟩⟩⟩
  have S6 := S2.kc (Kc.of_le g hle6)
  obtain ⟨D1, D2, o1, o2, eD, nd⟩ := S6.im.w
  have hx : Rd m6 (some ⟨gv, 0, none⟩) [((4, x) : Vl)] := Rd.of_block (spare := []) hb6 rfl
  refine app_sl (α := Vl) (s := r) (D := D2) (l := a.rs) (l2 := [(4, x)]) rfl rfl (by decide) (by decide) (by decide) o2 rfl hx (by show a.rs.length + 1 ≤ _; omega) fun s' D' m' q1 q2 q3 q4 q5 => ?_
  obtain ⟨ta, tn, tc⟩ := s'
  have q1 : tn = r.n + 1 := q1
  subst q1
  have d2 : ∀ z, z ∈ D2 → z ∈ D := fun z hz => by rw [eD]; simp [hz]
  have new : ∀ z, z ∈ D' → z ∈ D ∨ m6 z = none := fun z hz => by
   rcases q4 with e | e
   ·rw [e] at hz; exact .inl (d2 z hz)
   ·exact .inr (e z hz)
  have g1d : g1 ∉ D' := fun h => (new g1 h).elim S6.im.g fun e => by have := S6.im.p; unfold Ptr at this; rw [e] at this; cases this
  have p' : Ptr m' g1 s r a := (q3 g1 g1d).trans S6.im.p
  refine ⟨p', ?_⟩
  have dj : ∀ z ∈ D1, z ∉ D' := fun z hz hz' => by
   rcases q4 with e | e
   ·rw [e] at hz'
    rw [eD] at nd
    exact (List.nodup_append.1 nd).2.2 z hz z hz' rfl
   ·obtain ⟨o, ho⟩ := o1.live z hz
    rw [e z hz'] at ho; cases ho
  have o1' := o1.ext (m' := m') fun z hz => q3 z (dj z hz)
  refine sto (c := cA s r a) (t := 27) p' rfl (by show 9 + 1 ≤ 10; decide) fun N eN qN neN => ?_
  have pN : Ptr N g1 s ⟨ta, r.n + 1, tc⟩ { a with rs := a.rs ++ [(4, x)] } := qN
  have nd1 : D1.Nodup := by rw [eD] at nd; exact (List.nodup_append.1 nd).1
  have g1D1 : g1 ∉ D1 := fun h => S6.im.g (by rw [eD]; simp [h])
  have w : Wo N s ⟨ta, r.n + 1, tc⟩ { a with rs := a.rs ++ [(4, x)] } (D1 ++ D') := ⟨D1, D', o1'.ext fun z hz => neN z fun e => g1D1 (e ▸ hz), q2.ext fun z hz => neN z fun e => g1d (e ▸ hz), rfl, by
   rw [List.nodup_append]
   exact ⟨nd1, q5, fun u hu v hv e => dj u hu (e ▸ hv)⟩⟩
  have gE : g1 ∉ D1 ++ D' := fun h => (List.mem_append.1 h).elim g1D1 g1d
  refine sp_fin S6 (fun z z1 zd ze => ?_) ⟨pN, w, gE⟩ (fun z hz => ?_) (kq_of ⟨hw.w, hw.n, by show (a.rs ++ _).length ≤ _; rw [List.length_append]; show a.rs.length + 1 ≤ _; omega⟩ fun _ cy => ?_) hQ
  ·rw [neN z z1]
   exact q3 z fun h => ze (by simp [h])
  ·rcases List.mem_append.1 hz with h | h
   ·exact .inl (by rw [eD]; simp [h])
   ·exact new z h
  ·show a.scan ≠ a.top
   rcases ks with e | e
   ·omega
   ·have cy : a.cyc = true := cy; rw [e.1] at cy; cases cy
 rw [if_neg (by simpa using c)]
 by_cases c : y = 6
 ·rw [if_pos (by simpa using c)]
  refine ⟨_, cO S.im.p 1, newA_intro fun gl m6 hgl e6 hb6 hle6 => S.pick t h115 (l := [255, 0, IntKind.i64.wrap (a.semi + 1)]) hgl hle6 hb6 rfl rfl (by show 0 < 3; decide) (by show 3 ≤ 100; decide) fun x M' hx S' => ?_⟩
  refine S'.im.fld 1 _ { a with semi := x } rfl (by decide) rfl rfl rfl fun N ne im => sp_fin S' (fun z z1 _ _ => ne z z1) im (fun z hz => .inl hz) (kq_of ⟨hw.w, hw.n, hw.r⟩ fun _ cy => ?_) hQ
  show a.scan ≠ a.top
  rcases ks with e | e
  ·omega
  ·have cy : a.cyc = true := cy; rw [e.1] at cy; cases cy
 rw [if_neg (by simpa using c)]
 refine ⟨_, cO S.im.p 5, S.im.fld 5 _ { a with scan := IntKind.i64.wrap (a.scan + 1) } rfl (by decide) rfl rfl rfl fun N ne im => one im ne (kq_of ⟨hw.w, hw.n, hw.r⟩ fun hk cy => ?_)⟩
 show IntKind.i64.wrap (a.scan + 1) ≠ a.top
 have cy : a.cyc = true := cy
 rcases ks with e | e
 ·rw [w64 (by omega) (by omega)]; omega
 ·rw [e.1] at cy; cases cy
def s84 : Spec := fun args m Q => ∃ (g : Nat) (s0 sc : Sl), args = [.pointer (some ⟨g, 0, none⟩), vs sc] ∧ Cu s0 [g] m g ∧ sc.n ≤ 2 ^ 20 ∧ dwK g m Kq Q
theorem f84 (t : Tab) (h114 : look t 114 = s114) (h169 : look t 169 = s169) (h168 : look t 168 = s168) (h170 : look t 170 = s170) : Mt t s84 kp84 Tryz.f84 := by
 rintro args m Q ⟨g, s0, ⟨ca, cn, cc⟩, rfl, hC, hn, hQ⟩
 show FA _ _ _ _ [.pointer (some ⟨g, 0, none⟩), .slice ca cn cc] m Q
 have hn : cn ≤ 2 ^ 20 := hn
 rw [e84]
 refine newA_intro fun g1 m1 hg1 e1 hb1 hle1 => via h169 ⟨⟨ca, cn, cc⟩, 30, rfl, hn, by decide, by decide, fun y y0 y1 => ⟨_, rfl, ?_⟩⟩
 rw [w64 (x := 4 + y) (by omega) (by omega)]
 have C1 := hC.le hle1
 refine via h168 ⟨g, s0, _, rfl, C1, by omega, fun s r b D M2 k2 w2 f2 hP => wA_of ?_⟩
 refine newA_intro fun g5 m3 hg5 e3 hb5 hle3 => (zB.of hb5).sto fun M ne p => ?_
 have lM : Mem.le M2 M := le_other hle3 hg5 ne
 have k02 := (Kc.of_le g hle1).trans k2
 have kM : Kc m g M := k02.trans (Kc.of_le g lM)
 have z1 : zB M g1 := by
  obtain ⟨c, e, hc⟩ := zB.of hb1
  exact ⟨c, lM _ _ (k2.at e (hC.ne hg1)), hc⟩
 have e5 : m g5 = none := k02.fresh hC hg5
 have f : ∀ x ∈ D, m x = none := fun x hx => le_none hle1 (f2 x hx)
 have n15 : g1 ≠ g5 := fun e => by
  obtain ⟨c, h, _⟩ := zB.of hb1
  have := k2.at h (hC.ne hg1)
  rw [e, hg5] at this; cases this
 have d1 : g1 ∉ D := fun h => by have := f2 g1 h; rw [hb1] at this; cases this
 have S : Aw m g g1 g5 s0 s r b D M := ⟨kM, hC, ⟨p, w2.le lM, w2.fresh hg5⟩, z1, hg1, e5, n15, d1, f, hP.1, hP.2⟩
 refine via h114 ⟨[g], g, s0, _, rfl, S.cu, by omega, fun x M4 k4 => ⟨_, rfl, ?_⟩⟩
 have S4 := S.kc k4
 cases x with
 | false => rw [if_neg (by decide)]; exact S4.fin hP.1.kq hQ
 | true =>
  rw [if_pos rfl]
  have CD : Cu s0 (g :: D) M4 g := S4.k.add (X := [g]) hC f
  refine S4.im.p.rd (via h170 ⟨g, s0, s, r, b, D, rfl, CD, S4.im.w, S4.dg, hP.1, hP.2.1, by omega, fun s' r' c E M5 hO hc w5 f5 hq => wA_of ?_⟩)
  have no : ∀ {x : Nat}, x ∉ D → M4 x ≠ none → x ∉ E := fun hd h hx => (f5 _ hx).elim hd h
  have p4 : M4 g5 ≠ none := by have := S4.im.p; unfold Ptr at this; rw [this]; exact fun e => by cases e
  have d5 : g5 ∉ E := no S4.im.g p4
  have dE1 : g1 ∉ E := no S4.d1 S4.z1.live
  have keep : ∀ {x : Nat} {o : Obj}, x ≠ g → x ∉ D → M4 x = some o → M5 x = some o := fun hg hd e => hO _ _ (fun h => (List.mem_cons.1 h).elim hg hd) e
  have k5 : Kc m g M5 := ⟨fun z o hz e => by
   have zg : z ≠ g := fun h => hz (by simp [h])
   exact keep zg (fun hd => by rw [f z hd] at e; cases e) (S4.k.at e zg), fun s1 i v h0 e => by
   obtain ⟨i1, v1, h1, e1⟩ := S4.k.2 s1 i v h0 e
   exact hc s1 i1 v1 h1 e1⟩
  have fE : ∀ z ∈ E, m z = none := fun z hz => (f5 z hz).elim (f z) fun e => S4.k.fresh hC e
  have z15 : zB M5 g1 := by obtain ⟨c, e, hc⟩ := S4.z1; exact ⟨c, keep S4.n1 S4.d1 e, hc⟩
  refine (show zB M5 g5 from ⟨_, keep S4.n5 S4.im.g S4.im.p, rfl⟩).sto fun M6 ne6 p6 => p6.rd ?_
  refine (z15.eq (ne6 g1 n15)).sto fun M7 ne7 p7 => p7.rd (ret_intro (Mem.le_refl _) ?_)
  exact hQ s' r' c E M7 ((k5.put e5 S4.n5 ne6).put hg1 S4.n1 ne7) ((w5.ext fun q hq => ne6 q fun e => d5 (e ▸ hq)).ext fun q hq => ne7 q fun e => dE1 (e ▸ hq)) fE hq
def drK (m : Mem) (P : Ar → Prop) (Q : Value → Mem → Prop) : Prop := ∀ (s r : Sl) (b : Ar) (D : List Nat) (M : Mem), Mem.le m M → Wo M s r b D → (∀ x ∈ D, m x = none) → P b → Q (vA s r b) M
def Arg (m : Mem) (sc : Sl) : Prop := ∃ bs : List U8, Rd m sc.a bs ∧ bs.length = sc.n ∧ bs.length ≤ 2 ^ 20
theorem kc_le {m m1 M : Mem} {g : Nat} (l : Mem.le m m1) (hg : m g = none) (k : Kc m1 g M) : Mem.le m M := fun b o e => k.at (l b o e) fun h => by rw [h, hg] at e; cases e
def drS : Spec := fun args m Q => ∃ sc : Sl, args = [vs sc] ∧ Arg m sc ∧ drK m Kq Q
theorem dr_ok (t : Tab) (h83 : look t 83 = s83) (h84 : look t 84 = s84) {m : Mem} {sc : Sl} (hA : Arg m sc) {Q : Value → Mem → Prop} (hQ : drK m Kq Q) :
  newA m (.cells zAr 27 (0, 0)) fun g1 m2 => look t 83 [.slice sc.a sc.n sc.c] m2 fun v3 m4 => ∃ p5 : Option Addr, v3 = .pointer p5 ∧ look t 84 [.pointer p5, .slice sc.a sc.n sc.c] m4 fun v6 m7 => wA v6 fun w1 => stoA m7 ⟨g1, 0, none⟩ w1 fun m22 => rA m22 g1 fun w0 => ret Q (.agg w0.toArray) m22 := by
 refine newA_intro fun g1 m2 hg1 e1 hb1 hle1 => ?_
 obtain ⟨bs, hR, hn, hb⟩ := hA
 refine via h83 ⟨sc, bs, rfl, hR.le hle1, hn, hb, fun g M hg hle hC => ⟨_, rfl, via h84 ⟨g, sc, sc, rfl, hC, by omega, fun s r b D M2 k w f hP => wA_of ?_⟩⟩⟩
 have L : Mem.le m2 M2 := kc_le hle hg k
 have d1 : g1 ∉ D := fun h => by have := le_none hle (f g1 h); rw [hb1] at this; cases this
 refine ((zB.of hb1).le L).sto fun m' ne p => p.rd (ret_intro (Mem.le_refl _) ?_)
 exact hQ s r b D m' (le_other (Mem.le_trans hle1 L) hg1 ne) (w.ext fun q hq => ne q fun e => d1 (e ▸ hq)) (fun x hx => le_none hle1 (le_none hle (f x hx))) hP
def s17 : Spec := fun args m Q => ∃ sc : Sl, args = [vs sc] ∧ Q (.bool (decide ((sc.n : Int) > 1048576))) m
theorem f17 (t : Tab) : Mt t s17 kp17 Tryz.f17 := by
 rintro args m Q ⟨⟨sa, sn, sc⟩, rfl, hQ⟩
 show FA _ _ _ _ [.slice sa sn sc] m Q
 rw [e17]
 exact ret_intro (Mem.le_refl _) hQ
theorem law_in (t : Tab) {DX : FuncId} (h17 : look t 17 = s17) (hDX : look t DX = drS) {m : Mem} {sc : Sl} {bs : List U8} (hR : Rd m sc.a bs) (hn : bs.length = sc.n) {Q : Value → Mem → Prop} (hQ : ∀ M, Mem.le m M → Q (.bool true) M) {K : Nat → Mem → Prop}
  (hK : ∀ (g : Nat) (s r : Sl) (a : Ar) (D : List Nat) (M : Mem), Mem.le m M → Im M g s r a D → m g = none → (∀ x ∈ D, m x = none) → Kq a → sc.n ≤ 2 ^ 20 → K g M) :
  look t 17 [.slice sc.a sc.n sc.c] m fun v m2 => ∃ b : Bool, v = .bool b ∧ if b = true then ret Q (.bool true) m2 else look t DX [.slice sc.a sc.n sc.c] m2 fun v4 m5 => wA v4 fun w3 => newA m5 (.cells zAr 27 (0, 0)) fun g20 m21 => stoA m21 ⟨g20, 0, none⟩ w3 fun m22 => K g20 m22 := by
 refine via h17 ⟨sc, rfl, _, rfl, ?_⟩
 by_cases c : (sc.n : Int) > 1048576
 ·rw [if_pos (by simpa using c)]
  exact ret_intro (Mem.le_refl _) (hQ m (Mem.le_refl _))
 ·rw [if_neg (by simpa using c)]
  refine via hDX ⟨sc, rfl, ⟨bs, hR, hn, by omega⟩, fun s r b D M l w f hP => wA_of ?_⟩
  refine newA_intro fun g m5 hg e5 hb5 hle5 => (zB.of hb5).sto fun m6 ne p => ?_
  have l6 : Mem.le M m6 := le_other hle5 hg ne
  exact hK g s r b D m6 (Mem.le_trans l l6) ⟨p, w.le l6, w.fresh hg⟩ (le_none l hg) f hP (by omega)
section
variable {a b : Ar} {f : Int → Int}
end
theorem nd_len : ∀ (L M : List Int), L.Nodup → (∀ q ∈ L, q ∈ M) → L.length ≤ M.length
 | [], M, _, _ => Nat.zero_le _
 | p :: L, M, hn, hs => by
  obtain ⟨n1, n2⟩ := List.nodup_cons.1 hn
  have hp : p ∈ M := hs p (by simp)
  have := nd_len L (M.erase p) n2 fun q hq => (List.mem_erase_of_ne fun e => n1 (by rw [← e]; exact hq)).2 (hs q (by simp [hq]))
  rw [List.length_erase_of_mem hp] at this
  have h0 : 0 < M.length := List.length_pos_of_mem hp
  show L.length + 1 ≤ M.length
  omega
theorem reach_few {a : Ar} (h : OkC a) {pl : List Int} (hn : pl.Nodup) (hp : ∀ q ∈ pl, Reach a q) : pl.length ≤ a.ws.length := by
 have hs := nd_len pl ((List.range a.ws.length).map fun (i : Nat) => (i : Int)) hn fun q hq => by
  have := h.at (hp q hq)
  exact List.mem_map.2 ⟨q.toNat, by rw [List.mem_range]; omega, by omega⟩
 simpa using hs
def rcV (ws : List U64) (pl : List Int) (v : Vl) : List Int := if isRefB v = true then (if whereW ws v.2 ∈ pl then pl else pl ++ [whereW ws v.2]) else pl
def rcL (ws : List U64) : List Int → List Vl → List Int
 | pl, [] => pl
 | pl, v :: vs => rcL ws (rcV ws pl v) vs
def slV (ws : List U64) (p : Int) : List Vl := (slotsL (kdW ws p) (szW ws p)).map fun x => valW ws (p + x)
def rcF (ws : List U64) : Nat → Nat → List Int → List Int
 | 0, _, pl => pl
 | f + 1, i, pl => if h : i < pl.length then rcF ws f (i + 1) (rcL ws pl (slV ws pl[i])) else pl
def rcA (a : Ar) : List Int := rcF a.ws (a.ws.length + 1) 0 (rcL a.ws [] a.rs)
theorem rcV_pre (ws : List U64) (pl : List Int) (v : Vl) : ∃ t, rcV ws pl v = pl ++ t := by
 unfold rcV
 split
 ·split
  ·exact ⟨[], by simp⟩
  ·exact ⟨_, rfl⟩
 ·exact ⟨[], by simp⟩
theorem rcL_pre (ws : List U64) : ∀ (vs : List Vl) (pl : List Int), ∃ t, rcL ws pl vs = pl ++ t
 | [], pl => ⟨[], by simp [rcL]⟩
 | v :: vs, pl => by
  obtain ⟨t, e⟩ := rcV_pre ws pl v
  obtain ⟨t', e'⟩ := rcL_pre ws vs (rcV ws pl v)
  exact ⟨t ++ t', by unfold rcL; rw [e', e, List.append_assoc]⟩
theorem rcF_pre (ws : List U64) : ∀ (f i : Nat) (pl : List Int), ∃ t, rcF ws f i pl = pl ++ t
 | 0, _, pl => ⟨[], by simp [rcF]⟩
 | f + 1, i, pl => by
  unfold rcF
  split
  ·rename_i h
   obtain ⟨t, e⟩ := rcL_pre ws (slV ws pl[i]) pl
   obtain ⟨t', e'⟩ := rcF_pre ws f (i + 1) (rcL ws pl (slV ws pl[i]))
   exact ⟨t ++ t', by rw [e', e, List.append_assoc]⟩
  ·exact ⟨[], by simp⟩
theorem rcV_nd {ws : List U64} {pl : List Int} {v : Vl} (h : pl.Nodup) : (rcV ws pl v).Nodup := by
 unfold rcV
 split
 ·split
  ·exact h
  ·rename_i c
   rw [List.nodup_append]
   exact ⟨h, by simp, fun x hx y hy e => c (by simp at hy; rw [← hy, ← e]; exact hx)⟩
 ·exact h
theorem rcL_nd {ws : List U64} : ∀ (vs : List Vl) (pl : List Int), pl.Nodup → (rcL ws pl vs).Nodup
 | [], _, h => h
 | v :: vs, pl, h => rcL_nd vs _ (rcV_nd h)
theorem rcF_nd {ws : List U64} : ∀ (f i : Nat) (pl : List Int), pl.Nodup → (rcF ws f i pl).Nodup
 | 0, _, _, h => h
 | f + 1, i, pl, h => by
  unfold rcF
  split
  ·exact rcF_nd f _ _ (rcL_nd _ _ h)
  ·exact h
theorem rcL_in {ws : List U64} : ∀ (vs : List Vl) (pl : List Int), ∀ v ∈ vs, isRefB v = true → whereW ws v.2 ∈ rcL ws pl vs
 | [], _, v, h, _ => by cases h
 | u :: vs, pl, v, h, hr => by
  rcases List.mem_cons.1 h with e | e
  ·subst e
   obtain ⟨t, et⟩ := rcL_pre ws vs (rcV ws pl v)
   unfold rcL
   rw [et]
   refine List.mem_append_left _ ?_
   unfold rcV
   rw [if_pos hr]
   split
   ·assumption
   ·simp
  ·exact rcL_in vs _ v e hr
theorem rcL_re {ws : List U64} {R : Int → Prop} : ∀ (vs : List Vl) (pl : List Int), (∀ q ∈ pl, R q) → (∀ v ∈ vs, isRefB v = true → R (whereW ws v.2)) → ∀ q ∈ rcL ws pl vs, R q
 | [], _, h, _ => h
 | v :: vs, pl, h, hv => rcL_re vs _ (fun q hq => by
   unfold rcV at hq
   split at hq
   ·rename_i c
    split at hq
    ·exact h q hq
    ·rcases List.mem_append.1 hq with k | k
     ·exact h q k
     ·rw [List.mem_singleton.1 k]; exact hv v (by simp) c
   ·exact h q hq) fun u hu => hv u (by simp [hu])
theorem slV_re {a : Ar} {p : Int} (h : Reach a p) : ∀ v ∈ slV a.ws p, isRefB v = true → Reach a (whereW a.ws v.2) := fun v hv hr => by
 obtain ⟨x, hx, rfl⟩ := List.mem_map.1 hv
 exact Reach.slot p x h hx hr
theorem rs_re (a : Ar) : ∀ v ∈ a.rs, isRefB v = true → Reach a (whereW a.ws v.2) := fun v hv hr => by
 obtain ⟨j, hj, rfl⟩ := List.getElem_of_mem hv
 have := Reach.root (a := a) j hj (by rw [List.getD_eq_getElem?_getD, List.getElem?_eq_getElem hj, Option.getD_some]; exact hr)
 rwa [List.getD_eq_getElem?_getD, List.getElem?_eq_getElem hj, Option.getD_some] at this
theorem rcF_re {a : Ar} : ∀ (f i : Nat) (pl : List Int), (∀ q ∈ pl, Reach a q) → ∀ q ∈ rcF a.ws f i pl, Reach a q
 | 0, _, _, h => h
 | f + 1, i, pl, h => by
  unfold rcF
  split
  ·exact rcF_re f _ _ (rcL_re _ _ h (slV_re (h _ (List.getElem_mem _))))
  ·exact h
theorem rcF_cl {a : Ar} (hk : OkC a) : ∀ (f i : Nat) (pl : List Int), pl.Nodup → (∀ q ∈ pl, Reach a q) → a.ws.length < i + f → (∀ (j : Nat) (hj : j < pl.length), j < i → ∀ v ∈ slV a.ws pl[j], isRefB v = true → whereW a.ws v.2 ∈ pl) →
  ∀ q ∈ rcF a.ws f i pl, ∀ v ∈ slV a.ws q, isRefB v = true → whereW a.ws v.2 ∈ rcF a.ws f i pl
 | 0, i, pl, hn, hp, hl, hc => by
  intro q hq
  have := reach_few hk hn hp
  obtain ⟨j, hj, rfl⟩ := List.getElem_of_mem (show q ∈ pl from hq)
  exact hc j hj (by omega)
 | f + 1, i, pl, hn, hp, hl, hc => by
  unfold rcF
  split
  ·rename_i h
   obtain ⟨t, e⟩ := rcL_pre a.ws (slV a.ws pl[i]) pl
   refine rcF_cl hk f (i + 1) _ (rcL_nd _ _ hn) (rcL_re _ _ hp (slV_re (hp _ (List.getElem_mem _)))) (by omega) fun j hj hji v hv hr => ?_
   have hj' : j < pl.length := by omega
   have ej : (rcL a.ws pl (slV a.ws pl[i]))[j] = pl[j] := by simp only [e]; exact List.getElem_append_left hj'
   rw [ej] at hv
   by_cases c : j = i
   ·subst c
    exact rcL_in _ _ v hv hr
   ·rw [e]
    exact List.mem_append_left _ (hc j hj' (by omega) v hv hr)
  ·rename_i h
   intro q hq
   obtain ⟨j, hj, rfl⟩ := List.getElem_of_mem hq
   exact hc j hj (by omega)
theorem rc_RL {a : Ar} (h : OkC a) : RL a (rcA a) := by
 have n0 : (rcL a.ws [] a.rs).Nodup := rcL_nd _ _ List.nodup_nil
 have r0 : ∀ q ∈ rcL a.ws [] a.rs, Reach a q := rcL_re _ _ (by simp) (rs_re a)
 have cl := rcF_cl h (a.ws.length + 1) 0 _ n0 r0 (by omega) fun j _ hj => by omega
 refine ⟨rcF_nd _ _ _ n0, fun q => ⟨rcF_re _ _ _ r0 q, fun hq => ?_⟩⟩
 induction hq with
 | root j hj hr =>
  obtain ⟨t, e⟩ := rcF_pre a.ws (a.ws.length + 1) 0 (rcL a.ws [] a.rs)
  have hm : a.rs.getD j (0, 0) ∈ a.rs := by rw [List.getD_eq_getElem?_getD, List.getElem?_eq_getElem hj, Option.getD_some]; exact List.getElem_mem _
  have := rcL_in (ws := a.ws) a.rs [] _ hm hr
  unfold rcA
  rw [e]
  exact List.mem_append_left _ this
 | slot q x _ hx hr ih => exact cl q ih _ (List.mem_map.2 ⟨x, hx, rfl⟩) hr
def lwS : Spec := fun args m Q => ∃ (sc : Sl) (bs : List U8), args = [vs sc] ∧ Rd m sc.a bs ∧ bs.length = sc.n ∧ (∀ x ∈ bs, 0 ≤ x.v ∧ x.v ≤ 255) ∧ ∀ M, Mem.le m M → Q (.bool true) M
theorem St0.to {m M N : Mem} {g1 g3 g5 : Nat} {s r s' r' : Sl} {a b c : Ar} {D : List Nat} (S : St0 m g1 g3 g5 s r a s' r' b D M) (o : ∀ x, x ∉ g5 :: D → N x = M x) (im : Im N g5 s' r' c D) : St0 m g1 g3 g5 s r a s' r' c D N := by
 have o1 := o g1 (by simp [S.n1, S.d1])
 have o3 := o g3 (by simp [S.n3, S.d3])
 have hl : Mem.le m N := fun x u e => by
  have xd : x ∉ D := fun h => by rw [S.hD x h] at e; cases e
  have x5 : x ≠ g5 := fun h => by rw [h, S.z5] at e; cases e
  rw [o x (by simp [x5, xd])]
  exact S.hO x u xd e
 refine ⟨o1.trans S.p1, ?_, S.A0, S.z.eq o3, S.z3, S.d3, im, Off.of_le hl, S.hD, S.n3, S.d1, S.n1, S.z5⟩
 exact S.A0.le hl
def s31 : Spec := s32
theorem f31 (t : Tab) (h106 : look t 106 = s106) (h21 : look t 21 = s21) (h107 : look t 107 = s107) : Mt t s31 kp31 Tryz.f31 := by
 rintro args m Q ⟨s, r, a, rfl, hA, hw, hQ⟩
 show FA _ _ _ _ [aG s r a] m Q
 rw [e31]
 refine newA_intro fun g1 m1 hg1 e1 hb1 hle1 => newA_intro fun g3 m3 hg3 e3 hb3 hle3 => ?_
 have p1 : Ptr m3 g1 s r a := hle3 _ _ hb1
 refine cp_pre t h106 (Mem.le_trans hle1 hle3) p1 (zB.of hb3) (le_none hle1 hg3) hA hw fun g5 s' r' D M hl S => ?_
 have bad : fpA a = (a, false) → nxK (.bool false) m a Q := fun e => by rw [e] at hQ; exact hQ
 refine ok_in t h21 S.p1 S.A hw (fun k => S.ret (bad (if_neg fun h => k h.1))) fun k1 => ⟨_, cO S.p1 4, ?_⟩
 cases c : a.cyc with
 | true => rw [if_pos rfl]; exact S.ret (bad (if_neg fun h => by rw [c] at h; cases h.2))
 | false =>
  rw [if_neg (by decide)]
  have e : fpA a = (flipA a, true) := if_pos ⟨k1, c⟩
  rw [e] at hQ
  exact via h107 ⟨g5, s', r', a, D, rfl, S.im, ok_i0 hw k1 c, fun m6 o6 im6 => ⟨rfl, (S.to o6 im6).ret hQ⟩⟩
def s33 : Spec := fun args m Q => ∃ (s r s' r' : Sl) (a : Ar), args = [vA s r a, vA s' r' a] ∧ ArAt m s r a ∧ ArAt m s' r' a ∧ a.wf ∧ ∀ M, Mem.le m M → Q (.bool true) M
theorem f33 (t : Tab) : Mt t s33 kp33 Tryz.f33 := by
 rintro args m Q ⟨s, r, s', r', a, rfl, hA, hB, hw, hQ⟩
 show FA _ _ _ _ [aG s r a, .agg #[.slice s'.a s'.n s'.c, .int .i64 a.semi, .int .i64 a.to, .int .i64 a.top, .bool a.cyc, .int .i64 a.scan, .int .i64 a.old, .int .i64 a.cop, .int .i64 a.ser, .slice r'.a r'.n r'.c]] m Q
 rw [e33]
 refine newA_intro fun g1 m1 hg1 e1 hb1 hle1 => newA_intro fun g3 m2 hg3 e2 hb3 hle2 => ?_
 have l2 := Mem.le_trans hle1 hle2
 have p1 : Ptr m2 g1 s r a := hle2 _ _ hb1
 have p3 : Ptr m2 g3 s' r' a := hb3
 have A := hA.le l2
 have B := hB.le l2
 have ns : s.n = s'.n := A.n.symm.trans B.n
 have nr : r.n = r'.n := A.k.symm.trans B.k
 have hn := A.n
 have hk := A.k
 have hn' := B.n
 have hk' := B.k
 have hl := hw.n
 have hr := hw.r
 refine ⟨_, cO p1 1, _, cO p3 1, ?_⟩
 rw [if_neg (by simp)]
 refine ⟨_, cO p1 2, _, cO p3 2, ?_⟩
 rw [if_neg (by simp)]
 refine ⟨_, cO p1 3, _, cO p3 3, ?_⟩
 rw [if_neg (by simp)]
 refine ⟨_, cO p1 4, _, cO p3 4, ?_⟩
 rw [if_neg (by simp)]
 refine ⟨_, cO p1 5, _, cO p3 5, ?_⟩
 rw [if_neg (by simp)]
 refine ⟨_, cO p1 6, _, cO p3 6, ?_⟩
 rw [if_neg (by simp)]
 refine ⟨_, cO p1 7, _, cO p3 7, ?_⟩
 rw [if_neg (by simp)]
 refine ⟨_, cO p1 8, _, cO p3 8, ?_⟩
 rw [if_neg (by simp)]
 refine ⟨_, _, _, cO p1 0, _, _, _, cO p3 0, ?_⟩
 rw [if_neg (by simp [ns])]
 refine ⟨_, _, _, cO p1 9, _, _, _, cO p3 9, ?_⟩
 rw [if_neg (by simp [nr])]
 have two : ∀ (d i : Nat), i + d = r.n → L33_9 (look t) (d + 1) Q g1 g3 (i : Int) m2 := by
  intro d
  induction d with
  | zero =>
   intro i hi
   rw [l33_9]
   refine ⟨m2, Mem.le_refl _, _, _, _, cO p1 9, ?_⟩
   rw [if_neg (by simp; omega)]
   exact ret_intro (Mem.le_refl _) (hQ m2 l2)
  | succ d ih =>
   intro i hi
   rw [l33_9]
   refine ⟨m2, Mem.le_refl _, _, _, _, cO p1 9, ?_⟩
   rw [if_pos (by simp; omega)]
   refine ⟨Mem.le m2, Mem.le_refl _, _, _, _, held (cO p1 9), rgetH A.r A.k (by omega) (by omega) fun ad had c1 c2 => ⟨_, fun q hq => c1 q (A.r.le hq), _, fun q hq => c2 q (A.r.le hq), _, _, _, held (cO p3 9), rgetH B.r B.k (by omega) (by omega) fun ad2 had2 d1 d2 => ⟨_, fun q hq => d1 q (B.r.le hq), _, fun q hq => d2 q (B.r.le hq), ?_⟩⟩⟩
   rw [if_neg (by simp), wsucc (n := 2 ^ 20) (by omega) (by decide)]
   exact ih (i + 1) (by omega)
 suffices key : ∀ (d i : Nat), i + d = s.n → L33_4 (look t) (d + 1) Q g1 g3 (i : Int) m2 from ⟨s.n + 1, key s.n 0 (by omega)⟩
 intro d
 induction d with
 | zero =>
  intro i hi
  rw [l33_4]
  refine ⟨m2, Mem.le_refl _, _, _, _, cO p1 0, ?_⟩
  rw [if_neg (by simp; omega)]
  exact ⟨r.n + 1, two r.n 0 (by omega)⟩
 | succ d ih =>
  intro i hi
  rw [l33_4]
  refine ⟨m2, Mem.le_refl _, _, _, _, cO p1 0, ?_⟩
  rw [if_pos (by simp; omega)]
  refine ⟨Mem.le m2, Mem.le_refl _, _, _, _, held (cO p1 0), wd A.w A.n (by omega) (by omega) fun ad had c1 => ⟨_, c1, _, _, _, held (cO p3 0), wd B.w B.n (by omega) (by omega) fun ad2 had2 d1 => ⟨_, d1, ?_⟩⟩⟩
  rw [if_neg (by simp), wsucc (n := 2 ^ 20) (by omega) (by decide)]
  exact ih (i + 1) (by omega)
open Classical in
noncomputable def reC (a : Ar) : Int := if okP a then reS a else 0
def reB : Spec := fun args m Q => ∃ (s r : Sl) (a : Ar), args = [vA s r a] ∧ ArAt m s r a ∧ a.wf ∧ ∀ M, Mem.le m M → Q (.int .i64 (reC a)) M
structure StI (m0 M : Mem) (gd n : Nat) (ls : Sl) (D : List Nat) (had pl : List Int) : Prop where
 le : Mem.le m0 M
 l : ∃ row, M gd = some (rowB row 4) ∧ RLed n row had
 o : OwnL M ls pl D
 fr : ∀ b ∈ D, m0 b = none
 nd : gd ∉ D
 g0 : m0 gd = none
section
variable {m0 M : Mem} {gd n : Nat} {ls : Sl} {D : List Nat} {had pl : List Int} {p : Int}
theorem StI.mono {M' : Mem} (h : StI m0 M gd n ls D had pl) (hl : Mem.le M M') : StI m0 M' gd n ls D had pl := by
 obtain ⟨row, k1, k2⟩ := h.l
 exact ⟨Mem.le_trans h.le hl, ⟨row, hl _ _ k1, k2⟩, (Ds.rows Int).own_le hl h.o, h.fr, h.nd, h.g0⟩
theorem StI.read (h : StI m0 M gd n ls D had pl) (p0 : 0 ≤ p) (p1 : p < n) {K : Bool → Prop} (hK : K (decide (p ∈ had))) : optA (some (⟨gd, 0, none⟩ : Addr)) fun (d : Addr) => 0 ≤ p ∧ p < (n : Int) ∧ ∃ b : Bool, Mem.cell? M (d.add (p.toNat * 1)) = some (.bool b) ∧ K b := by
 obtain ⟨row, k1, k2⟩ := h.l
 refine rl (Rd.of_block (spare := []) k1 (by simp)) k2.1 p0 p1 fun ad _ hd => ⟨_, hd _ (Mem.le_refl _), ?_⟩
 have e := k2.2 p p0 p1
 by_cases c : p ∈ had
 ·rw [decide_eq_true c] at hK; rwa [e.2 c]
 ·rw [decide_eq_false c] at hK
  cases d : row.getD p.toNat false with
  | true => exact absurd (e.1 d) c
  | false => exact hK
theorem StI.set (h : StI m0 M gd n ls D had pl) (p0 : 0 ≤ p) (p1 : p < n) {K : Mem → Prop} (hK : ∀ M4 : Mem, (∀ b, b ≠ gd → M4 b = M b) → StI m0 M4 gd n ls D (p :: had) pl → K M4) : optA (some (⟨gd, 0, none⟩ : Addr)) fun (ad : Addr) => 0 ≤ p ∧ p < (n : Int) ∧ stoA M (ad.add (p.toNat * 1)) [.bool true] K := by
 obtain ⟨row, k1, k2⟩ := h.l
 refine set_led k1 p0 (by have := k2.1; omega) k2.1 fun M4 k4 e4 => hK M4 e4 ?_
 exact ⟨le_put h.le h.g0 e4, ⟨_, k4, k2.put p0 p1⟩, h.o.ext fun b hb => e4 b fun e => h.nd (e ▸ hb), h.fr, h.nd, h.g0⟩
theorem StI.app (h : StI m0 M gd n ls D (p :: pl) pl) (hl : pl.length ≤ 2 ^ 30) {K : Option Addr → Nat → Mem → Prop} (hK : ∀ (ls' : Sl) (M' : Mem) (D' : List Nat), ls'.n = ls.n + 1 → (∀ b o, b ∉ D → M b = some o → M' b = some o) → StI m0 M' gd n ls' D' (pl ++ [p]) (pl ++ [p]) → K ls'.a ls'.c M') :
  newA M (.cells #[.int .i64 p] 3 (0, 0)) fun g m => appR m ls.a ls.n ls.c (some ⟨g, 0, none⟩) 1 1 8 #[.int .i64 0] 3 K := by
 have l0 : Mem.le m0 (hid D M) := fun b o e => by
  have : b ∉ D := fun hb => by rw [h.fr b hb] at e; cases e
  rw [hid_off this]; exact h.le b o e
 obtain ⟨row, k1, k2⟩ := h.l
 refine app_int (hid_le D M) h.o (fun b hb => if_pos hb) hl fun s' M' D' hn l' o' f' => hK s' M' D' hn (fun b o hb e => l' b o (by rw [hid_off hb]; exact e)) ⟨Mem.le_trans l0 l', ⟨row, l' _ _ (by rw [hid_off h.nd]; exact k1), ?_⟩, o', fun b hb => le_none l0 (f' b hb), fun hb => ?_, h.g0⟩
 ·exact ⟨k2.1, fun x x0 x1 => (k2.2 x x0 x1).trans (by simp [or_comm])⟩
 ·have := f' gd hb
  rw [hid_off h.nd, k1] at this; cases this
end
theorem sum_b {a : Ar} (hw : a.wf) : ∀ L : List Int, 0 ≤ sumL a.ws L ∧ sumL a.ws L ≤ 65536 * L.length
 | [] => ⟨Int.le_refl _, by simp [sumL]⟩
 | p :: L => by
  have h := sum_b hw L
  have := look_b hw p
  unfold sumL
  simp only [List.length_cons]
  omega
theorem slV_len (ws : List U64) (p : Int) : (slV ws p).length = (slotsL (kdW ws p) (szW ws p)).length := List.length_map ..
theorem rc_roots (t : Tab) (h110 : look t 110 = s110) {Q : Value → Mem → Prop} {s r : Sl} {a : Ar} {m0 : Mem} {g gd : Nat} {R : List Int} (hk : OkC a) (hP : Ptr m0 g s r a) (hA : ArAt m0 s r a) (hw : a.wf)
  (hQ : ∀ (ls : Sl) (D : List Nat) (M : Mem), StI m0 M gd a.ws.length ls D R R → ∃ k : Nat, L34_13 (look t) k Q g (some ⟨gd, 0, none⟩) a.ws.length a.ws.length ls.a ls.n ls.c 0 0 M) :
  ∀ (d i : Nat) (pl : List Int) (ls : Sl) (D : List Nat) (M : Mem), i + d = a.rs.length → pl.Nodup → (∀ q ∈ pl, Reach a q) → rcL a.ws pl (a.rs.drop i) = R → StI m0 M gd a.ws.length ls D pl pl →
   L34_6 (look t) (d + 1) Q g (some ⟨gd, 0, none⟩) a.ws.length a.ws.length ls.a ls.n ls.c (i : Int) M := by
 have hr := hw.r
 have hn := hw.n
 intro d
 induction d with
 | zero =>
  intro i pl ls D M hi hd hp hR S
  have hPM := S.le _ _ hP
  have hAM := hA.le S.le
  rw [l34_6]
  refine ⟨M, Mem.le_refl _, _, _, _, cO hPM 9, ?_⟩
  rw [if_neg (by have := hAM.k; simp; omega)]
  rw [List.drop_eq_nil_of_le (by omega)] at hR
  have hR : pl = R := hR
  subst hR
  exact hQ ls D M S
 | succ d ih =>
  intro i pl ls D M hi hd hp hR S
  have hPM := S.le _ _ hP
  have hAM := hA.le S.le
  have hk9 := hAM.k
  have hlt : i < a.rs.length := by omega
  have hv : a.rs.getD (i : Int).toNat (0, 0) = a.rs[i] := by rw [List.getD_eq_getElem?_getD, Int.toNat_natCast, List.getElem?_eq_getElem hlt, Option.getD_some]
  rw [List.drop_eq_getElem_cons hlt] at hR
  rw [l34_6]
  refine ⟨M, Mem.le_refl _, _, _, _, cO hPM 9, ?_⟩
  rw [if_pos (by simp; omega)]
  refine ⟨_, _, _, cO hPM 9, rget hAM.r hk9 (by omega) (by omega) fun ad had c1 c2 => ⟨_, c1, _, c2, ?_⟩⟩
  rw [hv]
  refine via h110 ⟨a.rs[i], rfl, _, rfl, ?_⟩
  have hR : rcL a.ws (rcV a.ws pl a.rs[i]) (a.rs.drop (i + 1)) = R := hR
  have hroot : a.rs.getD i (0, 0) = a.rs[i] := by rw [List.getD_eq_getElem?_getD, List.getElem?_eq_getElem hlt, Option.getD_some]
  cases cr : isRefB a.rs[i] with
  | false =>
   rw [if_neg (by decide), wsucc (n := 2 ^ 20) (by omega) (by decide)]
   have e : rcV a.ws pl a.rs[i] = pl := if_neg (by rw [cr]; decide)
   rw [e] at hR
   exact ih (i + 1) pl ls D M (by omega) hd hp hR S
  | true =>
   rw [if_pos rfl]
   obtain ⟨w1, w2⟩ := hk.root (j := i) hlt (by rw [hroot]; exact cr)
   rw [hroot] at w1 w2
   obtain ⟨x0, x1, x2, x3⟩ := hk.at w2
   have ev : rcV a.ws pl a.rs[i] = if a.rs[i].2 ∈ pl then pl else pl ++ [a.rs[i].2] := by unfold rcV; rw [if_pos cr, w1]
   refine ⟨_, _, _, cO hPM 9, rget hAM.r hk9 (by omega) (by omega) fun ad had c1 c2 => ⟨_, c2, ?_⟩⟩
   rw [hv]
   refine S.read (by omega) (by omega) ?_
   by_cases c : a.rs[i].2 ∈ pl
   ·rw [decide_eq_true c, if_neg (by decide), wsucc (n := 2 ^ 20) (by omega) (by decide)]
    rw [ev, if_pos c] at hR
    exact ih (i + 1) pl ls D M (by omega) hd hp hR S
   ·rw [decide_eq_false c, if_pos (by decide)]
    rw [ev, if_neg c] at hR
    refine ⟨_, _, _, cO hPM 9, rget hAM.r hk9 (by omega) (by omega) fun ad had c1 c2 => ⟨_, c2, ?_⟩⟩
    rw [hv]
    refine S.set (by omega) (by omega) fun M4 e4 S4 => ?_
    have hP4 := S4.le _ _ hP
    have hA4 := hA.le S4.le
    refine ⟨_, _, _, cO hP4 9, rget hA4.r hk9 (by omega) (by omega) fun ad had c1 c2 => ⟨_, c2, ?_⟩⟩
    rw [hv]
    have hf := reach_few hk hd hp
    refine S4.app (by omega) fun ls' M' D' hn' _ S' => ?_
    rw [← hn', wsucc (n := 2 ^ 20) (by omega) (by decide)]
    refine ih (i + 1) _ ls' D' M' (by omega) ?_ ?_ hR S'
    ·rw [List.nodup_append]
     exact ⟨hd, by simp, fun x hx y hy e => c (by rw [List.mem_singleton.1 hy] at e; exact e ▸ hx)⟩
    ·intro q hq
     rcases List.mem_append.1 hq with k | k
     ·exact hp q k
     ·rw [List.mem_singleton.1 k]; exact w2
section
variable {m0 m1 M : Mem} {gd n : Nat} {ls : Sl} {D : List Nat} {had pl : List Int} {p : Int}
theorem StI.base (h : StI m0 M gd n ls D had pl) : StI (hid (gd :: D) M) M gd n ls D had pl := ⟨hid_le _ _, h.l, h.o, fun b hb => if_pos (by simp [hb]), h.nd, if_pos (by simp)⟩
theorem StI.back (h : StI m1 M gd n ls D had pl) (l : Mem.le m0 m1) : StI m0 M gd n ls D had pl := ⟨Mem.le_trans l h.le, h.l, h.o, fun b hb => le_none l (h.fr b hb), h.nd, le_none l h.g0⟩
theorem StI.under (h : StI m0 M gd n ls D had pl) : Mem.le m0 (hid (gd :: D) M) := fun b o e => by
 have : b ∉ gd :: D := fun hb => by
  rcases List.mem_cons.1 hb with k | k
  ·rw [k, h.g0] at e; cases e
  ·rw [h.fr b k] at e; cases e
 rw [hid_off this]; exact h.le b o e
end
theorem rc_slots (t : Tab) (h110 : look t 110 = s110) (h112 : look t 112 = s112) (h113 : look t 113 = s113) {Q : Value → Mem → Prop} {s r sl : Sl} {a : Ar} {m0 : Mem} {g gd nf iN : Nat} {p x6 : Int} {R : List Int} (hk : OkC a) (hP : Ptr m0 g s r a) (hA : ArAt m0 s r a) (hw : a.wf) (hp : Reach a p)
  (hsn : sl.n = (slotsL (kdW a.ws p) (szW a.ws p)).length) (hsR : Rd m0 sl.a (slotsL (kdW a.ws p) (szW a.ws p)))
  (hQ : ∀ (ls : Sl) (D : List Nat) (M : Mem), StI m0 M gd a.ws.length ls D R R → L34_13 (look t) nf Q g (some ⟨gd, 0, none⟩) a.ws.length a.ws.length ls.a ls.n ls.c x6 (IntKind.i64.wrap ((iN : Int) + 1)) M) :
  ∀ (d k : Nat) (pl : List Int) (ls : Sl) (D : List Nat) (M : Mem), k + d = sl.n → pl.Nodup → (∀ q ∈ pl, Reach a q) → pl[iN]? = some p → rcL a.ws pl ((slV a.ws p).drop k) = R → StI m0 M gd a.ws.length ls D pl pl →
   L34_19 (look t) nf (d + 1) Q g (some ⟨gd, 0, none⟩) a.ws.length a.ws.length ls.a ls.n ls.c x6 (iN : Int) sl.a sl.n sl.c (k : Int) M := by
 have hn := hw.n
 obtain ⟨o0, o1, o2, o3, o4⟩ := hk.at hp
 have hsz := ok_size hw o0
 have hl := slots_len hsz.1
 intro d
 induction d with
 | zero =>
  intro k pl ls D M hi hd hr hpi hR S
  rw [l34_19]
  refine ⟨M, Mem.le_refl _, ?_⟩
  rw [if_neg (by simp; omega)]
  rw [List.drop_eq_nil_of_le (by rw [slV_len]; omega)] at hR
  have hR : pl = R := hR
  subst hR
  exact hQ ls D M S
 | succ d ih =>
  intro k pl ls D M hi hd hr hpi hR S
  have hlt : k < (slotsL (kdW a.ws p) (szW a.ws p)).length := by omega
  have hlv : k < (slV a.ws p).length := by rw [slV_len]; exact hlt
  obtain ⟨x, hx⟩ : ∃ x, x = (slotsL (kdW a.ws p) (szW a.ws p))[k] := ⟨_, rfl⟩
  have xm : x ∈ slotsL (kdW a.ws p) (szW a.ws p) := by rw [hx]; exact List.getElem_mem _
  have xb := slots_in hsz.1 xm
  have ev0 : (slV a.ws p)[k] = valW a.ws (p + x) := by rw [hx]; simp [slV]
  rw [List.drop_eq_getElem_cons hlv, ev0] at hR
  obtain ⟨v, hv⟩ : ∃ v, v = valW a.ws (p + x) := ⟨_, rfl⟩
  rw [← hv] at hR
  have hR : rcL a.ws (rcV a.ws pl v) ((slV a.ws p).drop (k + 1)) = R := hR
  have src := hk.src (.inr ⟨p, x, hp, xm, rfl⟩)
  rw [← hv] at src
  have hin : iN < pl.length := (List.getElem?_eq_some_iff.1 hpi).1
  have hgi : gi pl (iN : Int) = p := by rw [gi_mem hin]; exact (List.getElem?_eq_some_iff.1 hpi).2
  have hgx : gi (slotsL (kdW a.ws p) (szW a.ws p)) (k : Int) = x := by rw [gi_mem hlt]; exact hx.symm
  have hf := reach_few hk hd hr
  have hPM := S.le _ _ hP
  have hAM := hA.le S.le
  have er : readV a.ws (p + x) = (v, true) := by unfold readV; rw [← hv, src.1]; rfl
  have nx : ∀ (ls' : Sl) (D' : List Nat) (M' : Mem), StI m0 M' gd a.ws.length ls' D' (rcV a.ws pl v) (rcV a.ws pl v) → L34_19 (look t) nf (d + 1) Q g (some ⟨gd, 0, none⟩) a.ws.length a.ws.length ls'.a ls'.n ls'.c x6 (iN : Int) sl.a sl.n sl.c (IntKind.i64.wrap ((k : Int) + 1)) M' := by
   intro ls' D' M' S'
   rw [wsucc (n := 128) (by omega) (by decide)]
   have h1 : (rcV a.ws pl v).Nodup := rcV_nd hd
   refine ih (k + 1) _ ls' D' M' (by omega) h1 ?_ ?_ hR S'
   ·unfold rcV
    split
    ·rename_i c
     split
     ·exact hr
     ·intro q hq
      rcases List.mem_append.1 hq with e | e
      ·exact hr q e
      ·rw [List.mem_singleton.1 e, hv]
       rw [hv] at c
       exact Reach.slot p x hp xm c
    ·exact hr
   ·obtain ⟨tt, e⟩ := rcV_pre a.ws pl v
    rw [e, List.getElem?_append_left hin]
    exact hpi
  have tail : ∀ (gv : Nat) (M3 : Mem), Mem.le M M3 → M3 gv = some (.cells #[.int .i64 v.1, .int .i64 v.2] 75 (0, 0)) → ∃ y177 : Int, ci M3 gv 0 y177 ∧ ∃ y179 : Int, ci M3 gv 1 y179 ∧ look t 110 [.agg #[.int .i64 y177, .int .i64 y179]] M3 fun v181 m182 => ∃ b : Bool, v181 = .bool b ∧ if (!b) = true then L34_19 (look t) nf (d + 1) Q g (some ⟨gd, 0, none⟩) a.ws.length a.ws.length ls.a ls.n ls.c x6 (iN : Int) sl.a sl.n sl.c (IntKind.i64.wrap ((k : Int) + 1)) m182 else rA m182 g fun w0 => ∃ y208 : Int, ci m182 gv 1 y208 ∧ look t 113 [.agg w0.toArray, .int .i64 y208] m182 fun v210 m211 => ∃ y212 : Int, v210 = .int .i64 y212 ∧ optA (some (⟨gd, 0, none⟩ : Addr)) fun (d213 : Addr) => 0 ≤ y212 ∧ y212 < ((a.ws.length : Nat) : Int) ∧ ∃ b214 : Bool, Mem.cell? m211 (d213.add (y212.toNat * 1)) = some (.bool b214) ∧ if (!b214) = true then optA (some (⟨gd, 0, none⟩ : Addr)) fun (d216 : Addr) => 0 ≤ y212 ∧ y212 < ((a.ws.length : Nat) : Int) ∧ stoA m211 (d216.add (y212.toNat * 1)) [.bool true] fun m217 => newA m217 (.cells #[.int .i64 y212] 3 (0, 0)) fun g218 m219 => appR m219 ls.a ls.n ls.c (some ⟨g218, 0, none⟩) 1 1 8 #[.int .i64 0] 3 fun ra220 rc221 m222 => L34_19 (look t) nf (d + 1) Q g (some ⟨gd, 0, none⟩) a.ws.length a.ws.length ra220 (ls.n + 1) rc221 x6 (iN : Int) sl.a sl.n sl.c (IntKind.i64.wrap ((k : Int) + 1)) m222 else L34_19 (look t) nf (d + 1) Q g (some ⟨gd, 0, none⟩) a.ws.length a.ws.length ls.a ls.n ls.c x6 (iN : Int) sl.a sl.n sl.c (IntKind.i64.wrap ((k : Int) + 1)) m211 := by
   intro gv M3 l3 h3
   have S3 := S.mono l3
   refine ⟨_, cO h3 0, _, cO h3 1, via h110 ⟨v, rfl, _, rfl, ?_⟩⟩
   cases cr : isRefB v with
   | false =>
    rw [if_pos (by decide)]
    have e : rcV a.ws pl v = pl := if_neg (by rw [cr]; decide)
    rw [e] at nx
    exact nx ls D M3 S3
   | true =>
    rw [if_neg (by decide)]
    obtain ⟨y0, y1, y2⟩ := src.2 cr
    have hrw : Reach a (whereW a.ws v.2) := by rw [hv]; rw [hv] at cr; exact Reach.slot p x hp xm cr
    obtain ⟨z0, z1, z2, z3, _⟩ := hk.at hrw
    have hP3 := S3.le _ _ hP
    have hA3 := hA.le S3.le
    refine Ptr.rd hP3 ⟨_, cO h3 1, via h113 ⟨s, r, a, _, rfl, ⟨hA3, hw, by omega, y1⟩, _, rfl, ?_⟩⟩
    have ev : rcV a.ws pl v = if whereW a.ws v.2 ∈ pl then pl else pl ++ [whereW a.ws v.2] := by unfold rcV; rw [if_pos cr]
    rw [ev] at nx
    refine S3.read (by omega) (by omega) ?_
    by_cases c : whereW a.ws v.2 ∈ pl
    ·rw [decide_eq_true c, if_neg (by decide)]
     rw [if_pos c] at nx
     exact nx ls D M3 S3
    ·rw [decide_eq_false c, if_pos (by decide)]
     rw [if_neg c] at nx
     refine S3.set (by omega) (by omega) fun M4 e4 S4 => S4.app (by omega) fun ls' M' D' hn' _ S' => ?_
     rw [← hn']
     exact nx ls' D' M' S'
  rw [l34_19]
  refine ⟨M, Mem.le_refl _, ?_⟩
  rw [if_pos (by simp; omega)]
  refine ⟨Mem.le M, Mem.le_refl _, _, _, _, fun q hq => cO (hq _ _ hPM) 0, ?_⟩
  refine li S.o.rd S.o.1.symm (by omega) (by have := S.o.1; omega) fun ad had hdd => ⟨_, hdd, ?_⟩
  refine li (hsR.le S.le) hsn.symm (by omega) (by omega) fun ad' had' hd' => ⟨_, hd', ?_⟩
  rw [hgi, hgx, w64 (x := p + x) (by omega) (by omega)]
  constructor
  ·refine via h112 ⟨s, a.ws, _, rfl, hAM.n, hAM.w, hw.w, hn, by omega, by omega, _, _, _, rfl, Mem.le_refl _, newA_intro fun g2 m2 hg2 e2 hb2 hle2 => ⟨hle2, sto (c := #[.int .i64 0, .int .i64 0]) (t := 75) hb2 rfl (by simp) fun m3 e3 h3 hne3 => ?_⟩⟩
   rw [er] at h3
   have l3 : Mem.le M m3 := le_other hle2 hg2 hne3
   exact ⟨l3, tail g2 m3 l3 h3⟩
  ·refine newA_intro fun g2 m2 hg2 e2 hb2 hle2 => ⟨hle2, via h112 ⟨s, a.ws, _, rfl, hAM.n, hAM.w.le hle2, hw.w, hn, by omega, by omega, _, _, _, rfl, hle2, sto (c := #[.int .i64 0, .int .i64 0]) (t := 75) hb2 rfl (by simp) fun m3 e3 h3 hne3 => ?_⟩⟩
   rw [er] at h3
   have l3 : Mem.le M m3 := le_other hle2 hg2 hne3
   exact ⟨l3, tail g2 m3 l3 h3⟩
theorem sum_snoc (ws : List U64) (pl : List Int) {i : Nat} (h : i < pl.length) : sumL ws (pl.take (i + 1)) = sumL ws (pl.take i) + szW ws pl[i] + 1 := by
 rw [List.take_succ_eq_append_getElem h, sumL_app]
 show _ + (szW ws pl[i] + 1 + 0) = _
 omega
theorem rc_all (t : Tab) (h110 : look t 110 = s110) (h112 : look t 112 = s112) (h113 : look t 113 = s113) (h90 : look t 90 = s90) (h111 : look t 111 = s111) {Q : Value → Mem → Prop} {s r : Sl} {a : Ar} {m0 : Mem} {g gd : Nat} {R : List Int} (hk : OkC a) (hP : Ptr m0 g s r a) (hA : ArAt m0 s r a) (hw : a.wf)
  (hQ : ∀ M : Mem, Mem.le m0 M → Q (.int .i64 (sumL a.ws R)) M) :
  ∀ (f i : Nat) (pl : List Int) (ls : Sl) (D : List Nat) (M : Mem), a.ws.length < i + f → i ≤ pl.length → pl.Nodup → (∀ q ∈ pl, Reach a q) → rcF a.ws f i pl = R → StI m0 M gd a.ws.length ls D pl pl →
   L34_13 (look t) (f + 1) Q g (some ⟨gd, 0, none⟩) a.ws.length a.ws.length ls.a ls.n ls.c (sumL a.ws (pl.take i)) (i : Int) M := by
 have hn := hw.n
 intro f
 induction f with
 | zero =>
  intro i pl ls D M hi hl hd hr hR S
  have hf := reach_few hk hd hr
  rw [l34_13]
  refine ⟨M, Mem.le_refl _, ?_⟩
  have sn := S.o.1
  rw [if_neg (by simp; omega), List.take_of_length_le (by omega)]
  have hR : pl = R := hR
  subst hR
  exact ret_intro (Mem.le_refl _) (hQ M S.le)
 | succ f ih =>
  intro i pl ls D M hi hl hd hr hR S
  have hf := reach_few hk hd hr
  have sn := S.o.1
  rw [l34_13]
  refine ⟨M, Mem.le_refl _, ?_⟩
  unfold rcF at hR
  by_cases c : i < pl.length
  case neg =>
   rw [dif_neg c] at hR
   rw [if_neg (by simp; omega), List.take_of_length_le (by omega)]
   subst hR
   exact ret_intro (Mem.le_refl _) (hQ M S.le)
  rw [dif_pos c] at hR
  rw [if_pos (by simp; omega)]
  have hPM := S.le _ _ hP
  have hAM := hA.le S.le
  have hp : Reach a pl[i] := hr _ (List.getElem_mem _)
  have hgi : gi pl (i : Int) = pl[i] := gi_mem c
  have hpi : pl[i]? = some pl[i] := List.getElem?_eq_getElem c
  have e1 := sum_snoc a.ws pl c
  obtain ⟨p, hpe⟩ : ∃ p, p = pl[i] := ⟨_, rfl⟩
  rw [← hpe] at hp hgi hpi hR e1
  obtain ⟨o0, o1, o2, o3, _⟩ := hk.at hp
  have hsz := ok_size hw o0
  have hb := look_b hw p
  have sb := sum_b hw (pl.take i)
  have tl : (pl.take i).length ≤ 2 ^ 20 := by rw [List.length_take]; omega
  have tail : ∀ (gh : Nat) (M3 : Mem), Mem.le M M3 → M3 gh = some (.cells #[.int .i64 (kdW a.ws p), .int .i64 (szW a.ws p), .int .i64 (serW a.ws p)] 33 (0, 0)) → ∃ y1 : Int, ci M3 gh 1 y1 ∧ ∃ y2 : Int, ci M3 gh 0 y2 ∧ ∃ y3 : Int, ci M3 gh 1 y3 ∧ look t 111 [.int .i64 y2, .int .i64 y3] M3 fun v m' => ∃ (ra : Option Addr) (rn rc : Nat), v = .slice ra rn rc ∧ ∃ k : Nat, L34_19 (look t) (f + 1) k Q g (some ⟨gd, 0, none⟩) a.ws.length a.ws.length ls.a ls.n ls.c (IntKind.i64.wrap (IntKind.i64.wrap (sumL a.ws (pl.take i) + y1) + 1)) (i : Int) ra rn rc 0 m' := by
   intro gh M3 l3 h3
   refine ⟨_, cO h3 1, _, cO h3 0, _, cO h3 1, via h111 ⟨_, _, rfl, by omega, by omega, hsz.1, fun s' M4 E l4 hO4 f4 => ⟨_, _, _, rfl, s'.n + 1, ?_⟩⟩⟩
   have S4 := (S.mono l3).mono l4
   have hE : ∀ b ∈ E, b ∉ gd :: D := fun b hb h => by
    have h0 := le_none l3 (f4 b hb)
    rcases List.mem_cons.1 h with k | k
    ·obtain ⟨row, k1, _⟩ := S.l; rw [k] at h0; rw [h0] at k1; cases k1
    ·obtain ⟨o, ho⟩ := S.o.live b k; rw [h0] at ho; cases ho
   have hR4 : Rd (hid (gd :: D) M4) s'.a (slotsL (kdW a.ws p) (szW a.ws p)) := (hO4.ext fun b hb => hid_off (hE b hb)).rd
   rw [w64 (x := sumL a.ws (pl.take i) + szW a.ws p) (by omega) (by omega), w64 (x := sumL a.ws (pl.take i) + szW a.ws p + 1) (by omega) (by omega)]
   refine rc_slots t h110 h112 h113 (sl := s') (p := p) (iN := i) (m0 := hid (gd :: D) M4) (R := rcL a.ws pl (slV a.ws p)) hk (S4.under _ _ hP) (hA.le S4.under) hw hp hO4.1 hR4 (fun ls2 D2 M5 S5 => ?_) s'.n 0 pl ls D M4 (by omega) hd hr hpi rfl S4.base
   obtain ⟨tt, et⟩ := rcL_pre a.ws (slV a.ws p) pl
   have hd2 : (rcL a.ws pl (slV a.ws p)).Nodup := rcL_nd _ _ hd
   have e2 : sumL a.ws (pl.take i) + szW a.ws p + 1 = sumL a.ws ((rcL a.ws pl (slV a.ws p)).take (i + 1)) := by rw [et, List.take_append_of_le_length (by omega), e1]
   rw [wsucc (n := 2 ^ 20) (by omega) (by decide), e2]
   exact ih (i + 1) _ ls2 D2 M5 (by omega) (by rw [et, List.length_append]; omega) hd2 (rcL_re _ _ hr (slV_re hp)) hR (S5.back S4.under)
  refine ⟨Mem.le M, Mem.le_refl _, Ptr.hd (fun q hq => hq _ _ hPM) ?_⟩
  refine li S.o.rd S.o.1.symm (by omega) (by omega) fun ad had hdd => ⟨_, hdd, ?_⟩
  rw [hgi]
  constructor
  ·refine via h90 ⟨s, r, a, p, rfl, ⟨hAM, hw, by omega, by omega⟩, _, _, _, rfl, Mem.le_refl _, newA_intro fun g2 m2 hg2 e2 hb2 hle2 => ⟨hle2, sto (c := #[.int .i64 0, .int .i64 0, .int .i64 0]) (t := 33) hb2 rfl (by simp) fun m3 e3 h3 hne3 => ?_⟩⟩
   exact tail g2 m3 (le_other hle2 hg2 hne3) h3
  ·refine newA_intro fun g2 m2 hg2 e2 hb2 hle2 => ⟨hle2, via h90 ⟨s, r, a, p, rfl, ⟨hAM.le hle2, hw, by omega, by omega⟩, _, _, _, rfl, hle2, sto (c := #[.int .i64 0, .int .i64 0, .int .i64 0]) (t := 33) hb2 rfl (by simp) fun m3 e3 h3 hne3 => ?_⟩⟩
   exact tail g2 m3 (le_other hle2 hg2 hne3) h3
theorem row_false {m M : Mem} {gd gl n : Nat} (hd : M gd = some (.cells (zeroRow #[.bool false] (Int.toNat ((n : Nat) : Int) * 1)) 4 (0, 0))) (hl : M gl = some (.cells #[] 3 (0, 0))) (le : Mem.le m M) (d0 : m gd = none) (l0 : m gl = none) (ne : gd ≠ gl) : StI m M gd n ⟨some ⟨gl, 0, none⟩, 0, 0⟩ [gl] [] [] := by
 have hz := zeroRow_eq false n
 refine ⟨le, ⟨List.replicate n false, ?_, ?_⟩, ⟨rfl, .inr ⟨gl, 3, [], rfl, rfl, hl, rfl⟩⟩, fun b hb => by rw [List.mem_singleton.1 hb]; exact l0, fun h => ne (List.mem_singleton.1 h), d0⟩
 ·rw [hd, Int.toNat_natCast]
  unfold rowB
  rw [List.append_nil]
  exact congrArg (fun c => some (Obj.cells c 4 (0, 0))) hz
 ·refine ⟨List.length_replicate .., fun x x0 x1 => ?_⟩
  rw [List.getD_eq_getElem?_getD, List.getElem?_replicate]
  split <;> simp
def s34 : Spec := reB
theorem f34 (t : Tab) (h20 : look t 20 = s20) (h110 : look t 110 = s110) (h112 : look t 112 = s112) (h113 : look t 113 = s113) (h90 : look t 90 = s90) (h111 : look t 111 = s111) : Mt t s34 kp34 Tryz.f34 := by
 rintro args m Q ⟨s, r, a, rfl, hA, hw, hQ⟩
 show FA _ _ _ _ [aG s r a] m Q
 rw [e34]
 have hn := hw.n
 refine newA_intro fun g1 m1 hg1 e1 hb1 hle1 => ?_
 have p1 : Ptr m1 g1 s r a := hb1
 have A1 := hA.le hle1
 refine p1.rd (via h20 ⟨s, r, a, rfl, A1, hw, _, rfl, ?_⟩)
 by_cases k : okP a
 case neg =>
  rw [pB_no k, if_pos (by decide)]
  have e : reC a = 0 := if_neg k
  rw [e] at hQ
  exact ret_intro (Mem.le_refl _) (hQ m1 hle1)
 rw [pB_yes k, if_neg (by decide)]
 have e : reC a = reS a := if_pos k
 have hk := okC_of hw k
 rw [e, re_eq (rc_RL hk)] at hQ
 have hsn := A1.n
 refine ⟨_, _, _, cO p1 0, by omega, by omega, by omega, by omega, newA_intro fun gd m2 hgd e2 hb2 hle2 => newA_intro fun gl m3 hgl e3 hb3 hle3 => ?_⟩
 have ne : gd ≠ gl := fun e => by rw [e, hgl] at hb2; cases hb2
 have S := row_false (m := m1) (hle3 _ _ hb2) hb3 (Mem.le_trans hle2 hle3) hgd (le_none hle2 hgl) ne
 rw [← hsn] at S
 rw [Int.toNat_natCast, ← hsn]
 refine ⟨a.rs.length + 1, ?_⟩
 have hz := rc_roots t (Q := Q) (gd := gd) h110 (m0 := m1) (R := rcL a.ws [] a.rs) hk p1 A1 hw (fun ls D M S' => ⟨a.ws.length + 2, by
  have h := rc_all t h110 h112 h113 h90 h111 (R := rcA a) hk p1 A1 hw (fun M2 l2 => hQ M2 (Mem.le_trans hle1 l2)) (a.ws.length + 1) 0 _ ls D M (by omega) (Nat.zero_le _) (rcL_nd _ _ List.nodup_nil) (rcL_re _ _ (by simp) (rs_re a)) (by unfold rcA; rfl) S'
  rw [List.take_zero] at h
  exact h⟩) a.rs.length 0 [] ⟨some ⟨gl, 0, none⟩, 0, 0⟩ [gl] m3 (by omega) List.nodup_nil (by simp) (by rw [List.drop_zero]) S
 exact hz
theorem nx_put {M : Mem} {s r : Sl} {b : Ar} {D : List Nat} {K : Nat → Mem → Prop} (w : Wo M s r b D) (hK : ∀ (g : Nat) (m' : Mem), M g = none → Mem.le M m' → Im m' g s r b D → K g m') : newA M (.cells zAr 27 (0, 0)) fun g m1 => stoA m1 ⟨g, 0, none⟩ (lA s r b) fun m2 => K g m2 :=
 newA_intro fun g m5 hg e5 hb5 hle5 => (zB.of hb5).sto fun m6 ne p => hK g m6 hg (le_other hle5 hg ne) ⟨p, w.le (le_other hle5 hg ne), w.fresh hg⟩
theorem kq_flip {a : Ar} (h : Kq a) : Kq (fpA a).1 := by
 unfold fpA
 split
 ·rename_i c
  obtain ⟨T1, k⟩ := ok_i0 h.1 c.1 c.2
  obtain ⟨g1, g2, _⟩ := flip_gd k
  exact g1.kp.kq
 ·exact h
def s30 : Spec := drS
theorem f30 (t : Tab) (h83 : look t 83 = s83) (h84 : look t 84 = s84) : Mt t s30 kp30 Tryz.f30 := by
 rintro args m Q ⟨⟨ca, cn, cc⟩, rfl, hA, hQ⟩
 show FA _ _ _ _ [.slice ca cn cc] m Q
 rw [e30]
 exact dr_ok t h83 h84 hA hQ
theorem reC_sm {a b : Ar} (hw : a.wf) (h : okP a) (hb : okP b) (S : Sm a b) : reC b = reC a := by
 have e1 : reC a = reS a := if_pos h
 have e2 : reC b = reS b := if_pos hb
 rw [e1, e2, re_sm (okC_of hw h) S]
def s5 : Spec := lwS
theorem f5 (t : Tab) (h17 : look t 17 = s17) (h30 : look t 30 = s30) (h31 : look t 31 = s31) (h32 : look t 32 = s32) (h33 : look t 33 = s33) (h21 : look t 21 = s21) (h27 : look t 27 = s27) (h34 : look t 34 = s34) : Mt t s5 kp5 Tryz.f5 := by
 rintro args m Q ⟨⟨ca, cn, cc⟩, bs, rfl, hR, hn, hby, hQ⟩
 show FA _ _ _ _ [.slice ca cn cc] m Q
 rw [e5]
 refine law_in t h17 h30 (sc := ⟨ca, cn, cc⟩) hR hn hQ fun g s r a D M l im _ _ hq _ => ?_
 have hw := hq.1
 have wb := (kq_flip hq).1
 refine im.p.rd (via h31 ⟨s, r, a, rfl, im.w.at, hw, fun s1 r1 D1 M1 l1 w1 f1 => wB_of (nx_put w1 fun g1 M2 hg1 l2 im1 => ?_)⟩)
 have im2 := im.le (Mem.le_trans l1 l2)
 refine im2.p.rd (via h32 ⟨s, r, a, rfl, im2.w.at, hw, fun s3 r3 D3 M3 l3 w3 f3 => wB_of (nx_put w3 fun g3 M4 hg3 l4 im3 => ?_)⟩)
 have im4 := im2.le (Mem.le_trans l3 l4)
 have im5 := im1.le (Mem.le_trans l3 l4)
 have L4 := Mem.le_trans l (Mem.le_trans l1 (Mem.le_trans l2 (Mem.le_trans l3 l4)))
 rw [if_neg (by simp)]
 refine im5.p.rd (im3.p.rd (via h33 ⟨s1, r1, s3, r3, _, rfl, im5.w.at, im3.w.at, wb, fun M6 l6 => ⟨_, rfl, ?_⟩⟩))
 rw [if_neg (by decide)]
 have im6 := im5.le l6
 have im7 := im4.le l6
 have L6 := Mem.le_trans L4 l6
 by_cases k : okP a ∧ a.cyc = false
 case neg =>
  have e : fpA a = (a, false) := if_neg k
  rw [e] at im6
  rw [e]
  rw [if_pos (show (!(a, false).2) = true from rfl)]
  exact im6.p.rd (im7.p.rd (via h33 ⟨s1, r1, s, r, a, rfl, im6.w.at, im7.w.at, hw, fun M8 l8 => ⟨_, rfl, ret_intro (Mem.le_refl _) (hQ M8 (Mem.le_trans L6 l8))⟩⟩))
 have e : fpA a = (flipA a, true) := if_pos k
 rw [e] at im6 wb
 rw [e, if_neg (show ¬ (!(flipA a, true).2) = true from by simp)]
 obtain ⟨T1, i0⟩ := ok_i0 hw k.1 k.2
 obtain ⟨gd, zd, td⟩ := flip_gd i0
 obtain ⟨od, sm⟩ := ok_flip hw k.1 k.2
 have fn := flip_n i0
 have t0 := i0.N.sm.t0
 have t1 := i0.N.sm.t1
 refine ⟨Mem.le M6, Mem.le_refl _, Ptr.hd (fun q hq => hq _ _ im6.p) ?_⟩
 refine via h21 ⟨s1, r1, _, rfl, im6.w.at, wb, _, rfl, Mem.le_refl _, ?_⟩
 rw [pB_yes od, if_pos rfl]
 refine ⟨_, fun q hq => cO (hq _ _ im6.p) 2, _, fun q hq => cO (hq _ _ im7.p) 2, ?_⟩
 rw [w64 (x := (1 : Int) - a.to) (by omega) (by omega), if_pos (by simpa using td)]
 refine Ptr.hd (fun q hq => hq _ _ im6.p) ⟨_, _, _, fun q hq => cO (hq _ _ im7.p) 9, ?_⟩
 refine via h27 ⟨s1, r1, _, rfl, im6.w.at, wb, fun sB MB DB lB hOB _ => ⟨_, _, _, rfl, lB, ?_⟩⟩
 obtain ⟨ba, bn, bc⟩ := sB
 have hnB : bn = (objsA (flipA a)).length := hOB.1
 have eB : objsA (flipA a) = objsL (flipA a) := if_pos od
 rw [eB] at hnB
 unfold nO at fn
 have kr := im.w.at.k
 rw [if_pos (by simp; omega)]
 refine ⟨_, fun q hq => cO (hq _ _ im6.p) 8, _, fun q hq => cO (hq _ _ im7.p) 8, ?_⟩
 rw [if_pos (by simpa using zd.ser)]
 refine Ptr.hd (fun q hq => hq _ _ im6.p) (Ptr.hd (fun q hq => hq _ _ im7.p) ?_)
 have im8 := im6.le lB
 have im9 := im7.le lB
 refine via h34 ⟨s1, r1, _, rfl, im8.w.at, wb, fun M10 l10 => ⟨_, rfl, Mem.le_trans lB l10, ?_⟩⟩
 have imA := im9.le l10
 refine via h34 ⟨s, r, a, rfl, imA.w.at, hw, fun M11 l11 => ⟨_, rfl, Mem.le_trans lB (Mem.le_trans l10 l11), ?_⟩⟩
 rw [reC_sm hw k.1 od sm, beq_self_eq_true]
 exact ret_intro (Mem.le_refl _) (hQ M11 (Mem.le_trans L6 (Mem.le_trans lB (Mem.le_trans l10 l11))))
def t1 : Tab := (17, s17) :: []
theorem a1 : AllMeets Tryz.prog t1 := (allMeets_nil Tryz.prog).add mixed kp17 (show Tryz.prog.funcs[17]? = some Tryz.f17 from Tryz.func17) (by kernel_rfl) (f17 [])
def t2 : Tab := (83, s83) :: t1
theorem a2 : AllMeets Tryz.prog t2 := a1.add mixed kp83 (show Tryz.prog.funcs[83]? = some Tryz.f83 from Tryz.func83) (by kernel_rfl) (f83 t1)
def t3 : Tab := (204, s204) :: t2
theorem a3 : AllMeets Tryz.prog t3 := a2.add mixed kp204 (show Tryz.prog.funcs[204]? = some Tryz.f204 from Tryz.func204) (by kernel_rfl) (f204 t2)
def t4 : Tab := (144, s144) :: t3
theorem a4 : AllMeets Tryz.prog t4 := a3.add mixed kp144 (show Tryz.prog.funcs[144]? = some Tryz.f144 from Tryz.func144) (by kernel_rfl) (f144 t3 rfl)
def t5 : Tab := (114, s114) :: t4
theorem a5 : AllMeets Tryz.prog t5 := a4.add mixed kp114 (show Tryz.prog.funcs[114]? = some Tryz.f114 from Tryz.func114) (by kernel_rfl) (f114 t4 rfl)
def t6 : Tab := (169, s169) :: t5
theorem a6 : AllMeets Tryz.prog t6 := a5.add mixed kp169 (show Tryz.prog.funcs[169]? = some Tryz.f169 from Tryz.func169) (by kernel_rfl) (f169 t5)
def t7 : Tab := (115, s115) :: t6
theorem a7 : AllMeets Tryz.prog t7 := a6.add mixed kp115 (show Tryz.prog.funcs[115]? = some Tryz.f115 from Tryz.func115) (by kernel_rfl) (f115 t6 rfl)
def t8 : Tab := (103, s103) :: t7
theorem a8 : AllMeets Tryz.prog t8 := a7.add mixed kp103 (show Tryz.prog.funcs[103]? = some Tryz.f103 from Tryz.func103) (by kernel_rfl) (f103 t7)
def t9 : Tab := (219, s219) :: t8
theorem a9 : AllMeets Tryz.prog t9 := a8.add mixed kp219 (show Tryz.prog.funcs[219]? = some Tryz.f219 from Tryz.func219) (by kernel_rfl) (f219 t8 rfl)
def t10 : Tab := (132, s132) :: t9
theorem a10 : AllMeets Tryz.prog t10 := a9.add mixed kp132 (show Tryz.prog.funcs[132]? = some Tryz.f132 from Tryz.func132) (by kernel_rfl) (f132 t9 rfl)
def t11 : Tab := (140, s140) :: t10
theorem a11 : AllMeets Tryz.prog t11 := a10.add mixed kp140 (show Tryz.prog.funcs[140]? = some Tryz.f140 from Tryz.func140) (by kernel_rfl) (f140 t10 rfl)
def t12 : Tab := (195, s195) :: t11
theorem a12 : AllMeets Tryz.prog t12 := a11.add mixed kp195 (show Tryz.prog.funcs[195]? = some Tryz.f195 from Tryz.func195) (by kernel_rfl) (f195 t11)
def t13 : Tab := (108, s108) :: t12
theorem a13 : AllMeets Tryz.prog t13 := a12.add mixed kp108 (show Tryz.prog.funcs[108]? = some Tryz.f108 from Tryz.func108) (by kernel_rfl) (f108 t12 rfl)
def t14 : Tab := (105, s105) :: t13
theorem a14 : AllMeets Tryz.prog t14 := a13.add mixed kp105 (show Tryz.prog.funcs[105]? = some Tryz.f105 from Tryz.func105) (by kernel_rfl) (f105 t13)
def t15 : Tab := (171, s171) :: t14
theorem a15 : AllMeets Tryz.prog t15 := a14.add mixed kp171 (show Tryz.prog.funcs[171]? = some Tryz.f171 from Tryz.func171) (by kernel_rfl) (f171 t14)
def t16 : Tab := (86, s86) :: t15
theorem a16 : AllMeets Tryz.prog t16 := a15.add mixed kp86 (show Tryz.prog.funcs[86]? = some Tryz.f86 from Tryz.func86) (by kernel_rfl) (f86 t15 rfl rfl rfl)
def t17 : Tab := (23, s23) :: t16
theorem a17 : AllMeets Tryz.prog t17 := a16.add mixed kp23 (show Tryz.prog.funcs[23]? = some Tryz.f23 from Tryz.func23) (by kernel_rfl) (f23 t16 rfl)
def t18 : Tab := (206, s206) :: t17
theorem a18 : AllMeets Tryz.prog t18 := a17.add mixed kp206 (show Tryz.prog.funcs[206]? = some Tryz.f206 from Tryz.func206) (by kernel_rfl) (f206 t17 rfl)
def t19 : Tab := (172, s172) :: t18
theorem a19 : AllMeets Tryz.prog t19 := a18.add mixed kp172 (show Tryz.prog.funcs[172]? = some Tryz.f172 from Tryz.func172) (by kernel_rfl) (f172 t18 rfl)
def t20 : Tab := (173, s173) :: t19
theorem a20 : AllMeets Tryz.prog t20 := a19.add mixed kp173 (show Tryz.prog.funcs[173]? = some Tryz.f173 from Tryz.func173) (by kernel_rfl) (f173 t19)
def t21 : Tab := (90, s90) :: t20
theorem a21 : AllMeets Tryz.prog t21 := a20.add mixed kp90 (show Tryz.prog.funcs[90]? = some Tryz.f90 from Tryz.func90) (by kernel_rfl) (f90 t20 rfl)
def t22 : Tab := (87, s87) :: t21
theorem a22 : AllMeets Tryz.prog t22 := a21.add mixed kp87 (show Tryz.prog.funcs[87]? = some Tryz.f87 from Tryz.func87) (by kernel_rfl) (f87 t21 rfl rfl rfl rfl rfl)
def t23 : Tab := (88, s88) :: t22
theorem a23 : AllMeets Tryz.prog t23 := a22.add mixed kp88 (show Tryz.prog.funcs[88]? = some Tryz.f88 from Tryz.func88) (by kernel_rfl) (f88 t22 rfl)
def t24 : Tab := (180, s180) :: t23
theorem a24 : AllMeets Tryz.prog t24 := a23.add mixed kp180 (show Tryz.prog.funcs[180]? = some Tryz.f180 from Tryz.func180) (by kernel_rfl) (f180 t23)
def t25 : Tab := (110, s110) :: t24
theorem a25 : AllMeets Tryz.prog t25 := a24.add mixed kp110 (show Tryz.prog.funcs[110]? = some Tryz.f110 from Tryz.func110) (by kernel_rfl) (f110 t24 rfl)
def t26 : Tab := (92, s92) :: t25
theorem a26 : AllMeets Tryz.prog t26 := a25.add mixed kp92 (show Tryz.prog.funcs[92]? = some Tryz.f92 from Tryz.func92) (by kernel_rfl) (f92 t25 rfl rfl)
def t27 : Tab := (112, s112) :: t26
theorem a27 : AllMeets Tryz.prog t27 := a26.add mixed kp112 (show Tryz.prog.funcs[112]? = some Tryz.f112 from Tryz.func112) (by kernel_rfl) (f112 t26 rfl)
def t28 : Tab := (113, s113) :: t27
theorem a28 : AllMeets Tryz.prog t28 := a27.add mixed kp113 (show Tryz.prog.funcs[113]? = some Tryz.f113 from Tryz.func113) (by kernel_rfl) (f113 t27 rfl)
def t29 : Tab := (93, s93) :: t28
theorem a29 : AllMeets Tryz.prog t29 := a28.add mixed kp93 (show Tryz.prog.funcs[93]? = some Tryz.f93 from Tryz.func93) (by kernel_rfl) (f93 t28 rfl rfl rfl rfl)
def t30 : Tab := (175, s175) :: t29
theorem a30 : AllMeets Tryz.prog t30 := a29.add mixed kp175 (show Tryz.prog.funcs[175]? = some Tryz.f175 from Tryz.func175) (by kernel_rfl) (f175 t29)
def t31 : Tab := (174, s174) :: t30
theorem a31 : AllMeets Tryz.prog t31 := a30.add mixed kp174 (show Tryz.prog.funcs[174]? = some Tryz.f174 from Tryz.func174) (by kernel_rfl) (f174 t30 rfl rfl)
def t32 : Tab := (176, s176) :: t31
theorem a32 : AllMeets Tryz.prog t32 := a31.add mixed kp176 (show Tryz.prog.funcs[176]? = some Tryz.f176 from Tryz.func176) (by kernel_rfl) (f176 t31 rfl rfl rfl)
def t33 : Tab := (111, s111) :: t32
theorem a33 : AllMeets Tryz.prog t33 := a32.add mixed kp111 (show Tryz.prog.funcs[111]? = some Tryz.f111 from Tryz.func111) (by kernel_rfl) (f111 t32 rfl)
def t34 : Tab := (89, s89) :: t33
theorem a34 : AllMeets Tryz.prog t34 := a33.add mixed kp89 (show Tryz.prog.funcs[89]? = some Tryz.f89 from Tryz.func89) (by kernel_rfl) (f89 t33 rfl rfl rfl rfl rfl rfl rfl rfl)
def t35 : Tab := (178, s178) :: t34
theorem a35 : AllMeets Tryz.prog t35 := a34.add mixed kp178 (show Tryz.prog.funcs[178]? = some Tryz.f178 from Tryz.func178) (by kernel_rfl) (f178 t34 rfl)
def t36 : Tab := (142, s142) :: t35
theorem a36 : AllMeets Tryz.prog t36 := a35.add mixed kp142 (show Tryz.prog.funcs[142]? = some Tryz.f142 from Tryz.func142) (by kernel_rfl) (f142 t35 rfl)
def t37 : Tab := (151, s151) :: t36
theorem a37 : AllMeets Tryz.prog t37 := a36.add mixed kp151 (show Tryz.prog.funcs[151]? = some Tryz.f151 from Tryz.func151) (by kernel_rfl) (f151 t36 rfl rfl rfl)
def t38 : Tab := (221, s221) :: t37
theorem a38 : AllMeets Tryz.prog t38 := a37.add mixed kp221 (show Tryz.prog.funcs[221]? = some Tryz.f221 from Tryz.func221) (by kernel_rfl) (f221 t37 rfl rfl rfl)
def t39 : Tab := (179, s179) :: t38
theorem a39 : AllMeets Tryz.prog t39 := a38.add mixed kp179 (show Tryz.prog.funcs[179]? = some Tryz.f179 from Tryz.func179) (by kernel_rfl) (f179 t38 rfl rfl rfl)
def t40 : Tab := (177, s177) :: t39
theorem a40 : AllMeets Tryz.prog t40 := a39.add mixed kp177 (show Tryz.prog.funcs[177]? = some Tryz.f177 from Tryz.func177) (by kernel_rfl) (f177 t39 rfl)
def t41 : Tab := (91, s91) :: t40
theorem a41 : AllMeets Tryz.prog t41 := a40.add mixed kp91 (show Tryz.prog.funcs[91]? = some Tryz.f91 from Tryz.func91) (by kernel_rfl) (f91 t40 rfl rfl rfl rfl rfl rfl)
def t42 : Tab := (20, s20) :: t41
theorem a42 : AllMeets Tryz.prog t42 := a41.add mixed kp20 (show Tryz.prog.funcs[20]? = some Tryz.f20 from Tryz.func20) (by kernel_rfl) (f20 t41 rfl rfl rfl rfl rfl rfl rfl rfl)
def t43 : Tab := (136, s136) :: t42
theorem a43 : AllMeets Tryz.prog t43 := a42.add mixed kp136 (show Tryz.prog.funcs[136]? = some Tryz.f136 from Tryz.func136) (by kernel_rfl) (f136 t42 rfl)
def t44 : Tab := (72, s72) :: t43
theorem a44 : AllMeets Tryz.prog t44 := a43.add mixed kp72 (show Tryz.prog.funcs[72]? = some Tryz.f72 from Tryz.func72) (by kernel_rfl) (f72 t43 rfl rfl rfl rfl rfl)
def t45 : Tab := (205, s205) :: t44
theorem a45 : AllMeets Tryz.prog t45 := a44.add mixed kp205 (show Tryz.prog.funcs[205]? = some Tryz.f205 from Tryz.func205) (by kernel_rfl) (f205 t44 rfl rfl)
def t46 : Tab := (196, s196) :: t45
theorem a46 : AllMeets Tryz.prog t46 := a45.add mixed kp196 (show Tryz.prog.funcs[196]? = some Tryz.f196 from Tryz.func196) (by kernel_rfl) (f196 t45 rfl rfl rfl)
def t47 : Tab := (118, s118) :: t46
theorem a47 : AllMeets Tryz.prog t47 := a46.add mixed kp118 (show Tryz.prog.funcs[118]? = some Tryz.f118 from Tryz.func118) (by kernel_rfl) (f118 t46)
def t48 : Tab := (117, s117) :: t47
theorem a48 : AllMeets Tryz.prog t48 := a47.add mixed kp117 (show Tryz.prog.funcs[117]? = some Tryz.f117 from Tryz.func117) (by kernel_rfl) (f117 t47 rfl rfl rfl rfl rfl)
def t49 : Tab := (124, s124) :: t48
theorem a49 : AllMeets Tryz.prog t49 := a48.add mixed kp124 (show Tryz.prog.funcs[124]? = some Tryz.f124 from Tryz.func124) (by kernel_rfl) (f124 t48 rfl rfl)
def t50 : Tab := (109, s109) :: t49
theorem a50 : AllMeets Tryz.prog t50 := a49.add mixed kp109 (show Tryz.prog.funcs[109]? = some Tryz.f109 from Tryz.func109) (by kernel_rfl) (f109 t49 rfl rfl rfl)
def t51 : Tab := (121, s121) :: t50
theorem a51 : AllMeets Tryz.prog t51 := a50.add mixed kp121 (show Tryz.prog.funcs[121]? = some Tryz.f121 from Tryz.func121) (by kernel_rfl) (f121 t50 rfl rfl)
def t52 : Tab := (146, s146) :: t51
theorem a52 : AllMeets Tryz.prog t52 := a51.add mixed kp146 (show Tryz.prog.funcs[146]? = some Tryz.f146 from Tryz.func146) (by kernel_rfl) (f146 t51 rfl rfl rfl rfl rfl rfl rfl)
def t53 : Tab := (137, s137) :: t52
theorem a53 : AllMeets Tryz.prog t53 := a52.add mixed kp137 (show Tryz.prog.funcs[137]? = some Tryz.f137 from Tryz.func137) (by kernel_rfl) (f137 t52 rfl)
def t54 : Tab := (53, s53) :: t53
theorem a54 : AllMeets Tryz.prog t54 := a53.add mixed kp53 (show Tryz.prog.funcs[53]? = some Tryz.f53 from Tryz.func53) (by kernel_rfl) (f53 t53 rfl rfl rfl rfl)
def t55 : Tab := (252, s252) :: t54
theorem a55 : AllMeets Tryz.prog t55 := a54.add mixed kp252 (show Tryz.prog.funcs[252]? = some Tryz.f252 from Tryz.func252) (by kernel_rfl) (f252 t54 rfl)
def t56 : Tab := (240, s240) :: t55
theorem a56 : AllMeets Tryz.prog t56 := a55.add mixed kp240 (show Tryz.prog.funcs[240]? = some Tryz.f240 from Tryz.func240) (by kernel_rfl) (f240 t55 rfl rfl rfl rfl)
def t57 : Tab := (155, s155) :: t56
theorem a57 : AllMeets Tryz.prog t57 := a56.add mixed kp155 (show Tryz.prog.funcs[155]? = some Tryz.f155 from Tryz.func155) (by kernel_rfl) (f155 t56 rfl)
def t58 : Tab := (147, s147) :: t57
theorem a58 : AllMeets Tryz.prog t58 := a57.add mixed kp147 (show Tryz.prog.funcs[147]? = some Tryz.f147 from Tryz.func147) (by kernel_rfl) (f147 t57)
def t59 : Tab := (152, s152) :: t58
theorem a59 : AllMeets Tryz.prog t59 := a58.add mixed kp152 (show Tryz.prog.funcs[152]? = some Tryz.f152 from Tryz.func152) (by kernel_rfl) (f152 t58 rfl rfl rfl)
def t60 : Tab := (212, s212) :: t59
theorem a60 : AllMeets Tryz.prog t60 := a59.add mixed kp212 (show Tryz.prog.funcs[212]? = some Tryz.f212 from Tryz.func212) (by kernel_rfl) (f212 t59 rfl rfl rfl)
def t61 : Tab := (244, s244) :: t60
theorem a61 : AllMeets Tryz.prog t61 := a60.add mixed kp244 (show Tryz.prog.funcs[244]? = some Tryz.f244 from Tryz.func244) (by kernel_rfl) (f244 t60 rfl rfl)
def t62 : Tab := (213, s213) :: t61
theorem a62 : AllMeets Tryz.prog t62 := a61.add mixed kp213 (show Tryz.prog.funcs[213]? = some Tryz.f213 from Tryz.func213) (by kernel_rfl) (f213 t61 rfl)
def t63 : Tab := (245, s245) :: t62
theorem a63 : AllMeets Tryz.prog t63 := a62.add mixed kp245 (show Tryz.prog.funcs[245]? = some Tryz.f245 from Tryz.func245) (by kernel_rfl) (f245 t62 rfl rfl rfl rfl rfl rfl)
def t64 : Tab := (226, s226) :: t63
theorem a64 : AllMeets Tryz.prog t64 := a63.add mixed kp226 (show Tryz.prog.funcs[226]? = some Tryz.f226 from Tryz.func226) (by kernel_rfl) (f226 t63 rfl rfl rfl rfl rfl)
def t65 : Tab := (208, s208) :: t64
theorem a65 : AllMeets Tryz.prog t65 := a64.add mixed kp208 (show Tryz.prog.funcs[208]? = some Tryz.f208 from Tryz.func208) (by kernel_rfl) (f208 t64 rfl rfl rfl rfl rfl)
def t66 : Tab := (253, s253) :: t65
theorem a66 : AllMeets Tryz.prog t66 := a65.add mixed kp253 (show Tryz.prog.funcs[253]? = some Tryz.f253 from Tryz.func253) (by kernel_rfl) (f253 t65 rfl rfl rfl)
def t67 : Tab := (241, s241) :: t66
theorem a67 : AllMeets Tryz.prog t67 := a66.add mixed kp241 (show Tryz.prog.funcs[241]? = some Tryz.f241 from Tryz.func241) (by kernel_rfl) (f241 t66 rfl rfl rfl rfl rfl)
def t68 : Tab := (242, s242) :: t67
theorem a68 : AllMeets Tryz.prog t68 := a67.add mixed kp242 (show Tryz.prog.funcs[242]? = some Tryz.f242 from Tryz.func242) (by kernel_rfl) (f242 t67 rfl rfl rfl rfl rfl)
def t69 : Tab := (62, s62) :: t68
theorem a69 : AllMeets Tryz.prog t69 := a68.add mixed kp62 (show Tryz.prog.funcs[62]? = some Tryz.f62 from Tryz.func62) (by kernel_rfl) (f62 t68 rfl rfl rfl rfl rfl rfl)
def t70 : Tab := (141, s141) :: t69
theorem a70 : AllMeets Tryz.prog t70 := a69.add mixed kp141 (show Tryz.prog.funcs[141]? = some Tryz.f141 from Tryz.func141) (by kernel_rfl) (f141 t69 rfl)
def t71 : Tab := (58, s58) :: t70
theorem a71 : AllMeets Tryz.prog t71 := a70.add mixed kp58 (show Tryz.prog.funcs[58]? = some Tryz.f58 from Tryz.func58) (by kernel_rfl) (f58 t70 rfl rfl rfl rfl rfl rfl)
def t72 : Tab := (243, s243) :: t71
theorem a72 : AllMeets Tryz.prog t72 := a71.add mixed kp243 (show Tryz.prog.funcs[243]? = some Tryz.f243 from Tryz.func243) (by kernel_rfl) (f243 t71 rfl rfl rfl)
def t73 : Tab := (220, s220) :: t72
theorem a73 : AllMeets Tryz.prog t73 := a72.add mixed kp220 (show Tryz.prog.funcs[220]? = some Tryz.f220 from Tryz.func220) (by kernel_rfl) (f220 t72 rfl rfl rfl rfl rfl rfl rfl rfl rfl rfl rfl rfl)
def t74 : Tab := (32, s32) :: t73
theorem a74 : AllMeets Tryz.prog t74 := a73.add mixed kp32 (show Tryz.prog.funcs[32]? = some Tryz.f32 from Tryz.func32) (by kernel_rfl) (f32 t73 rfl rfl rfl)
def t75 : Tab := (37, s37) :: t74
theorem a75 : AllMeets Tryz.prog t75 := a74.add mixed kp37 (show Tryz.prog.funcs[37]? = some Tryz.f37 from Tryz.func37) (by kernel_rfl) (f37 t74 rfl rfl rfl rfl)
def t76 : Tab := (168, s168) :: t75
theorem a76 : AllMeets Tryz.prog t76 := a75.add mixed kp168 (show Tryz.prog.funcs[168]? = some Tryz.f168 from Tryz.func168) (by kernel_rfl) (f168 t75 rfl rfl rfl rfl rfl rfl rfl)
def t77 : Tab := (170, s170) :: t76
theorem a77 : AllMeets Tryz.prog t77 := a76.add mixed kp170 (show Tryz.prog.funcs[170]? = some Tryz.f170 from Tryz.func170) (by kernel_rfl) (f170 t76 rfl rfl)
def t78 : Tab := (84, s84) :: t77
theorem a78 : AllMeets Tryz.prog t78 := a77.add mixed kp84 (show Tryz.prog.funcs[84]? = some Tryz.f84 from Tryz.func84) (by kernel_rfl) (f84 t77 rfl rfl rfl rfl)
def t79 : Tab := (30, s30) :: t78
theorem a79 : AllMeets Tryz.prog t79 := a78.add mixed kp30 (show Tryz.prog.funcs[30]? = some Tryz.f30 from Tryz.func30) (by kernel_rfl) (f30 t78 rfl rfl)
def t80 : Tab := (192, s192) :: t79
theorem a80 : AllMeets Tryz.prog t80 := a79.add mixed kp192 (show Tryz.prog.funcs[192]? = some Tryz.f192 from Tryz.func192) (by kernel_rfl) (f192 t79)
def t81 : Tab := (106, s106) :: t80
theorem a81 : AllMeets Tryz.prog t81 := a80.add mixed kp106 (show Tryz.prog.funcs[106]? = some Tryz.f106 from Tryz.func106) (by kernel_rfl) (f106 t80 rfl)
def t82 : Tab := (94, s94) :: t81
theorem a82 : AllMeets Tryz.prog t82 := a81.add mixed kp94 (show Tryz.prog.funcs[94]? = some Tryz.f94 from Tryz.func94) (by kernel_rfl) (f94 t81)
def t83 : Tab := (95, s95) :: t82
theorem a83 : AllMeets Tryz.prog t83 := a82.add mixed kp95 (show Tryz.prog.funcs[95]? = some Tryz.f95 from Tryz.func95) (by kernel_rfl) (f95 t82)
def t84 : Tab := (96, s96) :: t83
theorem a84 : AllMeets Tryz.prog t84 := a83.add mixed kp96 (show Tryz.prog.funcs[96]? = some Tryz.f96 from Tryz.func96) (by kernel_rfl) (f96 t83)
def t85 : Tab := (98, s98) :: t84
theorem a85 : AllMeets Tryz.prog t85 := a84.add mixed kp98 (show Tryz.prog.funcs[98]? = some Tryz.f98 from Tryz.func98) (by kernel_rfl) (f98 t84)
def t86 : Tab := (99, s99) :: t85
theorem a86 : AllMeets Tryz.prog t86 := a85.add mixed kp99 (show Tryz.prog.funcs[99]? = some Tryz.f99 from Tryz.func99) (by kernel_rfl) (f99 t85 rfl rfl)
def t87 : Tab := (181, s181) :: t86
theorem a87 : AllMeets Tryz.prog t87 := a86.add mixed kp181 (show Tryz.prog.funcs[181]? = some Tryz.f181 from Tryz.func181) (by kernel_rfl) (f181 t86)
def t88 : Tab := (190, s190) :: t87
theorem a88 : AllMeets Tryz.prog t88 := a87.add mixed kp190 (show Tryz.prog.funcs[190]? = some Tryz.f190 from Tryz.func190) (by kernel_rfl) (f190 t87 rfl)
def t89 : Tab := (191, s191) :: t88
theorem a89 : AllMeets Tryz.prog t89 := a88.add mixed kp191 (show Tryz.prog.funcs[191]? = some Tryz.f191 from Tryz.func191) (by kernel_rfl) (f191 t88)
def t90 : Tab := (104, s104) :: t89
theorem a90 : AllMeets Tryz.prog t90 := a89.add mixed kp104 (show Tryz.prog.funcs[104]? = some Tryz.f104 from Tryz.func104) (by kernel_rfl) (f104 t89 rfl rfl rfl)
def t91 : Tab := (182, s182) :: t90
theorem a91 : AllMeets Tryz.prog t91 := a90.add mixed kp182 (show Tryz.prog.funcs[182]? = some Tryz.f182 from Tryz.func182) (by kernel_rfl) (f182 t90 rfl)
def t92 : Tab := (102, s102) :: t91
theorem a92 : AllMeets Tryz.prog t92 := a91.add mixed kp102 (show Tryz.prog.funcs[102]? = some Tryz.f102 from Tryz.func102) (by kernel_rfl) (f102 t91 rfl)
def t93 : Tab := (97, s97) :: t92
theorem a93 : AllMeets Tryz.prog t93 := a92.add mixed kp97 (show Tryz.prog.funcs[97]? = some Tryz.f97 from Tryz.func97) (by kernel_rfl) (f97 t92 rfl rfl rfl)
def t94 : Tab := (207, s207) :: t93
theorem a94 : AllMeets Tryz.prog t94 := a93.add mixed kp207 (show Tryz.prog.funcs[207]? = some Tryz.f207 from Tryz.func207) (by kernel_rfl) (f207 t93)
def t95 : Tab := (187, s187) :: t94
theorem a95 : AllMeets Tryz.prog t95 := a94.add mixed kp187 (show Tryz.prog.funcs[187]? = some Tryz.f187 from Tryz.func187) (by kernel_rfl) (f187 t94 rfl rfl)
def t96 : Tab := (222, s222) :: t95
theorem a96 : AllMeets Tryz.prog t96 := a95.add mixed kp222 (show Tryz.prog.funcs[222]? = some Tryz.f222 from Tryz.func222) (by kernel_rfl) (f222 t95 rfl rfl)
def t97 : Tab := (148, s148) :: t96
theorem a97 : AllMeets Tryz.prog t97 := a96.add mixed kp148 (show Tryz.prog.funcs[148]? = some Tryz.f148 from Tryz.func148) (by kernel_rfl) (f148 t96 rfl)
def t98 : Tab := (218, s218) :: t97
theorem a98 : AllMeets Tryz.prog t98 := a97.add mixed kp218 (show Tryz.prog.funcs[218]? = some Tryz.f218 from Tryz.func218) (by kernel_rfl) (f218 t97 rfl rfl rfl rfl)
def t99 : Tab := (166, s166) :: t98
theorem a99 : AllMeets Tryz.prog t99 := a98.add mixed kp166 (show Tryz.prog.funcs[166]? = some Tryz.f166 from Tryz.func166) (by kernel_rfl) (f166 t98 rfl rfl)
def t100 : Tab := (188, s188) :: t99
theorem a100 : AllMeets Tryz.prog t100 := a99.add mixed kp188 (show Tryz.prog.funcs[188]? = some Tryz.f188 from Tryz.func188) (by kernel_rfl) (f188 t99 rfl rfl rfl rfl)
def t101 : Tab := (223, s223) :: t100
theorem a101 : AllMeets Tryz.prog t101 := a100.add mixed kp223 (show Tryz.prog.funcs[223]? = some Tryz.f223 from Tryz.func223) (by kernel_rfl) (f223 t100)
def t102 : Tab := (167, s167) :: t101
theorem a102 : AllMeets Tryz.prog t102 := a101.add mixed kp167 (show Tryz.prog.funcs[167]? = some Tryz.f167 from Tryz.func167) (by kernel_rfl) (f167 t101)
def t103 : Tab := (149, s149) :: t102
theorem a103 : AllMeets Tryz.prog t103 := a102.add mixed kp149 (show Tryz.prog.funcs[149]? = some Tryz.f149 from Tryz.func149) (by kernel_rfl) (f149 t102)
def t104 : Tab := (224, s224) :: t103
theorem a104 : AllMeets Tryz.prog t104 := a103.add mixed kp224 (show Tryz.prog.funcs[224]? = some Tryz.f224 from Tryz.func224) (by kernel_rfl) (f224 t103 rfl rfl)
def t105 : Tab := (183, s183) :: t104
theorem a105 : AllMeets Tryz.prog t105 := a104.add mixed kp183 (show Tryz.prog.funcs[183]? = some Tryz.f183 from Tryz.func183) (by kernel_rfl) (f183 t104 rfl rfl rfl rfl rfl rfl)
def t106 : Tab := (203, s203) :: t105
theorem a106 : AllMeets Tryz.prog t106 := a105.add mixed kp203 (show Tryz.prog.funcs[203]? = some Tryz.f203 from Tryz.func203) (by kernel_rfl) (f203 t105)
def t107 : Tab := (228, s228) :: t106
theorem a107 : AllMeets Tryz.prog t107 := a106.add mixed kp228 (show Tryz.prog.funcs[228]? = some Tryz.f228 from Tryz.func228) (by kernel_rfl) (f228 t106 rfl rfl rfl)
def t108 : Tab := (227, s227) :: t107
theorem a108 : AllMeets Tryz.prog t108 := a107.add mixed kp227 (show Tryz.prog.funcs[227]? = some Tryz.f227 from Tryz.func227) (by kernel_rfl) (f227 t107 rfl rfl rfl)
def t109 : Tab := (211, s211) :: t108
theorem a109 : AllMeets Tryz.prog t109 := a108.add mixed kp211 (show Tryz.prog.funcs[211]? = some Tryz.f211 from Tryz.func211) (by kernel_rfl) (f211 t108 rfl rfl rfl rfl)
def t110 : Tab := (184, s184) :: t109
theorem a110 : AllMeets Tryz.prog t110 := a109.add mixed kp184 (show Tryz.prog.funcs[184]? = some Tryz.f184 from Tryz.func184) (by kernel_rfl) (f184 t109 rfl rfl rfl rfl)
def t111 : Tab := (186, s186) :: t110
theorem a111 : AllMeets Tryz.prog t111 := a110.add mixed kp186 (show Tryz.prog.funcs[186]? = some Tryz.f186 from Tryz.func186) (by kernel_rfl) (f186 t110 rfl rfl)
def t112 : Tab := (225, s225) :: t111
theorem a112 : AllMeets Tryz.prog t112 := a111.add mixed kp225 (show Tryz.prog.funcs[225]? = some Tryz.f225 from Tryz.func225) (by kernel_rfl) (f225 t111 rfl)
def t113 : Tab := (185, s185) :: t112
theorem a113 : AllMeets Tryz.prog t113 := a112.add mixed kp185 (show Tryz.prog.funcs[185]? = some Tryz.f185 from Tryz.func185) (by kernel_rfl) (f185 t112 rfl)
def t114 : Tab := (100, s100) :: t113
theorem a114 : AllMeets Tryz.prog t114 := a113.add mixed kp100 (show Tryz.prog.funcs[100]? = some Tryz.f100 from Tryz.func100) (by kernel_rfl) (f100 t113 rfl rfl rfl rfl)
def t115 : Tab := (21, s21) :: t114
theorem a115 : AllMeets Tryz.prog t115 := a114.add mixed kp21 (show Tryz.prog.funcs[21]? = some Tryz.f21 from Tryz.func21) (by kernel_rfl) (f21 t114 rfl rfl rfl rfl rfl rfl rfl)
def t116 : Tab := (193, s193) :: t115
theorem a116 : AllMeets Tryz.prog t116 := a115.add mixed kp193 (show Tryz.prog.funcs[193]? = some Tryz.f193 from Tryz.func193) (by kernel_rfl) (f193 t115 rfl rfl rfl rfl)
def t117 : Tab := (194, s194) :: t116
theorem a117 : AllMeets Tryz.prog t117 := a116.add mixed kp194 (show Tryz.prog.funcs[194]? = some Tryz.f194 from Tryz.func194) (by kernel_rfl) (f194 t116)
def t118 : Tab := (107, s107) :: t117
theorem a118 : AllMeets Tryz.prog t118 := a117.add mixed kp107 (show Tryz.prog.funcs[107]? = some Tryz.f107 from Tryz.func107) (by kernel_rfl) (f107 t117 rfl rfl rfl)
def t119 : Tab := (31, s31) :: t118
theorem a119 : AllMeets Tryz.prog t119 := a118.add mixed kp31 (show Tryz.prog.funcs[31]? = some Tryz.f31 from Tryz.func31) (by kernel_rfl) (f31 t118 rfl rfl rfl)
def t120 : Tab := (33, s33) :: t119
theorem a120 : AllMeets Tryz.prog t120 := a119.add mixed kp33 (show Tryz.prog.funcs[33]? = some Tryz.f33 from Tryz.func33) (by kernel_rfl) (f33 t119)
def t121 : Tab := (27, s27) :: t120
theorem a121 : AllMeets Tryz.prog t121 := a120.add mixed kp27 (show Tryz.prog.funcs[27]? = some Tryz.f27 from Tryz.func27) (by kernel_rfl) (f27 t120 rfl rfl rfl)
def t122 : Tab := (34, s34) :: t121
theorem a122 : AllMeets Tryz.prog t122 := a121.add mixed kp34 (show Tryz.prog.funcs[34]? = some Tryz.f34 from Tryz.func34) (by kernel_rfl) (f34 t121 rfl rfl rfl rfl rfl rfl)
def t123 : Tab := (5, s5) :: t122
theorem a123 : AllMeets Tryz.prog t123 := a122.add mixed kp5 (show Tryz.prog.funcs[5]? = some Tryz.f5 from Tryz.func5) (by kernel_rfl) (f5 t122 rfl rfl rfl rfl rfl rfl rfl rfl)
end Go.Proofs.YtpkehednooilhaaGreat.Abs
