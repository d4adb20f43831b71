/- Copying in memory: what one's own arena is there; what is stored into it. -/
import Derived.Test.YtpdcjocjkbgddaaGreatTa
import Derived.Test.YtpdcjocjkbgddaaGreatEqN
namespace Go.Proofs.YtpdcjocjkbgddaaGreat.Abs
open Go.RowKit
set_option linter.unusedVariables false
set_option linter.unusedSimpArgs false
set_option maxRecDepth 20000
/-- What stands off X is there still. -/
def Off (X : List Nat) (m M : Mem) : Prop := ∀ b o, b ∉ X → m b = some o → M b = some o
theorem Off.refl (X : List Nat) (m : Mem) : Off X m m := fun _ _ _ h => h
theorem Off.of_le {X : List Nat} {m M : Mem} (h : Mem.le m M) : Off X m M := fun b o _ e => h b o e
theorem Off.trans {X : List Nat} {a b c : Mem} (h : Off X a b) (g : Off X b c) : Off X a c := fun x o hx e => g x o hx (h x o hx e)
theorem Off.of_eq {X : List Nat} {m M : Mem} (h : ∀ b, b ∉ X → M b = m b) : Off X m M := fun b o hb e => by rw [h b hb]; exact e
theorem Off.put {X : List Nat} {m M M' : Mem} {g : Nat} (h : Off X m M) (hg : g ∈ X) (ho : ∀ b, b ≠ g → M' b = M b) : Off X m M' := fun b o hb e => by rw [ho b (fun h' => hb (h' ▸ hg))]; exact h b o hb e
theorem Off.fresh {X : List Nat} {m M M' : Mem} {g : Nat} (h : Off X m M) (hg : m g = none) (ho : ∀ b, b ≠ g → M' b = M b) : Off X m M' := fun b o hb e => by
  rw [ho b (fun h' => by rw [h', hg] at e; cases e)]; exact h b o hb e
def mixM (X : List Nat) (m M : Mem) : Mem := fun b => if b ∈ X then M b else m b
theorem mix_in {X : List Nat} {m M : Mem} {b : Nat} (h : b ∈ X) : mixM X m M b = M b := if_pos h
theorem mix_off {X : List Nat} {m M : Mem} {b : Nat} (h : b ∉ X) : mixM X m M b = m b := if_neg h
theorem ret_off {X : List Nat} {m M : Mem} {Q : Value → Mem → Prop} {v : Value} (h : Off X m M) (hq : Q v (mixM X m M)) : ret Q v M := by
  refine ret_intro (fun b o e => ?_) hq
  by_cases hb : b ∈ X
  · rw [mix_in hb] at e; exact e
  · rw [mix_off hb] at e; exact h b o hb e
/-- One's own words and Roots. -/
def Wo (m : Mem) (s r : Sl) (a : Ar) (D : List Nat) : Prop := ∃ D1 D2, OwnL m s a.ws D1 ∧ OwnL m r a.rs D2 ∧ D = D1 ++ D2 ∧ D.Nodup
theorem own_cap' {α : Type} [Enc α] {m : Mem} {s : Sl} {l : List α} {D : List Nat} (h0 : 0 < Enc.s α) (h : OwnL m s l D) : s.n ≤ s.c := by
  obtain ⟨h1, ⟨_, h2, h3, _⟩ | ⟨g, t, spare, _, _, _, h3⟩⟩ := h
  · rw [h1, h3]; exact Nat.zero_le _
  · rw [h1]
    exact Nat.le_of_mul_le_mul_right (by omega) h0
theorem Wo.at {m : Mem} {s r : Sl} {a : Ar} {D : List Nat} (h : Wo m s r a D) : ArAt m s r a := by
  obtain ⟨D1, D2, o1, o2, _, _⟩ := h
  exact ⟨o1.1.symm, o1.rd, o2.1.symm, o2.rd, own_cap' (by decide) o1⟩
theorem Wo.ext {m m' : Mem} {s r : Sl} {a : Ar} {D : List Nat} (h : Wo m s r a D) (he : ∀ b ∈ D, m' b = m b) : Wo m' s r a D := by
  obtain ⟨D1, D2, o1, o2, hD, hn⟩ := h
  exact ⟨D1, D2, o1.ext fun b hb => he b (by rw [hD]; simp [hb]), o2.ext fun b hb => he b (by rw [hD]; simp [hb]), hD, hn⟩
theorem Wo.live {m : Mem} {s r : Sl} {a : Ar} {D : List Nat} (h : Wo m s r a D) : ∀ b ∈ D, ∃ o, m b = some o := by
  obtain ⟨D1, D2, o1, o2, hD, hn⟩ := h
  intro b hb
  rw [hD] at hb
  rcases List.mem_append.1 hb with hb | hb
  · exact o1.live b hb
  · exact o2.live b hb
theorem Wo.fld {m : Mem} {s r : Sl} {a a' : Ar} {D : List Nat} (h : Wo m s r a D) (hw : a'.ws = a.ws) (hr : a'.rs = a.rs) : Wo m s r a' D := by
  unfold Wo
  rw [hw, hr]
  exact h
theorem Wo.fresh {m : Mem} {s r : Sl} {a : Ar} {D : List Nat} (h : Wo m s r a D) {g : Nat} (hg : m g = none) : g ∉ D := fun hb => by
  obtain ⟨o, ho⟩ := h.live g hb
  rw [hg] at ho
  cases ho
theorem Wo.put_w {m : Mem} {s r : Sl} {a : Ar} {D : List Nat} {K : Mem → Prop} (h : Wo m s r a D) {i x : Int} (i0 : 0 ≤ i) (i1 : i < a.ws.length)
    (hK : ∀ m', (∀ b, b ∉ D → m' b = m b) → Wo m' s r { a with ws := setW a.ws i x } D → K m') : optA s.a fun d => 0 ≤ i ∧ i < (s.n : Int) ∧ stoA m (d.add (i.toNat * 1)) [.int .u64 x] K := by
  obtain ⟨D1, D2, o1, o2, hD, hn⟩ := h
  obtain ⟨n1, ⟨_, _, e, _⟩ | ⟨g, t, spare, e1, e2, hm, e4⟩⟩ := o1
  · rw [e] at i1; simp at i1; omega
  rw [e1]
  refine ⟨i0, by omega, ?_⟩
  have es : Enc.s U64 = 1 := rfl
  refine sto_elem (α := U64) (x := ⟨x⟩) hm ?_ (show i.toNat < a.ws.length by omega) ?_
  · rw [add_eq rfl, es]; simp
  have hg2 : g ∉ D2 := by
    rw [hD, e2] at hn
    simpa using (List.nodup_cons.1 hn).1
  refine hK _ (fun b hb => upd_ne fun h => hb (by rw [hD, e2, h]; simp)) ⟨D1, D2, ⟨?_, .inr ⟨g, t, spare, e1, e2, upd_same _ _ _, ?_⟩⟩, o2.ext fun b hb => upd_ne fun h => hg2 (h ▸ hb), hD, hn⟩
  · show s.n = (setW a.ws i x).length
    rw [setW_len]; exact n1
  · show (setW a.ws i x).length * _ + _ = _
    rw [setW_len]; exact e4
theorem Wo.put_r {m : Mem} {s r : Sl} {a : Ar} {D : List Nat} {K : Mem → Prop} (h : Wo m s r a D) {i : Int} {v : Vl} (i0 : 0 ≤ i) (i1 : i < a.rs.length)
    (hK : ∀ m', (∀ b, b ∉ D → m' b = m b) → Wo m' s r { a with rs := a.rs.set i.toNat v } D → K m') : optA r.a fun d => 0 ≤ i ∧ i < (r.n : Int) ∧ stoA m (d.add (i.toNat * 2)) [.int .i64 v.1, .int .i64 v.2] K := by
  obtain ⟨D1, D2, o1, o2, hD, hn⟩ := h
  obtain ⟨n1, ⟨_, _, e, _⟩ | ⟨g, t, spare, e1, e2, hm, e4⟩⟩ := o2
  · rw [e] at i1; simp at i1; omega
  rw [e1]
  refine ⟨i0, by omega, ?_⟩
  have es : Enc.s Vl = 2 := rfl
  refine sto_elem (α := Vl) (x := v) hm ?_ (show i.toNat < a.rs.length by omega) ?_
  · rw [add_eq rfl, es]; simp
  have hg1 : g ∉ D1 := by
    rw [hD, e2] at hn
    intro hb
    exact (List.nodup_append.1 hn).2.2 g hb g (by simp) rfl
  refine hK _ (fun b hb => upd_ne fun h => hb (by rw [hD, e2, h]; simp)) ⟨D1, D2, o1.ext fun b hb => upd_ne fun h => hg1 (h ▸ hb), ⟨?_, .inr ⟨g, t, spare, e1, e2, upd_same _ _ _, ?_⟩⟩, hD, hn⟩
  · show r.n = (a.rs.set i.toNat v).length
    rw [List.length_set]; exact n1
  · show (a.rs.set i.toNat v).length * _ + _ = _
    rw [List.length_set]; exact e4
/-- An arena's block, and one's own words and Roots. -/
structure Im (m : Mem) (g : Nat) (s r : Sl) (a : Ar) (D : List Nat) : Prop where
  p : Ptr m g s r a
  w : Wo m s r a D
  g : g ∉ D
theorem Im.ext {m m' : Mem} {g : Nat} {s r : Sl} {a : Ar} {D : List Nat} (h : Im m g s r a D) (he : ∀ b ∈ g :: D, m' b = m b) : Im m' g s r a D :=
  ⟨by unfold Ptr; rw [he g (by simp)]; exact h.p, h.w.ext fun b hb => he b (by simp [hb]), h.g⟩
theorem Im.le {m m' : Mem} {g : Nat} {s r : Sl} {a : Ar} {D : List Nat} (h : Im m g s r a D) (hl : Mem.le m m') : Im m' g s r a D := by
  refine h.ext fun b hb => ?_
  have : ∃ o, m b = some o := by
    rcases List.mem_cons.1 hb with e | e
    · rw [e]; exact ⟨_, h.p⟩
    · exact h.w.live b e
  obtain ⟨o, ho⟩ := this
  rw [ho, hl b o ho]
theorem Im.fresh {m : Mem} {g : Nat} {s r : Sl} {a : Ar} {D : List Nat} (h : Im m g s r a D) {b : Nat} (hb : m b = none) : b ∉ g :: D := fun hm => by
  rcases List.mem_cons.1 hm with e | e
  · have := h.p
    unfold Ptr at this
    rw [← e, hb] at this
    cases this
  · exact h.w.fresh hb e
theorem Im.mix {m M : Mem} {g : Nat} {s r : Sl} {a : Ar} {D : List Nat} (h : Im M g s r a D) : Im (mixM (g :: D) m M) g s r a D := h.ext fun b hb => mix_in hb
theorem Im.fld {m : Mem} {g : Nat} {s r : Sl} {a : Ar} {D : List Nat} {K : Mem → Prop} (h : Im m g s r a D) (k : Nat) (v : Value) (a' : Ar) (he : setAll (cA s r a) k [v] = cA s r a') (hk : k < 10) (h1 : one v = true) (hw : a'.ws = a.ws) (hr : a'.rs = a.rs)
    (hK : ∀ m', (∀ b, b ≠ g → m' b = m b) → Im m' g s r a' D → K m') : stoA m ⟨g, k, none⟩ [v] K := by
  refine sto (c := cA s r a) (t := 29) h.p (by simp [h1]) (by show k + 1 ≤ 10; omega) fun m' e q ne => hK m' ne ⟨?_, (h.w.fld hw hr).ext fun b hb => ne b fun e => h.g (e ▸ hb), h.g⟩
  unfold Ptr
  rw [← he]
  exact q
theorem Im.put_w {m : Mem} {g : Nat} {s r : Sl} {a : Ar} {D : List Nat} {K : Mem → Prop} (h : Im m g s r a D) {i x : Int} (i0 : 0 ≤ i) (i1 : i < a.ws.length)
    (hK : ∀ m', (∀ b, b ∉ D → m' b = m b) → Im m' g s r { a with ws := setW a.ws i x } D → K m') : optA s.a fun d => 0 ≤ i ∧ i < (s.n : Int) ∧ stoA m (d.add (i.toNat * 1)) [.int .u64 x] K :=
  h.w.put_w i0 i1 fun m' e w => hK m' e ⟨by unfold Ptr; rw [e g h.g]; exact h.p, w, h.g⟩
theorem Im.put_r {m : Mem} {g : Nat} {s r : Sl} {a : Ar} {D : List Nat} {K : Mem → Prop} (h : Im m g s r a D) {i : Int} {v : Vl} (i0 : 0 ≤ i) (i1 : i < a.rs.length)
    (hK : ∀ m', (∀ b, b ∉ D → m' b = m b) → Im m' g s r { a with rs := a.rs.set i.toNat v } D → K m') : optA r.a fun d => 0 ≤ i ∧ i < (r.n : Int) ∧ stoA m (d.add (i.toNat * 2)) [.int .i64 v.1, .int .i64 v.2] K :=
  h.w.put_r i0 i1 fun m' e w => hK m' e ⟨by unfold Ptr; rw [e g h.g]; exact h.p, w, h.g⟩
/-- Words cleared, one by one. -/
def clrW (ws : List U64) (q : Int) : Nat → List U64
  | 0 => ws
  | n + 1 => setW (clrW ws q n) (q + n) 0
theorem clrW_len (ws : List U64) (q : Int) : ∀ n : Nat, (clrW ws q n).length = ws.length
  | 0 => rfl
  | n + 1 => by unfold clrW; rw [setW_len, clrW_len ws q n]
theorem gw_clr {ws : List U64} {q : Int} (q0 : 0 ≤ q) : ∀ (n : Nat), q + n ≤ ws.length → ∀ j : Int, 0 ≤ j → gw (clrW ws q n) j = if q ≤ j ∧ j < q + n then 0 else gw ws j
  | 0, _, j, j0 => by rw [if_neg (by omega)]; rfl
  | n + 1, hn, j, j0 => by
    unfold clrW
    rw [gw_set (by omega) (by rw [clrW_len]; omega) j0, gw_clr q0 n (by omega) j j0]
    by_cases c : j = q + n
    · rw [if_pos c, if_pos (by omega)]
    · rw [if_neg c]
      by_cases d : q ≤ j ∧ j < q + n
      · rw [if_pos d, if_pos (by omega)]
      · rw [if_neg d, if_neg (by omega)]
/-- A part of the words is another row. -/
theorem gw_mid {ws l : List U64} {q : Nat} (h : q + l.length ≤ ws.length) (j : Int) (j0 : 0 ≤ j) : gw (ws.take q ++ l ++ ws.drop (q + l.length)) j = if q ≤ j ∧ j < q + l.length then gw l (j - q) else gw ws j := by
  unfold gw
  simp only [List.getD_eq_getElem?_getD]
  have e : (ws.take q).length = q := by rw [List.length_take]; omega
  by_cases c : j < q
  · rw [if_neg (by omega), List.append_assoc, List.getElem?_append_left (by omega), List.getElem?_take, if_pos (by omega)]
  · by_cases d : j < q + l.length
    · rw [if_pos (by omega), List.getElem?_append_left (by rw [List.length_append]; omega), List.getElem?_append_right (by omega), e]
      have : j.toNat - q = (j - q).toNat := by omega
      rw [this]
    · rw [if_neg (by omega), List.getElem?_append_right (by rw [List.length_append]; omega), List.getElem?_drop, List.length_append, e]
      have : q + l.length + (j.toNat - (q + l.length)) = j.toNat := by omega
      rw [this]
theorem mid_len {ws l : List U64} {q : Nat} (h : q + l.length ≤ ws.length) : (ws.take q ++ l ++ ws.drop (q + l.length)).length = ws.length := by
  simp only [List.length_append, List.length_take, List.length_drop]
  omega
theorem sto_mid {m : Mem} {g : Nat} {t : TypeId} {ws l : List U64} {spare : List Value} {q : Nat} {K : Mem → Prop} (hm : m g = some (.cells (flat Enc.e ws ++ spare).toArray t (0, 0))) (h : q + l.length ≤ ws.length)
    (hK : K (m.upd g (.cells (flat Enc.e (ws.take q ++ l ++ ws.drop (q + l.length)) ++ spare).toArray t (0, 0)))) : stoA m ⟨g, q, none⟩ (flat Enc.e l) K := by
  have fl : ∀ x : List U64, (flat Enc.e x).length = x.length := fun x => by rw [flat_len]; exact Nat.mul_one _
  have hsp : flat Enc.e ws ++ spare = flat Enc.e (ws.take q) ++ (flat Enc.e (ws.drop q) ++ spare) := by
    rw [← List.append_assoc, ← flat_append, List.take_append_drop]
  have e : (flat Enc.e (ws.take q)).length = q := by rw [fl, List.length_take]; omega
  refine sto hm (flat_one l) (by simp [fl]; omega) fun m' e1 _ _ => ?_
  have h1 := set_all_mid (flat Enc.e l) (flat Enc.e (ws.take q)) (flat Enc.e (ws.drop q) ++ spare) (by simp [fl]; omega)
  rw [e] at h1
  rw [e1, hsp, h1]
  have h2 : (flat Enc.e (ws.drop q) ++ spare).drop (flat Enc.e l).length = flat Enc.e (ws.drop (q + l.length)) ++ spare := by
    rw [List.drop_append_of_le_length (by rw [fl, fl, List.length_drop]; omega)]
    congr 1
    have : ws.drop q = (ws.drop q).take l.length ++ ws.drop (q + l.length) := by rw [← List.drop_drop, List.take_append_drop]
    conv => lhs; rw [this, flat_append]
    exact List.drop_left' (by rw [fl, fl, List.length_take, List.length_drop]; omega)
  rw [h2]
  have h3 : flat Enc.e (ws.take q) ++ flat Enc.e l ++ (flat Enc.e (ws.drop (q + l.length)) ++ spare) = flat Enc.e (ws.take q ++ l ++ ws.drop (q + l.length)) ++ spare := by
    rw [flat_append, flat_append]
    simp only [List.append_assoc]
  rw [h3]
  exact hK
theorem Wo.base {m : Mem} {s r : Sl} {a : Ar} {D : List Nat} (h : Wo m s r a D) (h0 : 0 < a.ws.length) : ∃ d, s.a = some d := by
  obtain ⟨D1, D2, ⟨n1, ⟨_, _, e, _⟩ | ⟨g, t, spare, e1, e2, hm, e4⟩⟩, o2, hD, hn⟩ := h
  · rw [e] at h0; simp at h0
  · exact ⟨_, e1⟩
theorem Wo.mid {m : Mem} {s r : Sl} {a : Ar} {D : List Nat} {K : Mem → Prop} (h : Wo m s r a D) {d : Addr} (hd : s.a = some d) {q : Int} {l : List U64} {ws' : List U64} (q0 : 0 ≤ q) (q1 : q + l.length ≤ a.ws.length) (l0 : 0 < l.length) (hl : ws'.length = a.ws.length)
    (hg : ∀ j : Int, 0 ≤ j → j < a.ws.length → gw ws' j = if q ≤ j ∧ j < q + l.length then gw l (j - q) else gw a.ws j)
    (hK : ∀ m', (∀ b, b ∉ D → m' b = m b) → Wo m' s r { a with ws := ws' } D → K m') : stoA m (d.add (q.toNat * 1)) (flat Enc.e l) K := by
  obtain ⟨D1, D2, o1, o2, hD, hn⟩ := h
  obtain ⟨n1, ⟨_, _, e, _⟩ | ⟨g, t, spare, e1, e2, hm, e4⟩⟩ := o1
  · rw [e] at q1; simp at q1; omega
  rw [e1] at hd
  cases hd
  have ha : (⟨g, 0, none⟩ : Addr).add (q.toNat * 1) = ⟨g, q.toNat, none⟩ := by rw [add_eq rfl]; simp
  rw [ha]
  refine sto_mid hm (by omega) ?_
  have hg2 : g ∉ D2 := by
    rw [hD, e2] at hn
    simpa using (List.nodup_cons.1 hn).1
  have ew : a.ws.take q.toNat ++ l ++ a.ws.drop (q.toNat + l.length) = ws' := gw_ext (by rw [mid_len (by omega), hl]) fun j j0 j1 => by
    rw [mid_len (by omega)] at j1
    rw [gw_mid (by omega) j j0, hg j j0 j1]
    have : (q.toNat : Int) = q := Int.toNat_of_nonneg q0
    rw [this]
  rw [ew]
  refine hK _ (fun b hb => upd_ne fun h => hb (by rw [hD, e2, h]; simp)) ⟨D1, D2, ⟨?_, .inr ⟨g, t, spare, e1, e2, upd_same _ _ _, ?_⟩⟩, o2.ext fun b hb => upd_ne fun h => hg2 (h ▸ hb), hD, hn⟩
  · show s.n = ws'.length
    rw [hl]; exact n1
  · show ws'.length * _ + _ = _
    rw [hl]; exact e4
end Go.Proofs.YtpdcjocjkbgddaaGreat.Abs
/- Copying by the program: what is set, the end of a cycle, values that are forwarded. -/
namespace Go.Proofs.YtpdcjocjkbgddaaGreat.Abs
open Go.RowKit
set_option linter.unusedVariables false
set_option linter.unusedSimpArgs false
set_option maxRecDepth 20000
def s80 : Spec := fun args m Q => ∃ (g : Nat) (s r : Sl) (a : Ar) (D : List Nat) (i : Int) (v : Vl), args = [.pointer (some ⟨g, 0, none⟩), .int .i64 i, vVl v] ∧ Im m g s r a D ∧ 0 ≤ i ∧ i + 1 < a.ws.length ∧ a.ws.length ≤ 2 ^ 20 ∧
  ∀ m', (∀ b, b ∉ g :: D → m' b = m b) → Im m' g s r (putV a i v) D → Q (.tuple #[]) m'
theorem f80 (t : Tab) : ∀ args m Q, s80 args m Q → FA Tryz.prog (look t) kp80 Tryz.f80 args m Q := by
  rintro args m Q ⟨g, s, r, a, D, i, v, rfl, im, i0, i1, hB, hQ⟩
  show FA Tryz.prog (look t) kp80 Tryz.f80 [.pointer (some ⟨g, 0, none⟩), .int .i64 i, .agg #[.int .i64 v.1, .int .i64 v.2]] m Q
  rw [e80]
  have hi : IntKind.i64.wrap (i + 1) = i + 1 := w64 (by omega) (by omega)
  refine newA_intro fun g1 m2 hg1 e2 hb1 hle2 => ?_
  have im2 := im.le hle2
  have n1 := im.fresh hg1
  refine ⟨Mem.le m2, Mem.le_refl _, _, _, _, held (cell_of im2.p 0), _, held (cell_of hb1 0), im2.put_w i0 (by omega) fun m3 o3 im3 => ?_⟩
  have b3 : m3 g1 = some (.cells #[.int .i64 v.1, .int .i64 v.2] 58 (0, 0)) := by rw [o3 g1 (fun h => n1 (by simp [h]))]; exact hb1
  refine ⟨Mem.le m3, Mem.le_refl _, _, _, _, held (cell_of im3.p 0), _, held (cell_of b3 1), ?_⟩
  rw [hi]
  refine im3.put_w (by omega) (by show i + 1 < (setW a.ws i _).length; rw [setW_len]; exact i1) fun m4 o4 im4 => ?_
  refine ret_off (X := g :: D) (((Off.of_le hle2).trans (Off.of_eq fun b hb => o3 b fun h => hb (by simp [h]))).trans (Off.of_eq fun b hb => o4 b fun h => hb (by simp [h]))) (hQ _ (fun b hb => mix_off hb) ?_)
  exact im4.mix
def s138 : Spec := fun args m Q => ∃ (g : Nat) (s r : Sl) (a : Ar) (D : List Nat), args = [.pointer (some ⟨g, 0, none⟩)] ∧ Im m g s r a D ∧
  ∀ m', (∀ b, b ∉ g :: D → m' b = m b) → Im m' g s r (overA a) D → Q (.tuple #[]) m'
theorem f138 (t : Tab) : ∀ args m Q, s138 args m Q → FA Tryz.prog (look t) kp138 Tryz.f138 args m Q := by
  rintro args m Q ⟨g, s, r, a, D, rfl, im, hQ⟩
  rw [e138]
  refine ⟨Mem.le m, Mem.le_refl _, _, held (cell_of im.p 4), ?_⟩
  cases hc : a.cyc with
  | false =>
    rw [if_neg (by simp)]
    have e : overA a = a := by unfold overA; rw [if_neg (by rw [hc]; simp)]
    rw [e] at hQ
    exact ret_intro (Mem.le_refl _) (hQ m (fun _ _ => rfl) im)
  | true =>
    rw [if_pos rfl]
    refine ⟨_, held (cell_of im.p 5), _, held (cell_of im.p 3), ?_⟩
    by_cases hs : a.scan = a.top
    · rw [if_pos (by simpa using hs)]
      have e : overA a = { a with cyc := false, scan := 0, old := 0, cop := 0 } := by unfold overA; rw [if_pos ⟨hc, hs⟩]
      rw [e] at hQ
      refine im.fld 4 _ { a with cyc := false } rfl (by decide) rfl rfl rfl fun m1 o1 im1 => ?_
      refine im1.fld 5 _ { a with cyc := false, scan := 0 } rfl (by decide) rfl rfl rfl fun m2 o2 im2 => ?_
      refine im2.fld 6 _ { a with cyc := false, scan := 0, old := 0 } rfl (by decide) rfl rfl rfl fun m3 o3 im3 => ?_
      refine im3.fld 7 _ { a with cyc := false, scan := 0, old := 0, cop := 0 } rfl (by decide) rfl rfl rfl fun m4 o4 im4 => ?_
      refine ret_off (X := g :: D) (((((Off.refl _ m).put (by simp) o1).put (by simp) o2).put (by simp) o3).put (by simp) o4) (hQ _ (fun b hb => mix_off hb) im4.mix)
    · rw [if_neg (by simpa using hs)]
      have e : overA a = a := by unfold overA; rw [if_neg (by simp [hs])]
      rw [e] at hQ
      exact ret_intro (Mem.le_refl _) (hQ m (fun _ _ => rfl) im)
/-- A value that may be forwarded. -/
def RefIn (a : Ar) (v : Vl) : Prop := ∃ T1 T2, C0 a T1 T2 ∧ valOkB v = true ∧ (isRefB v = true → v.2 ∈ T1 ∨ v.2 ∈ T2)
def s124 : Spec := fun args m Q => ∃ (g : Nat) (s r : Sl) (a : Ar) (D : List Nat) (v : Vl), args = [.pointer (some ⟨g, 0, none⟩), vVl v] ∧ Im m g s r a D ∧
  (a.cyc = false ∧ Q (vVl v) m ∨ RefIn a v ∧ ∀ m', (∀ b, b ∉ g :: D → m' b = m b) → Im m' g s r (fwdA a v).1 D → Q (vVl (fwdA a v).2) m')
theorem or_top {t : Int} (t0 : 0 ≤ t) (t1 : t ≤ 8000) : IntKind.u64.wrap (BitVec.toNat (BitVec.ofInt (IntKind.bits .u64) (9223372036854775808 : Int) ||| BitVec.ofInt (IntKind.bits .u64) (IntKind.u64.wrap t))) = 9223372036854775808 + t := by
  rw [u64w (x := t) t0 (by omega)]
  obtain ⟨n, rfl⟩ : ∃ n : Nat, t = n := ⟨t.toNat, by omega⟩
  have hb : IntKind.bits .u64 = 64 := rfl
  rw [hb]
  have e1 : BitVec.ofInt 64 (9223372036854775808 : Int) = BitVec.ofNat 64 (2 ^ 63) := by decide
  have e2 : BitVec.ofInt 64 (n : Int) = BitVec.ofNat 64 n := by simp
  rw [e1, e2, BitVec.toNat_or, BitVec.toNat_ofNat, BitVec.toNat_ofNat, Nat.mod_eq_of_lt (by decide), Nat.mod_eq_of_lt (by omega)]
  have : 2 ^ 63 ||| n = 2 ^ 63 + n := by
    have := Nat.two_pow_add_eq_or_of_lt (i := 63) (b := n) (by omega) 1
    rw [Nat.mul_one] at this
    exact this.symm
  rw [this, u64w (by omega) (by omega)]
  omega
/-- A part of the words is put where another part is. -/
theorem copA_w {m : Mem} {base : Addr} {dl dc n c : Nat} {b : Option Addr} {l : List U64} {K : Value → Mem → Prop} (hc : CellsAt m b (flat Enc.e l)) (hl : l.length = min n dl)
    (h : stoA m base (flat Enc.e l) fun m' => K (.int .i64 (min n dl : Nat)) m') : copA Tryz.prog #[22, 22] (.slice (some base) dl dc) (.slice b n c) K m := by
  have e : copA Tryz.prog #[22, 22] (.slice (some base) dl dc) (.slice b n c) K m = (∃ news : List Value, news.length = min n dl * 1 ∧ CellsAt m b news ∧ stoA m base news fun m' => K (.int .i64 (min n dl : Nat)) m') := by kernel_rfl
  rw [e]
  exact ⟨_, by rw [flat_len, hl]; rfl, hc, h⟩
theorem gw_part {ws : List U64} {p : Int} {n : Nat} {j : Int} (p0 : 0 ≤ p) (j0 : 0 ≤ j) (j1 : j < n) : gw ((ws.drop p.toNat).take n) j = gw ws (p + j) := by
  unfold gw
  simp only [List.getD_eq_getElem?_getD]
  rw [List.getElem?_take, if_pos (by omega), List.getElem?_drop]
  have : p.toNat + j.toNat = (p + j).toNat := by omega
  rw [this]
theorem f124 (t : Tab) (h140 : look t 140 = s140) (h86 : look t 86 = s86) (h102 : look t 102 = s102) (h137 : look t 137 = s137) : ∀ args m Q, s124 args m Q → FA Tryz.prog (look t) kp124 Tryz.f124 args m Q := by
  rintro args m Q ⟨g, s, r, a, D, v, rfl, im, hQ⟩
  show FA Tryz.prog (look t) kp124 Tryz.f124 [.pointer (some ⟨g, 0, none⟩), .agg #[.int .i64 v.1, .int .i64 v.2]] m Q
  rw [e124]
  refine newA_intro fun g1 m2 hg1 e2 hb1 hle2 => newA_intro fun g3 m4 hg3 e4 hb3 hle4 => ?_
  have l4 : Mem.le m m4 := Mem.le_trans hle2 hle4
  have im4 := im.le l4
  have n1 := im.fresh hg1
  have n3 := (im.le hle2).fresh hg3
  have b1 := hle4 _ _ hb1
  have n13 : g1 ≠ g3 := ne_of_none hg3 hb1
  have hg3' : m g3 = none := le_none hle2 hg3
  refine ⟨_, cell_of im4.p 4, ?_⟩
  -- what is left alone
  have same : ∀ M : Mem, Off (g :: D) m M → Im M g s r a D → M g1 = some (.cells #[.int .i64 v.1, .int .i64 v.2] 58 (0, 0)) → M g3 = some (.cells #[.int .i64 0, .int .i64 0] 58 (0, 0)) → Q (vVl v) (mixM (g :: D) m M) →
      ∃ y : Int, (Mem.cell? M ⟨g1, 0, none⟩ = some (.int .i64 y) ∧ ∃ y9 : Int, (Mem.cell? M ⟨g1, 1, none⟩ = some (.int .i64 y9) ∧ stoA M ⟨g3, 0, none⟩ [(.int .i64 y), (.int .i64 y9)] fun m11 => (∃ y12 : Int, (Mem.cell? m11 ⟨g3, 0, none⟩ = some (.int .i64 y12) ∧ (∃ y14 : Int, (Mem.cell? m11 ⟨g3, 1, none⟩ = some (.int .i64 y14) ∧ (ret Q (.agg #[(.int .i64 y12), (.int .i64 y14)]) m11))))))) := by
    intro M hO hI h1 h3 hq
    refine ⟨_, cell_of h1 0, _, cell_of h1 1, sto (c := #[.int .i64 0, .int .i64 0]) (t := 58) h3 rfl (by simp) fun m11 e11 h11 ne11 => ?_⟩
    have h11 : m11 g3 = some (.cells #[.int .i64 v.1, .int .i64 v.2] 58 (0, 0)) := h11
    refine ⟨_, cell_of h11 0, _, cell_of h11 1, ret_off (hO.fresh hg3' ne11) ?_⟩
    have : mixM (g :: D) m m11 = mixM (g :: D) m M := by
      funext b
      by_cases hb : b ∈ g :: D
      · rw [mix_in hb, mix_in hb, ne11 b (fun e => n3 (e ▸ hb))]
      · rw [mix_off hb, mix_off hb]
    rw [this]
    exact hq
  have mixm : mixM (g :: D) m m4 = m := by
    funext b
    by_cases hb : b ∈ g :: D
    · rw [mix_in hb]
      have : ∃ o, m b = some o := by
        rcases List.mem_cons.1 hb with e | e
        · rw [e]; exact ⟨_, im.p⟩
        · exact im.w.live b e
      obtain ⟨o, ho⟩ := this
      rw [ho, l4 b o ho]
    · rw [mix_off hb]
  have same4 := fun hq => same m4 (Off.of_le l4) im4 b1 hb3 (by rw [mixm]; exact hq)
  cases hc : a.cyc with
  | false =>
    rw [if_pos (by rfl)]
    rcases hQ with ⟨_, hQ⟩ | ⟨⟨T1, T2, hC, _⟩, _⟩
    · exact same4 hQ
    · rw [hC.cy] at hc; cases hc
  | true =>
    rw [if_neg (by simp)]
    obtain ⟨⟨T1, T2, hC, hv, hin⟩, hQ⟩ : RefIn a v ∧ ∀ m', (∀ b, b ∉ g :: D → m' b = m b) → Im m' g s r (fwdA a v).1 D → Q (vVl (fwdA a v).2) m' := by
      rcases hQ with ⟨h, _⟩ | h
      · rw [hc] at h; cases h
      · exact h
    have nm := hC.nums
    have hs1 := hC.N.sm.s1
    have hl := hC.N.sm.l
    refine ⟨_, cell_of b1 0, _, cell_of b1 1, via h137 ⟨v, rfl, _, rfl, ?_⟩⟩
    cases hr : isRefB v with
    | false =>
      rw [if_pos (by rfl)]
      have e : fwdA a v = (a, v) := by unfold fwdA; rw [if_neg (by rw [hr]; simp)]
      rw [e] at hQ
      exact same4 (hQ m (fun _ _ => rfl) im)
    | true =>
      rw [if_neg (by simp)]
      refine ⟨_, cell_of b1 1, via h140 ⟨g, s, r, a, v.2, rfl, im4.p, hC.N.sm, _, rfl, ?_⟩⟩
      cases ho : otherA a v.2 with
      | false =>
        rw [if_pos (by rfl)]
        have e : fwdA a v = (a, v) := by unfold fwdA; rw [if_neg (by rw [ho]; simp)]
        rw [e] at hQ
        exact same4 (hQ m (fun _ _ => rfl) im)
      | true =>
        rw [if_neg (by simp)]
        have hp : v.2 ∈ T2 := by
          rcases hin hr with h | h
          · rw [hC.other1 h] at ho; cases ho
          · exact h
        have i2 := hC.in2 hp
        have h0 : 0 ≤ v.2 := by omega
        have h1 : v.2 < a.ws.length := by omega
        refine ⟨Mem.le m4, Mem.le_refl _, _, _, _, held (cell_of im4.p 0), _, held (cell_of b1 1), wd im4.w.at.w im4.w.at.n h0 (by rw [← im4.w.at.n]; exact h1) fun ad had hd => ⟨_, hd, via h102 ⟨_, rfl, gw_in hC.wf.w v.2, _, _, rfl, Mem.le_refl _, ?_⟩⟩⟩
        cases hf : (fwd (gw a.ws v.2)).2 with
        | true =>
          rw [if_pos rfl]
          have e : fwdA a v = (a, (v.1, toW a.ws v.2)) := by unfold fwdA; rw [if_pos ⟨hr, ho⟩, if_pos hf]
          rw [e] at hQ
          refine sto (c := #[.int .i64 v.1, .int .i64 v.2]) (t := 58) b1 rfl (by simp) fun m5 e5 h5 ne5 => ?_
          have h5 : m5 g1 = some (.cells #[.int .i64 v.1, .int .i64 (fwd (gw a.ws v.2)).1] 58 (0, 0)) := h5
          have b3 : m5 g3 = some (.cells #[.int .i64 0, .int .i64 0] 58 (0, 0)) := by rw [ne5 g3 (Ne.symm n13)]; exact hb3
          have o5 : Off (g :: D) m m5 := (Off.of_le l4).fresh hg1 ne5
          refine ⟨_, cell_of h5 0, _, cell_of h5 1, sto (c := #[.int .i64 0, .int .i64 0]) (t := 58) b3 rfl (by simp) fun m6 e6 h6 ne6 => ?_⟩
          have h6 : m6 g3 = some (.cells #[.int .i64 v.1, .int .i64 (fwd (gw a.ws v.2)).1] 58 (0, 0)) := h6
          refine ⟨_, cell_of h6 0, _, cell_of h6 1, ret_off (o5.fresh hg3' ne6) (hQ _ (fun b hb => mix_off hb) (Im.mix (im4.ext fun b hb => ?_)))⟩
          rw [ne6 b (fun e => n3 (e ▸ hb)), ne5 b (fun e => n1 (e ▸ hb))]
        | false =>
          rw [if_neg (by simp)]
          have e : fwdA a v = (fwdW a v.2, (v.1, a.top)) := by unfold fwdA; rw [if_pos ⟨hr, ho⟩, if_neg (by rw [hf]; simp)]
          rw [e] at hQ
          have hok : okW (gw a.ws v.2) = true := by
            rcases hC.h2 v.2 hp with h | h
            · exact h
            · rw [hf] at h; cases h.1
          have bz := szW_0 hC.wf.w v.2
          have hs2 := hC.s2
          have hm := sumC_mem hC.wf.w hp hok
          have ez : szC a.ws v.2 = szW a.ws v.2 := if_pos hok
          have w1 : IntKind.i64.wrap (szW a.ws v.2 + 1) = szW a.ws v.2 + 1 := w64 (by omega) (by omega)
          have w2 : IntKind.i64.wrap (a.top + (szW a.ws v.2 + 1)) = a.top + (szW a.ws v.2 + 1) := w64 (by omega) (by omega)
          have w3 : IntKind.i64.wrap (v.2 + (szW a.ws v.2 + 1)) = v.2 + (szW a.ws v.2 + 1) := w64 (by omega) (by omega)
          have w4 : IntKind.i64.wrap (a.cop + (szW a.ws v.2 + 1)) = a.cop + (szW a.ws v.2 + 1) := w64 (by omega) (by omega)
          have hAt := im4.w.at
          have hsn := hAt.n
          have hsc := hAt.c
          refine ⟨_, cell_of b1 1, via h86 ⟨g, s, r, a, v.2, rfl, ⟨im4.p, hAt, hC.wf, h0, h1⟩, _, _, _, rfl, ?_⟩⟩
          refine ⟨Mem.le m4, Mem.le_refl _, _, _, _, held (cell_of im4.p 0), _, held (cell_of im4.p 3), _, held (cell_of im4.p 3), ?_⟩
          rw [show IntKind.i64.wrap ((lookW a.ws v.2).2.1 + 1) = szW a.ws v.2 + 1 from w1, w2]
          have ht0 : 0 ≤ a.top := by omega
          have hcap : a.top + (szW a.ws v.2 + 1) ≤ s.c := by omega
          refine ⟨by omega, hcap, by omega, by omega, _, _, _, held (cell_of im4.p 0), _, held (cell_of b1 1), _, held (cell_of b1 1), by rw [w3]; omega, by rw [w3]; omega, by omega, by rw [w3]; omega, ?_⟩
          rw [w3, if_neg (by omega)]
          have hws : ((a.ws.drop v.2.toNat).take (szW a.ws v.2 + 1).toNat).length = (szW a.ws v.2 + 1).toNat := by rw [List.length_take, List.length_drop]; omega
          have hrd : Rd m4 (if s.c = v.2.toNat then s.a else Option.map (·.add (v.2.toNat * 1)) s.a) (((a.ws.drop v.2.toNat).take (szW a.ws v.2 + 1).toNat)) := by
            rw [if_neg (by omega)]
            exact (hAt.w.drop v.2.toNat).take _
          obtain ⟨d, hd⟩ := im4.w.base (by omega)
          rw [hd] at hrd
          rw [show Option.map (·.add (a.top.toNat * 1)) s.a = some (d.add (a.top.toNat * 1)) by rw [hd]; rfl]
          rw [hd]
          refine copA_w (cells_of_rd hrd) (by rw [hws]; omega) ?_
          refine im4.w.mid hd (q := a.top) (ws' := copyW a.ws a.top v.2 (szW a.ws v.2 + 1).toNat) ht0 (by rw [hws]; omega) (by rw [hws]; omega) (copyW_len _ _ _ _) (fun j j0 j1 => by
            rw [hws]
            rw [gw_copy ht0 h0 _ (by omega) (by omega) j j0]
            by_cases c : a.top ≤ j ∧ j < a.top + ((szW a.ws v.2 + 1).toNat : Nat)
            · rw [if_pos c, if_pos c, gw_part h0 (by omega) (by omega)]
            · rw [if_neg c, if_neg c]) (fun m5 o5 w5 => ?_)
          have p5 : Im m5 g s r { a with ws := copyW a.ws a.top v.2 (szW a.ws v.2 + 1).toNat } D := ⟨by unfold Ptr; rw [o5 g im4.g]; exact im4.p, w5, im4.g⟩
          have h15 : m5 g1 = some (.cells #[.int .i64 v.1, .int .i64 v.2] 58 (0, 0)) := by rw [o5 g1 (fun h => n1 (by simp [h]))]; exact b1
          have h35 : m5 g3 = some (.cells #[.int .i64 0, .int .i64 0] 58 (0, 0)) := by rw [o5 g3 (fun h => n3 (by simp [h]))]; exact hb3
          have off5 : Off (g :: D) m m5 := (Off.of_le l4).trans (Off.of_eq fun b hb => o5 b fun h => hb (by simp [h]))
          refine ⟨Mem.le m5, Mem.le_refl _, _, _, _, held (cell_of p5.p 0), _, held (cell_of h15 1), _, held (cell_of p5.p 3), ?_⟩
          refine p5.put_w h0 (by show v.2 < (copyW a.ws a.top v.2 _).length; rw [copyW_len]; exact h1) fun m6 o6 p6 => ?_
          rw [or_top (t := a.top) (by omega) (by omega)] at p6
          have h16 : m6 g1 = some (.cells #[.int .i64 v.1, .int .i64 v.2] 58 (0, 0)) := by rw [o6 g1 (fun h => n1 (by simp [h]))]; exact h15
          have h36 : m6 g3 = some (.cells #[.int .i64 0, .int .i64 0] 58 (0, 0)) := by rw [o6 g3 (fun h => n3 (by simp [h]))]; exact h35
          have off6 : Off (g :: D) m m6 := off5.trans (Off.of_eq fun b hb => o6 b fun h => hb (by simp [h]))
          refine ⟨_, cell_of p6.p 3, sto (c := #[.int .i64 v.1, .int .i64 v.2]) (t := 58) h16 rfl (by simp) fun m7 e7 h7 ne7 => ?_⟩
          have h7 : m7 g1 = some (.cells #[.int .i64 v.1, .int .i64 a.top] 58 (0, 0)) := h7
          have h37 : m7 g3 = some (.cells #[.int .i64 0, .int .i64 0] 58 (0, 0)) := by rw [ne7 g3 (Ne.symm n13)]; exact h36
          have off7 : Off (g :: D) m m7 := off6.fresh hg1 ne7
          have p7 := p6.ext (m' := m7) fun b hb => ne7 b fun e => n1 (e ▸ hb)
          refine ⟨_, cell_of p7.p 3, ?_⟩
          show stoA m7 ⟨g, 3, none⟩ [.int .i64 (IntKind.i64.wrap (a.top + (szW a.ws v.2 + 1)))] _
          rw [w2]
          refine p7.fld 3 _ { a with ws := setW (copyW a.ws a.top v.2 (szW a.ws v.2 + 1).toNat) v.2 (9223372036854775808 + a.top), top := a.top + (szW a.ws v.2 + 1) } rfl (by decide) rfl rfl rfl fun m8 o8 p8 => ⟨_, cell_of p8.p 7, ?_⟩
          show stoA m8 ⟨g, 7, none⟩ [.int .i64 (IntKind.i64.wrap (a.cop + (szW a.ws v.2 + 1)))] _
          rw [w4]
          refine p8.fld 7 _ (fwdW a v.2) rfl (by decide) rfl rfl rfl fun m9 o9 p9 => ?_
          have off9 : Off (g :: D) m m9 := (off7.put (by simp) o8).put (by simp) o9
          have h19 : m9 g1 = some (.cells #[.int .i64 v.1, .int .i64 a.top] 58 (0, 0)) := by rw [o9 g1 (fun h => n1 (by simp [h])), o8 g1 (fun h => n1 (by simp [h]))]; exact h7
          have h39 : m9 g3 = some (.cells #[.int .i64 0, .int .i64 0] 58 (0, 0)) := by rw [o9 g3 (fun h => n3 (by simp [h])), o8 g3 (fun h => n3 (by simp [h]))]; exact h37
          refine ⟨_, cell_of h19 0, _, cell_of h19 1, sto (c := #[.int .i64 0, .int .i64 0]) (t := 58) h39 rfl (by simp) fun m10 e10 h10 ne10 => ?_⟩
          have h10 : m10 g3 = some (.cells #[.int .i64 v.1, .int .i64 a.top] 58 (0, 0)) := h10
          exact ⟨_, cell_of h10 0, _, cell_of h10 1, ret_off (off9.fresh hg3' ne10) (hQ _ (fun b hb => mix_off hb) (Im.mix (p9.ext fun b hb => ne10 b fun e => n3 (e ▸ hb))))⟩
end Go.Proofs.YtpdcjocjkbgddaaGreat.Abs
/- Copying by the program: steps, ends, flips, collections. -/
namespace Go.Proofs.YtpdcjocjkbgddaaGreat.Abs
open Go.RowKit
set_option linter.unusedVariables false
set_option linter.unusedSimpArgs false
set_option maxRecDepth 20000
/-- A right arena. -/
def OkC (a : Ar) : Prop := (∃ T1, I0 a T1) ∨ ∃ T1 T2, C1 a T1 T2
theorem Gd.okC {a : Ar} (h : Gd a) : OkC a := by
  rcases h with h | ⟨T1, T2, h, _⟩
  · exact .inl h
  · exact .inr ⟨T1, T2, h⟩
theorem OkC.over {a : Ar} (h : OkC a) : Gd (overA a) ∧ Sz a (overA a) ∧ (overA a).to = a.to := by
  rcases h with ⟨T1, h⟩ | ⟨T1, T2, h⟩
  · have hG : Gd a := .inl ⟨T1, h⟩
    rw [hG.over]
    exact ⟨hG, Sz.refl a, rfl⟩
  · obtain ⟨h1, h2, h3, _⟩ := h.over
    exact ⟨h1, h2, h3⟩
theorem OkC.fin {a : Ar} (h : OkC a) : (∃ T1, I0 (finA a) T1) ∧ Sz a (finA a) ∧ (finA a).to = a.to ∧ ∀ n : Nat, a.semi ≤ n → stepsA n (overA a) = finA a := by
  obtain ⟨h1, h2, h3⟩ := h.over
  obtain ⟨k1, k2, k3, k4⟩ := fin_gd h1
  have e : finA (overA a) = finA a := by unfold finA; rw [h1.over]
  rw [e] at k1 k2 k3
  refine ⟨k1, h2.trans k2, k3.trans h3, fun n hn => ?_⟩
  have := k4 n (by rw [h2.semi]; exact hn)
  rw [h1.over, e] at this
  exact this
theorem OkC.num {a : Ar} (h : OkC a) : NumP a ∧ a.wf := by
  rcases h with ⟨T1, h⟩ | ⟨T1, T2, h⟩
  · exact ⟨h.N, h.wf⟩
  · exact ⟨h.c.N, h.c.wf⟩
theorem scS_app (p : Int) : ∀ (xs ys : List Int) (a : Ar), scS p (xs ++ ys) a = scS p ys (scS p xs a)
  | [], _, _ => rfl
  | x :: xs, ys, a => by
    show scS p (xs ++ ys) _ = scS p ys (scS p xs _)
    rw [scS_app p xs ys]
/-- The slots of an object are gone over. -/
theorem slots_loop (t : Tab) (h125 : look t 125 = s125) (h124 : look t 124 = s124) (h80 : look t 80 = s80) (h138 : look t 138 = s138) {Q : Value → Mem → Prop} {g g6 n5 : Nat} {s r sl : Sl} {D E : List Nat} {m0 : Mem} {a : Ar} {T2 : List Int} {x1 x5 ser : Int}
    (h6 : g6 ∉ g :: D) (hE : ∀ b ∈ E, b ∉ g :: D) (a0 : 0 ≤ a.scan) (a1 : a.scan ≤ 8000) (hw : ∀ x ∈ a.ws, inW x.v)
    (hK : ∀ M', Off (g :: D) m0 M' → Im M' g s r (overA (scanA a)) D → L110_5 (look t) n5 Q g x1 (IntKind.i64.wrap (x5 + 1)) M') :
    ∀ (d i : Nat), i + d = (slotsL (kdW a.ws a.scan) (szW a.ws a.scan)).length → ∀ (M : Mem) (b : Ar) (T1 : List Int), Off (g :: D) m0 M → Im M g s r b D → C0 b T1 T2 → a.scan ∈ T1 → kdW b.ws a.scan = kdW a.ws a.scan → szW b.ws a.scan = szW a.ws a.scan → b.scan = a.scan →
      scS a.scan ((slotsL (kdW a.ws a.scan) (szW a.ws a.scan)).drop i) b = scS a.scan (slotsL (kdW a.ws a.scan) (szW a.ws a.scan)) a →
      OwnL M sl (slotsL (kdW a.ws a.scan) (szW a.ws a.scan)) E → M g6 = some (.cells #[.int .i64 (kdW a.ws a.scan), .int .i64 (szW a.ws a.scan), .int .i64 ser] 72 (0, 0)) →
      L110_8 (look t) n5 (d + 1) Q g x1 x5 g6 sl.a sl.n sl.c (sl.n : Int) (i : Int) M := by
  intro d
  induction d with
  | zero =>
    intro i hi M b T1 hO im hC hp hk hz hs he hsl hb6
    have bz := szW_0 hw a.scan
    rw [l110_8]
    refine ⟨M, Mem.le_refl _, ?_⟩
    have hn := hsl.1
    rw [if_neg (by simp; omega)]
    refine ⟨Mem.le M, Mem.le_refl _, _, held (cell_of im.p 5), _, held (cell_of hb6 1), ?_⟩
    rw [hs, w64 (x := a.scan + szW a.ws a.scan) (by omega) (by omega), w64 (by omega) (by omega)]
    rw [List.drop_eq_nil_of_le (by omega)] at he
    have he : b = scS a.scan (slotsL (kdW a.ws a.scan) (szW a.ws a.scan)) a := he
    refine im.fld 5 _ (scanA a) (by unfold scanA; rw [← he]; rfl) (by decide) rfl (by unfold scanA; rw [← he]) (by unfold scanA; rw [← he]) fun m1 o1 im1 => ?_
    refine via h138 ⟨g, s, r, scanA a, D, rfl, im1, fun m2 o2 im2 => ⟨rfl, hK m2 ((hO.put (by simp) o1).trans (Off.of_eq o2)) im2⟩⟩
  | succ d ih =>
    intro i hi M b T1 hO im hC hp hk hz hs he hsl hb6
    have hn := hsl.1
    have hlt : i < (slotsL (kdW a.ws a.scan) (szW a.ws a.scan)).length := by omega
    rw [l110_8]
    refine ⟨M, Mem.le_refl _, ?_⟩
    rw [if_pos (by simp; omega)]
    refine idx' hsl.rd hn.symm (by omega) (by omega) fun ad had hd => ⟨_, hd 0 _ rfl, ?_⟩
    have ei : (i : Int).toNat = i := by omega
    simp only [ei]
    generalize hx : (slotsL (kdW a.ws a.scan) (szW a.ws a.scan))[i] = x
    have hxm : x ∈ slotsL (kdW a.ws a.scan) (szW a.ws a.scan) := hx ▸ List.getElem_mem _
    have hxb : x ∈ slotsL (kdW b.ws a.scan) (szW b.ws a.scan) := by rw [hk, hz]; exact hxm
    have sx := slots_in (size_ok hC.wf (hC.h1 _ hp)).1 hxb
    have ip := hC.in1 hp
    have nm := hC.nums
    have hl := hC.N.sm.l
    have hs1 := hC.N.sm.s1
    have w1 : IntKind.i64.wrap (a.scan + x) = a.scan + x := w64 (by omega) (by omega)
    obtain ⟨v1, v2⟩ := hC.v1 _ hp x hxb
    have hAt := im.w.at
    have hsn := hAt.n
    refine ⟨fun q => Mem.cell? q ⟨g, 5, none⟩ = some (.int .i64 a.scan), (cell_of im.p 5).trans (by show some (Value.int .i64 b.scan) = _; rw [hs]), _, fun q hq => hq, _, fun q hq => hq, ?_⟩
    rw [w1]
    refine via h125 ⟨g, s, r, b, a.scan + x, rfl, ⟨im.p, hAt, hC.wf, by omega, by omega⟩, by omega, _, _, rfl, (cell_of im.p 5).trans (by show some (Value.int .i64 b.scan) = _; rw [hs]), ?_⟩
    refine via h124 ⟨g, s, r, b, D, valW b.ws (a.scan + x), rfl, im, .inr ⟨⟨T1, T2, hC, v1, v2⟩, fun m1 o1 im1 => ?_⟩⟩
    obtain ⟨Ta, F⟩ := fwd_ok hC v1 v2
    refine ⟨_, _, rfl, (cell_of im1.p 5).trans (by show some (Value.int .i64 (fwdA b _).1.scan) = _; rw [F.f.scan, hs]), ?_⟩
    refine via h80 ⟨g, s, r, _, D, a.scan + x, _, rfl, im1, by omega, by rw [F.f.len]; omega, by rw [F.f.len]; omega, fun m2 o2 im2 => ⟨rfl, ?_⟩⟩
    have ew : IntKind.i64.wrap ((i : Int) + 1) = ((i + 1 : Nat) : Int) := wsucc (n := i + 1) (by omega) (by
      have : (slotsL (kdW a.ws a.scan) (szW a.ws a.scan)).length ≤ 2 ^ 30 := by
        unfold slotsL
        rw [everyK_len]
        unfold numK fromK
        have := szW_0 hw a.scan
        repeat' split
        all_goals omega
      omega)
    rw [ew]
    obtain ⟨T1', S⟩ := scan_ok (p := a.scan) (T2 := T2) [x] b T1 hC hp (by simp) (fun y hy => by simp at hy; subst hy; exact hxb)
    have hO2 : Off (g :: D) m0 m2 := (hO.trans (Off.of_eq o1)).trans (Off.of_eq o2)
    have e0 := S.head _ hp
    refine ih (i + 1) (by omega) m2 _ T1' hO2 im2 S.c (S.sub _ hp) ((kd_c e0).trans hk) ((sz_c e0).trans hz) (S.f.scan.trans hs) ?_ (hsl.ext fun q hq => by rw [o2 q (hE q hq), o1 q (hE q hq)]) (by rw [o2 g6 h6, o1 g6 h6]; exact hb6)
    rw [← he, List.drop_eq_getElem_cons hlt, hx]
    rfl
def s110 : Spec := fun args m Q => ∃ (g : Nat) (s r : Sl) (a : Ar) (D : List Nat) (n : Int), args = [.pointer (some ⟨g, 0, none⟩), .int .i64 n] ∧ Im m g s r a D ∧ OkC a ∧ 1 ≤ n ∧ n ≤ 2 ^ 20 ∧
  ∀ m' (k : Int), (∀ b, b ∉ g :: D → m' b = m b) → Im m' g s r (stepsA n.toNat (overA a)) D → Q (.int .i64 k) m'
theorem f110 (t : Tab) (h125 : look t 125 = s125) (h124 : look t 124 = s124) (h80 : look t 80 = s80) (h138 : look t 138 = s138) (h86 : look t 86 = s86) (h131 : look t 131 = s131) : ∀ args m Q, s110 args m Q → FA Tryz.prog (look t) kp110 Tryz.f110 args m Q := by
  rintro args m Q ⟨g, s, r, a, D, n, rfl, im, hOk, hn1, hn, hQ⟩
  rw [e110]
  rw [if_neg (by simp; omega)]
  refine via h138 ⟨g, s, r, a, D, rfl, im, fun m1 o1 im1 => ⟨rfl, n.toNat + 1, ?_⟩⟩
  have hG := hOk.over.1
  have key : ∀ (f i : Nat), i + f = n.toNat → ∀ (M : Mem) (b : Ar), Im M g s r b D → Off (g :: D) m M → Gd b → (∀ M' (k : Int), Off (g :: D) m M' → Im M' g s r (stepsA f b) D → ret Q (.int .i64 k) M') → L110_5 (look t) (f + 1) Q g n (i : Int) M := by
    intro f
    induction f with
    | zero =>
      intro i hi M b imb hO hGb hK
      rw [l110_5]
      refine ⟨M, Mem.le_refl _, _, cell_of imb.p 4, ?_⟩
      have fin := hK M i hO imb
      cases b.cyc with
      | false => rw [if_neg (by simp)]; exact fin
      | true => rw [if_pos rfl, if_neg (by simp; omega)]; exact fin
    | succ f ih =>
      intro i hi M b imb hO hGb hK
      rw [l110_5]
      refine ⟨M, Mem.le_refl _, _, cell_of imb.p 4, ?_⟩
      rcases hGb with ⟨T1, h⟩ | ⟨T1, T2, h, hne⟩
      · rw [h.cy, if_neg (by simp)]
        refine hK M i hO ?_
        rw [steps_idle _ h.cy]
        exact imb
      · have hc := h.c.cy
        have hC := h.c
        rw [hc, if_pos rfl, if_pos (by simp; omega)]
        have hp : b.scan ∈ T1 := h.sc.resolve_left hne
        have ip := hC.in1 hp
        have nm := hC.nums
        have hs1 := hC.N.sm.s1
        have hl := hC.N.sm.l
        have hAt := imb.w.at
        have bz := szW_0 hC.wf.w b.scan
        refine ⟨_, cell_of imb.p 5, via h86 ⟨g, s, r, b, b.scan, rfl, ⟨imb.p, hAt, hC.wf, by omega, by omega⟩, _, _, _, rfl, ?_⟩⟩
        refine newA_intro fun g6 m6 hg6 e6 hb6 hle6 => sto (c := #[.int .i64 0, .int .i64 0, .int .i64 0]) (t := 72) hb6 rfl (by simp) fun m7 e7 h7 ne7 => ?_
        have h7 : m7 g6 = some (.cells #[.int .i64 (kdW b.ws b.scan), .int .i64 (szW b.ws b.scan), .int .i64 (serW b.ws b.scan)] 72 (0, 0)) := h7
        have n6 := imb.fresh hg6
        have le7 : Mem.le M m7 := le_other hle6 hg6 ne7
        refine ⟨_, cell_of h7 0, _, cell_of h7 1, via h131 ⟨_, _, rfl, bz.1, bz.2, (size_ok hC.wf (hC.h1 _ hp)).1, fun sl M2 E hle2 hsl hE => ⟨_, _, _, rfl, (slotsL (kdW b.ws b.scan) (szW b.ws b.scan)).length + 1, ?_⟩⟩⟩
        have im2 := imb.le (Mem.le_trans le7 hle2)
        have hO2 : Off (g :: D) m M2 := hO.trans (Off.of_le (Mem.le_trans le7 hle2))
        obtain ⟨T1', k1, k2, k3, k4⟩ := h.scan hne
        obtain ⟨o1, o2, o3, o4⟩ := k1.over
        refine slots_loop t h125 h124 h80 h138 (T2 := T2) (a := b) (m0 := m) (E := E) n6 (fun q hq => imb.fresh (le_none le7 (hE q hq))) (by omega) (by omega) hC.wf.w (fun M' hO' imM => ?_) _ 0 (by omega) M2 b T1 hO2 im2 hC hp rfl rfl rfl rfl hsl (hle2 _ _ h7)
        have ew : IntKind.i64.wrap ((i : Int) + 1) = ((i + 1 : Nat) : Int) := wsucc (n := i + 1) (by omega) (by omega)
        rw [ew]
        refine ih (i + 1) (by omega) M' _ imM hO' o1 fun M'' k hO'' im'' => hK M'' k hO'' ?_
        unfold stepsA
        rw [if_pos hc]
        exact im''
  refine key n.toNat 0 (by omega) m1 (overA a) im1 (Off.of_eq o1) hG fun M' k hO' im' => ret_off hO' (hQ _ k (fun b hb => mix_off hb) im'.mix)
def s139 : Spec := fun args m Q => ∃ (g : Nat) (s r : Sl) (a : Ar) (D : List Nat), args = [.pointer (some ⟨g, 0, none⟩)] ∧ Im m g s r a D ∧ OkC a ∧
  ∀ m' (k : Int), (∀ b, b ∉ g :: D → m' b = m b) → Im m' g s r (finA a) D → Q (.int .i64 k) m'
theorem f139 (t : Tab) (h110 : look t 110 = s110) : ∀ args m Q, s139 args m Q → FA Tryz.prog (look t) kp139 Tryz.f139 args m Q := by
  rintro args m Q ⟨g, s, r, a, D, rfl, im, hG, hQ⟩
  rw [e139]
  have hn := im.w.at.n
  have sm := hG.num.1.sm
  have s0 := sm.s0
  have s1 := sm.s1
  have hl := sm.l
  refine ⟨_, _, _, cell_of im.p 0, via h110 ⟨g, s, r, a, D, _, rfl, im, hG, by omega, by omega, fun m1 k o1 im1 => ⟨_, rfl, ?_⟩⟩⟩
  have e : stepsA ((s.n : Int).toNat) (overA a) = finA a := hG.fin.2.2.2 s.n (by omega)
  rw [e] at im1
  exact ret_intro (Mem.le_refl _) (hQ m1 k o1 im1)
end Go.Proofs.YtpdcjocjkbgddaaGreat.Abs
/- Copying by the program: flips, collections, what is free. -/
namespace Go.Proofs.YtpdcjocjkbgddaaGreat.Abs
open Go.RowKit
set_option linter.unusedVariables false
set_option linter.unusedSimpArgs false
set_option maxRecDepth 20000
def flS (i : Nat) (a : Ar) : Ar := { (fwdA a (a.rs.getD i (0, 0))).1 with rs := (fwdA a (a.rs.getD i (0, 0))).1.rs.set i (fwdA a (a.rs.getD i (0, 0))).2 }
theorem flS_ok {T2 : List Int} {i : Nat} {a : Ar} {T1 : List Int} (hlt : i < a.rs.length) (h : FlI a T1 T2 i) : (valOkB (a.rs.getD i (0, 0)) = true ∧ (isRefB (a.rs.getD i (0, 0)) = true → (a.rs.getD i (0, 0)).2 ∈ T1 ∨ (a.rs.getD i (0, 0)).2 ∈ T2)) ∧ ∃ Ta, FlI (flS i a) Ta T2 (i + 1) ∧ SameF a (fwdA a (a.rs.getD i (0, 0))).1 ∧ (flS i a).rs.length = a.rs.length := by
  obtain ⟨v1, v2⟩ := h.r i hlt
  have eg : a.rs.getD i (0, 0) = a.rs[i] := by rw [List.getD_eq_getElem?_getD, List.getElem?_eq_getElem hlt]; rfl
  unfold flS
  rw [eg]
  refine ⟨⟨v1, fun hr => (v2 hr).2⟩, ?_⟩
  obtain ⟨Ta, F⟩ := fwd_ok h.c v1 fun hr => (v2 hr).2
  generalize hf : fwdA a a.rs[i] = fr at F ⊢
  obtain ⟨b, w⟩ := fr
  have F : FwdOk a T1 T2 a.rs[i] b w Ta := F
  have hrs : b.rs = a.rs := F.f.rs
  have hl : (b.rs.set i w).length = b.rs.length := by rw [List.length_set]
  refine ⟨Ta, ⟨F.c.put_rs hl, ?_, fun j hj => ?_⟩, F.f, ?_⟩
  · show b.scan = startA b b.to
    rw [F.f.scan, h.s, F.f.start, F.f.to]
  · have hj : j < (b.rs.set i w).length := hj
    show valOkB (b.rs.set i w)[j] = true ∧ (isRefB (b.rs.set i w)[j] = true → (j < i + 1 → (b.rs.set i w)[j].2 ∈ Ta) ∧ ((b.rs.set i w)[j].2 ∈ Ta ∨ (b.rs.set i w)[j].2 ∈ T2))
    rw [List.getElem_set]
    by_cases e : i = j
    · rw [if_pos e]
      exact ⟨F.ok, fun hr => ⟨fun _ => F.r hr, .inl (F.r hr)⟩⟩
    · rw [if_neg e]
      have hja : j < a.rs.length := by rw [hl, hrs] at hj; exact hj
      have ej : b.rs[j]'(by rw [hrs]; exact hja) = a.rs[j] := by simp only [hrs]
      rw [ej]
      obtain ⟨w1, w2⟩ := h.r j hja
      exact ⟨w1, fun hr => ⟨fun hjl => F.sub _ ((w2 hr).1 (by omega)), (w2 hr).2.imp (F.sub _) id⟩⟩
  · show (b.rs.set i w).length = _
    rw [hl, hrs]
theorem rget {m : Mem} {a : Option Addr} {l : List Vl} {i : Int} {n : Nat} {K : Addr → Prop} (h : Rd m a l) (hn : l.length = n) (h0 : 0 ≤ i) (hi : i < n)
    (hK : ∀ ad, a = some ad → m.cell? (ad.add (i.toNat * 2)) = some (.int .i64 (l.getD i.toNat (0, 0)).1) → m.cell? ((ad.add (i.toNat * 2)).add 1) = some (.int .i64 (l.getD i.toNat (0, 0)).2) → K ad) : optA a fun ad => 0 ≤ i ∧ i < (n : Int) ∧ K ad := by
  have hlt : i.toNat < l.length := by omega
  have eg : l.getD i.toNat (0, 0) = l[i.toNat] := by rw [List.getD_eq_getElem?_getD, List.getElem?_eq_getElem hlt]; rfl
  rw [eg] at hK
  refine idx' h hn h0 hi fun ad had hd => hK ad had (hd 0 _ rfl) ?_
  exact hd 1 _ rfl
theorem roots_fl (t : Tab) (h124 : look t 124 = s124) (h138 : look t 138 = s138) {Q : Value → Mem → Prop} {g : Nat} {s r : Sl} {D : List Nat} {m0 : Mem} {T2 : List Int} :
    ∀ (d i : Nat), i + d = r.n → r.n ≤ 2 ^ 20 → ∀ (M : Mem) (b : Ar) (T1 : List Int), Off (g :: D) m0 M → Im M g s r b D → FlI b T1 T2 i →
      (∀ M', Off (g :: D) m0 M' → Im M' g s r (overA (flR d i b)) D → ret Q (.tuple #[]) M') → L111_7 (look t) (d + 1) Q g r.a r.n r.c (r.n : Int) (i : Int) M := by
  intro d
  induction d with
  | zero =>
    intro i hi hB M b T1 hO im hF hK
    rw [l111_7]
    refine ⟨M, Mem.le_refl _, ?_⟩
    rw [if_neg (by simp; omega)]
    exact via h138 ⟨g, s, r, b, D, rfl, im, fun m1 o1 im1 => ⟨rfl, hK m1 (hO.trans (Off.of_eq o1)) im1⟩⟩
  | succ d ih =>
    intro i hi hB M b T1 hO im hF hK
    have hAt := im.w.at
    have hk := hAt.k
    rw [l111_7]
    refine ⟨M, Mem.le_refl _, ?_⟩
    rw [if_pos (by simp; omega)]
    refine rget hAt.r hk (by omega) (by omega) fun ad had c1 c2 => ⟨_, c1, _, c2, ?_⟩
    have ei : (i : Int).toNat = i := by omega
    simp only [ei]
    obtain ⟨⟨v1, v2⟩, Ta, F, sf, hlen⟩ := flS_ok (show i < b.rs.length by omega) hF
    refine newA_intro fun g1 m1 hg1 e1 hb1 hle1 => sto (c := #[.int .i64 0, .int .i64 0]) (t := 58) hb1 rfl (by simp) fun m2 e2 h2 ne2 => ?_
    have h2 : m2 g1 = some (.cells #[.int .i64 (b.rs.getD i (0, 0)).1, .int .i64 (b.rs.getD i (0, 0)).2] 58 (0, 0)) := h2
    have n1 := im.fresh hg1
    have le2 : Mem.le M m2 := le_other hle1 hg1 ne2
    have im2 := im.le le2
    refine ⟨fun q => Mem.cell? q ⟨g, 9, none⟩ = some (vs r) ∧ q g1 = m2 g1, ⟨cell_of im2.p 9, rfl⟩, _, _, _, fun q hq => hq.1, _, fun q hq => cell_of (hq.2.trans h2) 0, _, fun q hq => cell_of (hq.2.trans h2) 1, ?_⟩
    refine via h124 ⟨g, s, r, b, D, b.rs.getD i (0, 0), rfl, im2, .inr ⟨⟨T1, T2, hF.c, v1, v2⟩, fun m3 o3 im3 => ⟨_, _, rfl, ⟨cell_of im3.p 9, o3 g1 n1⟩, ?_⟩⟩⟩
    refine im3.put_r (v := (fwdA b (b.rs.getD i (0, 0))).2) (by omega) (by rw [sf.rs]; omega) fun m4 o4 im4 => ?_
    have ew : IntKind.i64.wrap ((i : Int) + 1) = ((i + 1 : Nat) : Int) := wsucc (n := i + 1) (by omega) (by omega)
    rw [ew]
    simp only [ei] at im4
    refine ih (i + 1) (by omega) hB m4 (flS i b) Ta (((hO.trans (Off.of_le le2)).trans (Off.of_eq o3)).trans (Off.of_eq fun q hq => o4 q fun h => hq (by simp [h]))) im4 F fun M' hO' im' => hK M' hO' im'
def s111 : Spec := fun args m Q => ∃ (g : Nat) (s r : Sl) (a : Ar) (D : List Nat), args = [.pointer (some ⟨g, 0, none⟩)] ∧ Im m g s r a D ∧ (∃ T1, I0 a T1) ∧
  ∀ m', (∀ b, b ∉ g :: D → m' b = m b) → Im m' g s r (flipA a) D → Q (.tuple #[]) m'
theorem f111 (t : Tab) (h124 : look t 124 = s124) (h138 : look t 138 = s138) (h63 : look t 63 = s63) : ∀ args m Q, s111 args m Q → FA Tryz.prog (look t) kp111 Tryz.f111 args m Q := by
  rintro args m Q ⟨g, s, r, a, D, rfl, im, ⟨T1, hI⟩, hQ⟩
  rw [e111]
  have sm := hI.N.sm
  have t0 := sm.t0
  have t1 := sm.t1
  have s0 := sm.s0
  have s1 := sm.s1
  have w1 : IntKind.i64.wrap (1 - a.to) = 1 - a.to := w64 (by omega) (by omega)
  refine ⟨_, cell_of im.p 3, im.fld 6 _ { a with old := a.top } rfl (by decide) rfl rfl rfl fun m1 o1 im1 => ⟨_, cell_of im1.p 2, ?_⟩⟩
  rw [show IntKind.i64.wrap (1 - ({ a with old := a.top } : Ar).to) = 1 - a.to from w1]
  refine im1.fld 2 _ { a with old := a.top, to := 1 - a.to } rfl (by decide) rfl rfl rfl fun m2 o2 im2 => ⟨_, cell_of im2.p 2, ?_⟩
  refine via h63 ⟨g, s, r, _, 1 - a.to, rfl, im2.p, by omega, by omega, by show 0 ≤ a.semi; omega, s1, _, rfl, ?_⟩
  refine im2.fld 3 _ { a with old := a.top, to := 1 - a.to, top := startA a (1 - a.to) } rfl (by decide) rfl rfl rfl fun m3 o3 im3 => ⟨_, cell_of im3.p 3, ?_⟩
  refine im3.fld 5 _ { a with old := a.top, to := 1 - a.to, top := startA a (1 - a.to), scan := startA a (1 - a.to) } rfl (by decide) rfl rfl rfl fun m4 o4 im4 => ?_
  refine im4.fld 7 _ { a with old := a.top, to := 1 - a.to, top := startA a (1 - a.to), scan := startA a (1 - a.to), cop := 0 } rfl (by decide) rfl rfl rfl fun m5 o5 im5 => ?_
  refine im5.fld 4 _ (flip0 a) rfl (by decide) rfl rfl rfl fun m6 o6 im6 => ⟨_, _, _, cell_of im6.p 9, r.n + 1, ?_⟩
  have hk := im.w.at.k
  have hr := hI.wf.r
  have hFI : FlI (flip0 a) [] T1 0 := ⟨flip0_ok hI, rfl, fun j hj => by
    have := hI.r a.rs[j] (List.getElem_mem hj)
    exact ⟨this.1, fun hr => ⟨fun e => by omega, .inr (this.2 hr)⟩⟩⟩
  refine roots_fl t h124 h138 (T2 := T1) (m0 := m) (D := D) (s := s) r.n 0 (by omega) (by omega) m6 (flip0 a) [] ((((((Off.refl _ m).put (by simp) o1).put (by simp) o2).put (by simp) o3).put (by simp) o4).put (by simp) o5 |>.put (by simp) o6) im6 hFI fun M' hO' im' => ret_off hO' (hQ _ (fun b hb => mix_off hb) ?_)
  have e : overA (flR r.n 0 (flip0 a)) = flipA a := by unfold flipA; rw [hk]
  rw [e] at im'
  exact im'.mix
def s113 : Spec := fun args m Q => ∃ (g : Nat) (s r : Sl) (a : Ar) (D : List Nat), args = [.pointer (some ⟨g, 0, none⟩)] ∧ Im m g s r a D ∧ OkC a ∧
  ∀ m', (∀ b, b ∉ g :: D → m' b = m b) → Im m' g s r (collA a) D → Q (.tuple #[]) m'
theorem f113 (t : Tab) (h139 : look t 139 = s139) (h111 : look t 111 = s111) : ∀ args m Q, s113 args m Q → FA Tryz.prog (look t) kp113 Tryz.f113 args m Q := by
  rintro args m Q ⟨g, s, r, a, D, rfl, im, hG, hQ⟩
  rw [e113]
  obtain ⟨hI, _⟩ := hG.fin
  obtain ⟨T1, hI1⟩ := hI
  obtain ⟨g1, _⟩ := flip_gd hI1
  refine via h139 ⟨g, s, r, a, D, rfl, im, hG, fun m1 k o1 im1 => ⟨k, rfl, via h111 ⟨g, s, r, _, D, rfl, im1, ⟨T1, hI1⟩, fun m2 o2 im2 => ⟨rfl, via h139 ⟨g, s, r, _, D, rfl, im2, g1.okC, fun m3 k3 o3 im3 => ⟨k3, rfl, ?_⟩⟩⟩⟩⟩⟩
  exact ret_intro (Mem.le_refl _) (hQ m3 (fun b hb => by rw [o3 b hb, o2 b hb, o1 b hb]) im3)
def freeA (a : Ar) : Int := endA a a.to - a.top - leftA a
def s112 : Spec := fun args m Q => ∃ (g : Nat) (s r : Sl) (a : Ar), args = [.pointer (some ⟨g, 0, none⟩)] ∧ Ptr m g s r a ∧ NumP a ∧ Q (.int .i64 (freeA a)) m
theorem f112 (t : Tab) (h64 : look t 64 = s64) (h67 : look t 67 = s67) : ∀ args m Q, s112 args m Q → FA Tryz.prog (look t) kp112 Tryz.f112 args m Q := by
  rintro args m Q ⟨g, s, r, a, rfl, hp, hN, hQ⟩
  rw [e112]
  have sm := hN.sm
  have t0 := sm.t0
  have t1 := sm.t1
  have s0 := sm.s0
  have s1 := sm.s1
  have hh := halves hN
  have e1 := endA_b (a := a) (h := a.to) t0 t1 (by omega) s1
  have hl := sm.l
  have hf := hN.f
  have hlf : a.cyc = true → 0 ≤ a.old ∧ a.old ≤ 8000 ∧ 0 ≤ a.cop ∧ a.cop ≤ 8000 := fun hc => by
    unfold freeP at hf
    rw [if_pos hc] at hf
    omega
  have hlb : -8000 ≤ leftA a ∧ leftA a ≤ 8000 := by
    unfold leftA
    split
    · rename_i hc
      have := hlf hc
      unfold freeP at hf
      rw [if_pos hc] at hf
      omega
    · omega
  refine ⟨Mem.le m, Mem.le_refl _, _, held (cell_of hp 2), _, held (cell_of hp 3), via h64 ⟨g, s, r, a, a.to, rfl, hp, t0, t1, by omega, s1, _, rfl, Mem.le_refl _, via h67 ⟨g, s, r, a, rfl, hp, sm, hlf, _, rfl, Mem.le_refl _, ?_⟩⟩⟩
  unfold endA at *
  refine ret_int (Mem.le_refl _) hQ ?_
  rw [w64 (x := (a.to + 1) * a.semi - a.top) (by omega) (by omega), w64 (by omega) (by omega)]
  rfl
end Go.Proofs.YtpdcjocjkbgddaaGreat.Abs
