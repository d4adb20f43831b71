/- Kin: the functions. -/
import Derived.Test.YtjdcndicaeodbaaGreatTl
import Derived.Test.YtjdcndicaeodbaaGreatSb
import Derived.Test.YtjdcndicaeodbaaGreatChecked
import Derived.Sort.EveryDepth
import Derived.Shelf.Sort.AssemblyIn
import Derived.Shelf.Slices.CompactI
import Derived.Ground.NamesProg
import Derived.Ground.Names2Prog
namespace Go.Proofs
open Go.Shelf
def Tryz.laysSort_ren : Go.Shelf.Ren := ⟨fun | 189 => 61 | 125 => 132 | 257 => 131 | 128 => 197 | 129 => 198 | 294 => 188 | 295 => 189 | 296 => 190 | 297 => 191 | 298 => 192 | 299 => 193 | 216 => 194 | 300 => 195 | 301 => 196 | 328 => 234 | 329 => 235 | 330 => 236 | 331 => 237 | 332 => 238 | 215 => 239 | 343 => 265 | n => n, fun | 28 => 27 | 3 => 3 | 46 => 143 | 0 => 0 | 51 => 204 | 53 => 74 | 4 => 4 | 183 => 198 | 182 => 197 | 131 => 183 | 5 => 5 | 9 => 9 | 218 => 237 | 222 => 241 | 228 => 261 | 229 => 47 | n => n, fun | n => n⟩
theorem Tryz.laysSort : Go.Proofs.Lays.n189 Tryz.prog Tryz.laysSort_ren := {
  mixed := by kernel_rfl
  f125 := Tryz.func132.trans (congrArg some (by kernel_rfl))
  f128 := Tryz.func197.trans (congrArg some (by kernel_rfl))
  f129 := Tryz.func198.trans (congrArg some (by kernel_rfl))
  f189 := Tryz.func61.trans (congrArg some (by kernel_rfl))
  f215 := Tryz.func239.trans (congrArg some (by kernel_rfl))
  f216 := Tryz.func194.trans (congrArg some (by kernel_rfl))
  f257 := Tryz.func131.trans (congrArg some (by kernel_rfl))
  f294 := Tryz.func188.trans (congrArg some (by kernel_rfl))
  f295 := Tryz.func189.trans (congrArg some (by kernel_rfl))
  f296 := Tryz.func190.trans (congrArg some (by kernel_rfl))
  f297 := Tryz.func191.trans (congrArg some (by kernel_rfl))
  f298 := Tryz.func192.trans (congrArg some (by kernel_rfl))
  f299 := Tryz.func193.trans (congrArg some (by kernel_rfl))
  f300 := Tryz.func195.trans (congrArg some (by kernel_rfl))
  f301 := Tryz.func196.trans (congrArg some (by kernel_rfl))
  f328 := Tryz.func234.trans (congrArg some (by kernel_rfl))
  f329 := Tryz.func235.trans (congrArg some (by kernel_rfl))
  f330 := Tryz.func236.trans (congrArg some (by kernel_rfl))
  f331 := Tryz.func237.trans (congrArg some (by kernel_rfl))
  f332 := Tryz.func238.trans (congrArg some (by kernel_rfl))
  f343 := Tryz.func265.trans (congrArg some (by kernel_rfl))
  t0 := Tryz.underlying0
  a0 := Tryz.isAgg0
  z0 := Tryz.sizeOf0
  v0 := Tryz.zeroValue0
  t3 := Tryz.underlying3
  a3 := Tryz.isAgg3
  z3 := Tryz.sizeOf3
  v3 := Tryz.zeroValue3
  t4 := Tryz.underlying4
  a4 := Tryz.isAgg4
  z4 := Tryz.sizeOf4
  v4 := Tryz.zeroValue4
  t5 := Tryz.underlying5
  a5 := Tryz.isAgg5
  z5 := Tryz.sizeOf5
  v5 := Tryz.zeroValue5
  t9 := Tryz.underlying9
  a9 := Tryz.isAgg9
  z9 := Tryz.sizeOf9
  v9 := Tryz.zeroValue9
  t28 := Tryz.underlying27
  a28 := Tryz.isAgg27
  z28 := Tryz.sizeOf27
  v28 := Tryz.zeroValue27
  t46 := Tryz.underlying143
  a46 := Tryz.isAgg143
  z46 := Tryz.sizeOf143
  v46 := Tryz.zeroValue143
  t51 := Tryz.underlying204
  a51 := Tryz.isAgg204
  z51 := Tryz.sizeOf204
  v51 := Tryz.zeroValue204
  t53 := Tryz.underlying74
  a53 := Tryz.isAgg74
  z53 := Tryz.sizeOf74
  v53 := Tryz.zeroValue74
  t131 := Tryz.underlying183
  a131 := Tryz.isAgg183
  z131 := Tryz.sizeOf183
  v131 := Tryz.zeroValue183
  t182 := Tryz.underlying197
  a182 := Tryz.isAgg197
  z182 := Tryz.sizeOf197
  v182 := Tryz.zeroValue197
  t183 := Tryz.underlying198
  a183 := Tryz.isAgg198
  z183 := Tryz.sizeOf198
  v183 := Tryz.zeroValue198
  t218 := Tryz.underlying237
  a218 := Tryz.isAgg237
  z218 := Tryz.sizeOf237
  v218 := Tryz.zeroValue237
  t222 := Tryz.underlying241
  a222 := Tryz.isAgg241
  z222 := Tryz.sizeOf241
  v222 := Tryz.zeroValue241
  t228 := Tryz.underlying261
  a228 := Tryz.isAgg261
  z228 := Tryz.sizeOf261
  v228 := Tryz.zeroValue261
  t229 := Tryz.underlying47
  a229 := Tryz.isAgg47
  z229 := Tryz.sizeOf47
  v229 := Tryz.zeroValue47 }
end Go.Proofs
namespace Go.Proofs.YtjdcndicaeodbaaGreat.Abs
open Go.RowKit
set_option linter.unusedVariables false
set_option linter.unusedSimpArgs false
set_option maxRecDepth 20000
def s61 : Spec := fun args m Q => ∃ (g n c : Nat) (l : List Int) (spare : List Value), args = [.slice (some ⟨g, 0, none⟩) n c] ∧ l.length = n ∧ n ≤ 2 ^ 40 ∧ m g = some (.cells (flat Enc.e l ++ spare).toArray 3 (0, 0)) ∧
  Q (.tuple #[]) (m.upd g (.cells (flat Enc.e (srt l) ++ spare).toArray 3 (0, 0)))
theorem m61 : Meets Tryz.prog 61 s61 := by
  rintro args m Q ⟨g, n, c, l, spare, rfl, rfl, hn, hm, h⟩
  refine ⟨⟨Tryz.f61, Tryz.func61, by kernel_rfl, by kernel_rfl⟩, fun w hw => ?_⟩
  have hgl : g < w.heap.size := (Array.getElem?_eq_some_iff.1 (hw _ _ hm)).1
  have hc : Calls Tryz.prog 61 #[.slice (some ⟨g, 0, none⟩) l.length c] w fun e w' => e = .returned (.tuple #[]) ∧ ∃ n os, w' = Go.Sort.grow (Go.Sort.putRow (Value.int .i64) (Go.Sort.ahead w n) g 0 (srt l).toArray) os :=
    calls_of_every_depth fun D => AnyS.slices_Sort_int_in Tryz.laysSort D g 0 c l w (holds_of hw hm) hgl (by omega)
  refine hc.mono ?_
  rintro e w' ⟨rfl, q, os, rfl⟩
  refine ⟨_, _, rfl, h, rel_putRow hw hm ?_⟩
  rw [flat_len]
  show l.length * 1 = (srt l).length
  unfold srt
  rw [List.length_mergeSort, Nat.mul_one]
def s53 : Spec := fun args m Q => ∃ (s r : Sl) (a : Ar) (x : Int), args = [vA s r a, .int .i64 x] ∧ ArAt m s r a ∧ a.wf ∧ Q (.bool (decide (0 ≤ x ∧ x < a.rs.length))) m
theorem f53 (t : Tab) (h78 : look t 78 = s78) : ∀ args m Q, s53 args m Q → FA Tryz.prog (look t) kp53 Tryz.f53 args m Q := by
  rintro args m Q ⟨s, r, a, x, rfl, hA, hw, hQ⟩
  show FA Tryz.prog (look t) kp53 Tryz.f53 [.agg #[.slice s.a s.n s.c, .int .i64 a.semi, .int .i64 a.to, .int .i64 a.top, .bool a.cyc, .int .i64 a.scan, .int .i64 a.old, .int .i64 a.cop, .int .i64 a.ser, .slice r.a r.n r.c], .int .i64 x] m Q
  rw [e53]
  have hk := hA.k
  have hr := hw.r
  refine newA_intro fun g m2 hg1 e2 hb1 hle2 => ⟨_, _, _, cell_of hb1 9, ?_⟩
  rw [w64 (x := (r.n : Int) - 1) (by omega) (by omega)]
  refine via h78 ⟨_, _, _, rfl, _, rfl, ret_bool hle2 hQ ?_⟩
  apply Bool.eq_iff_iff.2
  rw [decide_eq_true_eq, decide_eq_true_eq]
  omega
def s58 : Spec := fun args m Q => ∃ (g : Nat) (s r l : Sl) (a : Ar) (xs : List Int), args = [.pointer (some ⟨g, 0, none⟩), vs l] ∧ Ptr m g s r a ∧ ArAt m s r a ∧ a.wf ∧ l.n = xs.length ∧ Rd m l.a xs ∧ xs.length ≤ 2 ^ 20 ∧ Q (.bool (decide (∀ x ∈ xs, 0 ≤ x ∧ x < a.rs.length))) m
theorem f58 (t : Tab) (h80 : look t 80 = s80) : ∀ args m Q, s58 args m Q → FA Tryz.prog (look t) kp58 Tryz.f58 args m Q := by
  rintro args m Q ⟨g, s, r, ⟨la, ln, lc⟩, a, xs, rfl, hP, hA, hw, hn, hR, hxl, hQ⟩
  have hn : ln = xs.length := hn
  have hR : Rd m la xs := hR
  show FA Tryz.prog (look t) kp58 Tryz.f58 [.pointer (some ⟨g, 0, none⟩), .slice la ln lc] m Q
  rw [e58]
  have hk := hA.k
  have hr := hw.r
  suffices key : ∀ (d i : Nat), i + d = xs.length → (∀ j : Nat, (h : j < xs.length) → j < i → 0 ≤ xs[j] ∧ xs[j] < a.rs.length) → L58_2 (look t) (d + 1) Q g la ln lc (ln : Int) (i : Int) m from ⟨xs.length + 1, key xs.length 0 (by omega) fun j _ hj => by omega⟩
  intro d
  induction d with
  | zero =>
    intro i hi hz
    rw [l58_2]
    refine ⟨m, Mem.le_refl _, ?_⟩
    rw [if_neg (by simp; omega)]
    refine ret_bool (Mem.le_refl _) hQ (Eq.symm (decide_eq_true fun x hx => ?_))
    obtain ⟨j, hj, e⟩ := List.mem_iff_getElem.1 hx
    rw [← e]
    exact hz j hj (by omega)
  | succ d ih =>
    intro i hi hz
    have hlt : i < xs.length := by omega
    rw [l58_2]
    refine ⟨m, Mem.le_refl _, ?_⟩
    rw [if_pos (by simp; omega), wsucc (n := 2 ^ 20) (by omega) (by decide)]
    refine li hR hn.symm (by omega) (by omega) fun ad had hd => ⟨_, hd _ (Mem.le_refl _), _, _, _, cell_of hP 9, ?_⟩
    rw [gi_mem hlt, w64 (x := (r.n : Int) - 1) (by omega) (by omega)]
    refine via h80 ⟨_, _, _, rfl, _, rfl, ?_⟩
    by_cases c : 0 ≤ xs[i] ∧ xs[i] ≤ (r.n : Int) - 1
    · rw [decide_eq_true c, if_neg (by decide)]
      refine ih (i + 1) (by omega) fun j hj hj2 => ?_
      by_cases e : j = i
      · subst e; omega
      · exact hz j hj (by omega)
    · rw [decide_eq_false c, if_pos (by decide)]
      refine ret_bool (Mem.le_refl _) hQ (Eq.symm (decide_eq_false fun h => c ?_))
      have := h xs[i] (List.getElem_mem _)
      omega
open Classical in
noncomputable def kinA (a : Ar) (x : Int) : List Int := if okP a ∧ 0 ≤ x ∧ x < a.rs.length then (serL a.ws (reachP a.ws [a.rs.getD x.toNat (0, 0)])).foldl insK [] else []
/-- A row of one's own grows by what is read. -/
theorem app_rk {m M : Mem} {s : Sl} {l l2 : List Int} {D : List Nat} {src : Option Addr} {k : Nat} {K : Option Addr → Nat → Mem → Prop} (hle : Mem.le m M) (hO : OwnL M s l D) (hD : ∀ b ∈ D, m b = none) (hk : l2.length = k) (hx : Rd M src l2) (hl : l.length + k ≤ 2 ^ 40)
    (hK : ∀ (s' : Sl) (M' : Mem) (D' : List Nat), s'.n = s.n + k → Mem.le m M' → OwnL M' s' (l ++ l2) D' → (∀ b ∈ D', m b = none) → K s'.a s'.c M') :
    appR M s.a s.n s.c src k 1 8 #[.int .i64 0] 3 K := by
  refine app_sl (α := Int) (l := l) (l2 := l2) (D := D) rfl rfl (by decide) (by decide) (by decide) hO hk hx hl fun s' D' M' hsn hO' hoff hfr hnd' => ?_
  have hD' : ∀ b ∈ D', m b = none := by
    rcases hfr with rfl | hfr
    · exact hD
    · exact fun b hb' => le_none hle (hfr b hb')
  exact hK s' M' D' hsn (le_off hle hD' hoff) hO' hD'
theorem own_capI {m : Mem} {s : Sl} {l : List Int} {D : List Nat} (h : OwnL m s l D) : s.n ≤ s.c := by
  obtain ⟨h1, ⟨_, h2, h3, _⟩ | ⟨g, t, spare, _, _, _, h3⟩⟩ := h
  · rw [h1, h3]; exact Nat.zero_le _
  · have e : Enc.s Int = 1 := rfl
    rw [e, Nat.mul_one, Nat.mul_one] at h3
    omega
theorem cut_tw {s : Int} : ∀ (l : List Int) (k : Nat), k ≤ l.length → (∀ j : Nat, (h : j < l.length) → j < k → l[j] < s) → (k = l.length ∨ ∃ h : k < l.length, ¬ l[k] < s) → l.takeWhile (fun x => decide (x < s)) = l.take k ∧ l.dropWhile (fun x => decide (x < s)) = l.drop k
  | [], k, hk, _, _ => by
    have : k = 0 := by simpa using hk
    subst this
    exact ⟨rfl, rfl⟩
  | x :: l, 0, _, _, h => by
    rcases h with h | ⟨h, hn⟩
    · cases h
    · have hn : ¬ x < s := hn
      rw [List.takeWhile_cons_of_neg (by simpa using hn), List.dropWhile_cons_of_neg (by simpa using hn)]
      exact ⟨rfl, rfl⟩
  | x :: l, k + 1, hk, h1, h2 => by
    have hx : x < s := h1 0 (by simp) (by omega)
    have ih := cut_tw l k (by simpa using hk) (fun j hj hjk => h1 (j + 1) (by simpa using hj) (by omega)) (by
      rcases h2 with h | ⟨h, hn⟩
      · left; simpa using h
      · right; exact ⟨by simpa using h, hn⟩)
    rw [List.takeWhile_cons_of_pos (by simpa using hx), List.dropWhile_cons_of_pos (by simpa using hx), ih.1, ih.2]
    exact ⟨rfl, rfl⟩
/-- A number is put in at a place. -/
theorem ins_tail (t : Tab) {m M : Mem} {os : Sl} {out : List Int} {D : List Nat} {k : Nat} {x : Int} {K : Option Addr → Nat → Nat → Mem → Prop} (hle : Mem.le m M) (hO : OwnL M os out D) (hD : ∀ b ∈ D, m b = none) (hl : out.length ≤ 2 ^ 30) (hk : k ≤ out.length)
    (hK : ∀ (s' : Sl) (M' : Mem) (D' : List Nat), Mem.le m M' → OwnL M' s' (out.take k ++ [x] ++ out.drop k) D' → (∀ b ∈ D', m b = none) → K s'.a s'.n s'.c M') :
    newA M (.cells #[.int .i64 x] 3 (0, 0)) fun g1 m1 => (0 ≤ (k : Int) ∧ (k : Int) ≤ (os.n : Int) ∧ appR m1 (some ⟨g1, 0, none⟩) 1 1 (if os.c = Int.toNat (k : Int) then os.a else Option.map (·.add (Int.toNat (k : Int) * 1)) os.a) (os.n - Int.toNat (k : Int)) 1 8 #[.int .i64 0] 3 fun ra rc m2 =>
      newA m2 (.cells #[] 3 (0, 0)) fun g3 m3 => (0 ≤ (k : Int) ∧ (k : Int) ≤ (os.c : Int) ∧ appR m3 (some ⟨g3, 0, none⟩) 0 0 (if os.c = 0 then os.a else Option.map (·.add (0 * 1)) os.a) (Int.toNat (k : Int) - 0) 1 8 #[.int .i64 0] 3 fun rb rd m4 =>
        appR m4 rb (0 + (Int.toNat (k : Int) - 0)) rd ra (1 + (os.n - Int.toNat (k : Int))) 1 8 #[.int .i64 0] 3 fun re rf m5 => K re ((0 + (Int.toNat (k : Int) - 0)) + (1 + (os.n - Int.toNat (k : Int)))) rf m5)) := by
  have hn := hO.1
  have hc := own_capI hO
  rw [Int.toNat_natCast]
  refine newA_intro fun g1 m1 hg1 e1 hb1 hle1 => ⟨by omega, by omega, ?_⟩
  have o1 : OwnL m1 ⟨some ⟨g1, 0, none⟩, 1, 1⟩ [x] [g1] := ⟨rfl, .inr ⟨g1, 3, [], rfl, rfl, hb1, rfl⟩⟩
  have oM1 := (Ds.rows Int).own_le hle1 hO
  have r1 : Rd m1 (if os.c = k then os.a else Option.map (·.add (k * 1)) os.a) (out.drop k) := by
    by_cases c : os.c = k
    · rw [if_pos c]
      have e : out.drop k = [] := List.drop_eq_nil_of_le (by omega)
      rw [e]; exact Rd.nil
    · rw [if_neg c]; exact oM1.rd.drop k
  refine app_rk (m := M) (s := ⟨some ⟨g1, 0, none⟩, 1, 1⟩) hle1 o1 (fun b hb => by rw [List.mem_singleton] at hb; rw [hb]; exact hg1) (by rw [List.length_drop]; omega) r1 (by show 1 + (os.n - k) ≤ _; omega) fun s2 m2 D2 hsn2 hle2 hO2 hD2 => ?_
  refine newA_intro fun g3 m3 hg3 e3 hb3 hle3 => ⟨by omega, by omega, ?_⟩
  have l3 := Mem.le_trans hle2 hle3
  have o3 : OwnL m3 ⟨some ⟨g3, 0, none⟩, 0, 0⟩ ([] : List Int) [g3] := ⟨rfl, .inr ⟨g3, 3, [], rfl, rfl, hb3, rfl⟩⟩
  have oM3 := (Ds.rows Int).own_le l3 hO
  have r3 : Rd m3 (if os.c = 0 then os.a else Option.map (·.add (0 * 1)) os.a) (out.take k) := by
    by_cases c : os.c = 0
    · rw [if_pos c]; exact oM3.rd.take k
    · rw [if_neg c]
      have := (oM3.rd.drop 0).take k
      rwa [List.drop_zero] at this
  have hsn2 : s2.n = 1 + (os.n - k) := hsn2
  refine app_rk (m := m2) (s := ⟨some ⟨g3, 0, none⟩, 0, 0⟩) hle3 o3 (fun b hb => by rw [List.mem_singleton] at hb; rw [hb]; exact hg3) (by rw [List.length_take]; omega) r3 (by show 0 + (k - 0) ≤ _; omega) fun s4 m4 D4 hsn4 hle4 hO4 hD4 => ?_
  have oM4 := (Ds.rows Int).own_le hle4 hO2
  have hsn4 : s4.n = 0 + (k - 0) := hsn4
  have l4 : Mem.le M m4 := Mem.le_trans hle2 hle4
  rw [← hsn4, ← hsn2]
  refine app_rk (m := M) l4 hO4 (fun b hb => le_none hle2 (hD4 b hb)) ?_ oM4.rd ?_ fun s5 m5 D5 hsn5 hle5 hO5 hD5 => ?_
  · rw [hO2.1]
  · have := hO4.1; have := hO2.1; rw [← hO4.1]; omega
  · rw [← hsn5]
    refine hK s5 m5 D5 (Mem.le_trans hle hle5) ?_ fun b hb => le_none hle (hD5 b hb)
    rw [List.append_assoc]
    exact hO5
theorem insS_loop (t : Tab) {Q : Value → Mem → Prop} {m : Mem} {g n6 : Nat} {ls os : Sl} {out : List Int} {D : List Nat} {i s : Int} {M : Mem} (hle : Mem.le m M) (hO : OwnL M os out D) (hD : ∀ b ∈ D, m b = none) (hl : out.length ≤ 2 ^ 30)
    (hQ : ∀ (s' : Sl) (M' : Mem) (D' : List Nat), Mem.le m M' → OwnL M' s' (insK out s) D' → (∀ b ∈ D', m b = none) → L12_6 (look t) n6 Q g s'.a s'.n s'.c ls.a ls.n ls.c (IntKind.i64.wrap (i + 1)) M') :
    ∀ (d k : Nat), k + d = out.length → (∀ j : Nat, (h : j < out.length) → j < k → out[j] < s) → L12_11 (look t) n6 (d + 1) Q g os.a os.n os.c ls.a ls.n ls.c i s (k : Int) M := by
  intro d
  have hn := hO.1
  have fin : ∀ k : Nat, k ≤ out.length → (∀ j : Nat, (h : j < out.length) → j < k → out[j] < s) → (k = out.length ∨ ∃ h : k < out.length, ¬ out[k] < s) → ∀ (s' : Sl) (M' : Mem) (D' : List Nat), Mem.le m M' → OwnL M' s' (out.take k ++ [s] ++ out.drop k) D' → (∀ b ∈ D', m b = none) → L12_6 (look t) n6 Q g s'.a s'.n s'.c ls.a ls.n ls.c (IntKind.i64.wrap (i + 1)) M' := by
    intro k hk h1 h2 s' M' D' q1 q2 q3
    obtain ⟨e1, e2⟩ := cut_tw out k hk h1 h2
    refine hQ s' M' D' q1 ?_ q3
    unfold insK
    rw [e1, e2]
    exact q2
  induction d with
  | zero =>
    intro k hk hz
    rw [l12_11]
    refine ⟨M, Mem.le_refl _, ?_⟩
    rw [if_neg (by simp; omega)]
    exact ins_tail t hle hO hD hl (by omega) (K := fun ra rn rc M' => L12_6 (look t) n6 Q g ra rn rc ls.a ls.n ls.c (IntKind.i64.wrap (i + 1)) M') (fin k (by omega) hz (.inl (by omega)))
  | succ d ih =>
    intro k hk hz
    have hlt : k < out.length := by omega
    rw [l12_11]
    refine ⟨M, Mem.le_refl _, ?_⟩
    rw [if_pos (by simp; omega)]
    refine li hO.rd hn.symm (by omega) (by omega) fun ad had hd => ⟨_, hd _ (Mem.le_refl _), ?_⟩
    rw [gi_mem hlt]
    by_cases c : out[k] < s
    · rw [if_pos (by simpa using c), wsucc (n := 2 ^ 30) (by omega) (by decide)]
      refine ih (k + 1) (by omega) fun j hj hj2 => ?_
      by_cases e : j = k
      · subst e; exact c
      · exact hz j hj (by omega)
    · rw [if_neg (by simpa using c)]
      exact ins_tail t hle hO hD hl (by omega) (K := fun ra rn rc M' => L12_6 (look t) n6 Q g ra rn rc ls.a ls.n ls.c (IntKind.i64.wrap (i + 1)) M') (fin k (by omega) hz (.inr ⟨hlt, c⟩))
theorem kinS_loop (t : Tab) (h55 : look t 55 = s55) {Q : Value → Mem → Prop} {s r ls : Sl} {a : Ar} {m : Mem} {g : Nat} {S : List Stp} {R : List Int} (hw : a.wf) (hP : Ptr m g s r a) (hA : ArAt m s r a) (hr : ∀ e ∈ S, 0 ≤ e.p ∧ e.p < a.ws.length) (hSl : S.length ≤ 2 ^ 20) (hn : ls.n = S.length) (hR : Rd m ls.a (S.map stp3))
    (hQ : ∀ (s' : Sl) (M' : Mem) (D' : List Nat), Mem.le m M' → OwnL M' s' R D' → (∀ b ∈ D', m b = none) → ret Q (vs s') M') :
    ∀ (d i : Nat) (out : List Int) (os : Sl) (D : List Nat) (M : Mem), i + d = S.length → (serL a.ws ((S.drop i).map (·.p))).foldl insK out = R → out.length ≤ i → Mem.le m M → OwnL M os out D → (∀ b ∈ D, m b = none) → L12_6 (look t) (d + 1) Q g os.a os.n os.c ls.a ls.n ls.c (i : Int) M := by
  intro d
  induction d with
  | zero =>
    intro i out os D M hi hf hol hle hO hD
    rw [l12_6]
    refine ⟨M, Mem.le_refl _, ?_⟩
    rw [if_neg (by simp; omega)]
    rw [List.drop_eq_nil_of_le (by omega)] at hf
    have hf : out = R := hf
    exact hQ os M D hle (hf ▸ hO) hD
  | succ d ih =>
    intro i out os D M hi hf hol hle hO hD
    have hlt : i < S.length := by omega
    obtain ⟨e, he⟩ : ∃ e, e = S[i] := ⟨_, rfl⟩
    have hse : S[i]? = some e := by rw [List.getElem?_eq_getElem hlt, he]
    rw [List.drop_eq_getElem_cons hlt, ← he] at hf
    obtain ⟨e0, e1⟩ := hr e (List.mem_of_getElem? hse)
    have hb1 := hle _ _ hP
    rw [l12_6]
    refine ⟨M, Mem.le_refl _, ?_⟩
    rw [if_pos (by simp; omega)]
    refine ⟨Mem.le M, Mem.le_refl _, _, _, _, held (cell_of hb1 0), _, held (cell_of hb1 1), _, held (cell_of hb1 2), _, held (cell_of hb1 3), _, held (cell_of hb1 4), _, held (cell_of hb1 5), _, held (cell_of hb1 6), _, held (cell_of hb1 7), _, held (cell_of hb1 8), _, _, _, held (cell_of hb1 9), stp_get hn (hR.le hle) hse fun ad had => ⟨_, fun q hq => (had q hq).1, via h55 ⟨s, r, a, e.p, rfl, ⟨hA.le hle, hw, e0, e1⟩, _, _, _, rfl, Mem.le_refl _, ?_⟩⟩⟩
    have ez : (lookW a.ws e.p).2.2 = serW a.ws e.p := rfl
    rw [ez]
    unfold serL at hf
    rw [List.map_cons, List.map_cons] at hf
    by_cases c : serW a.ws e.p = 0
    · rw [if_pos (by simpa using c), wsucc (n := 2 ^ 20) (by omega) (by decide)]
      rw [List.filter_cons_of_neg (by simpa using c)] at hf
      exact ih (i + 1) out os D M (by omega) hf (by omega) hle hO hD
    · rw [if_neg (by simpa using c)]
      rw [List.filter_cons_of_pos (by simpa using c), List.foldl_cons] at hf
      refine ⟨out.length + 1, insS_loop t hle hO hD (by omega) (fun s' M' D' q1 q2 q3 => ?_) out.length 0 (by omega) fun j _ hj => by omega⟩
      rw [wsucc (n := 2 ^ 20) (by omega) (by decide)]
      exact ih (i + 1) _ s' D' M' (by omega) hf (by rw [(insK_perm out (serW a.ws e.p)).length_eq]; show out.length + 1 ≤ i + 1; omega) q1 q2 q3
def s12 : Spec := fun args m Q => ∃ (s r : Sl) (a : Ar) (x : Int), args = [vA s r a, .int .i64 x] ∧ ArAt m s r a ∧ a.wf ∧ ∀ (s' : Sl) (M : Mem) (D : List Nat), Mem.le m M → OwnL M s' (kinA a x) D → (∀ b ∈ D, m b = none) → Q (vs s') M
theorem f12 (t : Tab) (h38 : look t 38 = s38) (h53 : look t 53 = s53) (h54 : look t 54 = s54) (h55 : look t 55 = s55) : ∀ args m Q, s12 args m Q → FA Tryz.prog (look t) kp12 Tryz.f12 args m Q := by
  rintro args m Q ⟨s, r, a, x, rfl, hA, hw, hQ⟩
  show FA Tryz.prog (look t) kp12 Tryz.f12 [.agg #[.slice s.a s.n s.c, .int .i64 a.semi, .int .i64 a.to, .int .i64 a.top, .bool a.cyc, .int .i64 a.scan, .int .i64 a.old, .int .i64 a.cop, .int .i64 a.ser, .slice r.a r.n r.c], .int .i64 x] m Q
  rw [e12]
  refine newA_intro fun g m2 hg1 e2 hb1 hle2 => newA_intro fun g3 m4 hg3 e4 hb3 hle4 => ?_
  have hP : Ptr m2 g s r a := hb1
  have hb1 := hle4 _ _ hb1
  have l4 := Mem.le_trans hle2 hle4
  have o4 : OwnL m4 ⟨some ⟨g3, 0, none⟩, 0, 0⟩ ([] : List Int) [g3] := ⟨rfl, .inr ⟨g3, 3, [], rfl, rfl, hb3, rfl⟩⟩
  have f4 : ∀ b ∈ [g3], m2 b = none := fun b hb => by rw [List.mem_singleton] at hb; rw [hb]; exact hg3
  have none_ : ¬ (okP a ∧ 0 ≤ x ∧ x < a.rs.length) → ret Q (.slice (some ⟨g3, 0, none⟩) 0 0) m4 := fun h => by
    have e : kinA a x = [] := by unfold kinA; rw [if_neg h]
    rw [e] at hQ
    exact ret_intro (Mem.le_refl _) (hQ ⟨some ⟨g3, 0, none⟩, 0, 0⟩ m4 [g3] l4 o4 fun b hb => le_none hle2 (f4 b hb))
  refine ⟨_, _, _, cell_of hb1 0, _, cell_of hb1 1, _, cell_of hb1 2, _, cell_of hb1 3, _, cell_of hb1 4, _, cell_of hb1 5, _, cell_of hb1 6, _, cell_of hb1 7, _, cell_of hb1 8, _, _, _, cell_of hb1 9, via h38 ⟨s, r, a, rfl, hA.le l4, hw, _, rfl, ?_⟩⟩
  by_cases hk : okP a
  case neg => rw [pB_no hk, if_pos (by decide)]; exact none_ fun h => hk h.1
  rw [pB_yes hk, if_neg (by decide)]
  refine ⟨_, _, _, cell_of hb1 0, _, cell_of hb1 1, _, cell_of hb1 2, _, cell_of hb1 3, _, cell_of hb1 4, _, cell_of hb1 5, _, cell_of hb1 6, _, cell_of hb1 7, _, cell_of hb1 8, _, _, _, cell_of hb1 9, via h53 ⟨s, r, a, x, rfl, hA.le l4, hw, _, rfl, ?_⟩⟩
  by_cases hx : 0 ≤ x ∧ x < a.rs.length
  case neg => rw [decide_eq_false hx, if_pos (by decide)]; exact none_ fun h => hx h.2
  rw [decide_eq_true hx, if_neg (by decide)]
  have e : kinA a x = (serL a.ws (reachP a.ws [a.rs.getD x.toNat (0, 0)])).foldl insK [] := by unfold kinA; rw [if_pos ⟨hk, hx⟩]
  rw [e] at hQ
  obtain ⟨mk, hk⟩ := hk
  have hri : ∀ y ∈ [x], 0 ≤ y ∧ y < a.rs.length := fun y hy => by rw [List.mem_singleton] at hy; rw [hy]; exact hx
  refine ⟨_, _, _, cell_of hb1 0, _, cell_of hb1 1, _, cell_of hb1 2, _, cell_of hb1 3, _, cell_of hb1 4, _, cell_of hb1 5, _, cell_of hb1 6, _, cell_of hb1 7, _, cell_of hb1 8, _, _, _, cell_of hb1 9, newA_intro fun g5 m6 hg5 e6 hb5 hle6 => via h54 ⟨s, r, ⟨some ⟨g5, 0, none⟩, 1, 1⟩, a, mk, [x], rfl, hA.le (Mem.le_trans l4 hle6), hw, hk, rfl, Rd.of_block (spare := []) hb5 (by rfl), hri, by show 1 ≤ 2 ^ 20; decide, fun ls M D hle hO hD => ⟨_, _, _, rfl, (reachL a [x]).length + 1, ?_⟩⟩⟩
  obtain ⟨seen, hI⟩ := BI.reach hw hk hri
  have hn2 := hO.1
  rw [List.length_map] at hn2
  have l2M : Mem.le m2 M := Mem.le_trans hle4 (Mem.le_trans hle6 hle)
  have lM : Mem.le m M := Mem.le_trans hle2 l2M
  have hl : (reachL a [x]).length ≤ a.ws.length := hI.len
  have hN := hw.n
  -- the row of one's own and the list stand apart
  obtain ⟨m0, hm0⟩ : ∃ m0 : Mem, m0 = fun b => if b = g3 then none else M b := ⟨_, rfl⟩
  have q1 : m0 g3 = none := by rw [hm0]; exact if_pos rfl
  have q2 : ∀ b, b ≠ g3 → m0 b = M b := fun b hb => by rw [hm0]; exact if_neg hb
  clear hm0
  have l0M : Mem.le m0 M := fun b o hb => by
    by_cases e : b = g3
    · rw [e, q1] at hb; cases hb
    · rw [← q2 b e]; exact hb
  have l20 : Mem.le m2 m0 := fun b o hb => by
    have : b ≠ g3 := fun e => by rw [e, hg3] at hb; cases hb
    rw [q2 b this]; exact l2M _ _ hb
  have hg3D : g3 ∉ D := fun h => by have := hD _ h; rw [hle6 _ _ hb3] at this; cases this
  have hO0 : OwnL m0 ls ((reachL a [x]).map stp3) D := hO.ext fun b hb => q2 b fun e => hg3D (e ▸ hb)
  have oM : OwnL M ⟨some ⟨g3, 0, none⟩, 0, 0⟩ ([] : List Int) [g3] := (Ds.rows Int).own_le (Mem.le_trans hle6 hle) o4
  refine kinS_loop t h55 (m := m0) (S := reachL a [x]) (R := (serL a.ws (reachP a.ws [a.rs.getD x.toNat (0, 0)])).foldl insK []) hw (l20 _ _ hP) (hA.le (Mem.le_trans hle2 l20)) (fun e he => ⟨(hI.hd e he).1, (hI.hd e he).2.1⟩) (by omega) hn2 hO0.rd (fun s' M' D' r1 r2 r3 => ret_intro (Mem.le_refl _) (hQ s' M' D' (Mem.le_trans (Mem.le_trans hle2 l20) r1) r2 fun b hb => le_none (Mem.le_trans hle2 l20) (r3 b hb))) (reachL a [x]).length 0 [] ⟨some ⟨g3, 0, none⟩, 0, 0⟩ [g3] M (by omega) ?_ (Nat.le_refl _) l0M oM (fun b hb => by rw [List.mem_singleton] at hb; rw [hb]; exact q1)
  rw [List.drop_zero, reach_places]
  rfl
theorem kinI_loop (t : Tab) (h60 : look t 60 = s60) (h61 : look t 61 = s61) {Q : Value → Mem → Prop} {s r ls : Sl} {a : Ar} {m : Mem} {g : Nat} {L R : List Int} (hw : a.wf) (hP : Ptr m g s r a) (hA : ArAt m s r a) (hr : ∀ p ∈ L, 0 ≤ p ∧ p < a.ws.length) (hLl : L.length ≤ 2 ^ 20) (hn : ls.n = L.length) (hR : Rd m ls.a L)
    (hQ : ∀ (s' : Sl) (M' : Mem) (D' : List Nat), Mem.le m M' → OwnL M' s' (srt R) D' → (∀ b ∈ D', m b = none) → ret Q (vs s') M') :
    ∀ (d i : Nat) (out : List Int) (os : Sl) (go : Nat) (spare : List Value) (M : Mem), i + d = L.length → out ++ serL a.ws (L.drop i) = R → out.length ≤ i → Mem.le m M → m go = none → os.a = some ⟨go, 0, none⟩ → OwnL M os out [go] → M go = some (.cells (flat Enc.e out ++ spare).toArray 3 (0, 0)) → out.length + spare.length = os.c → L14_7 (look t) (d + 1) Q g os.a os.n os.c ls.a ls.n ls.c (ls.n : Int) (i : Int) M := by
  intro d
  induction d with
  | zero =>
    intro i out os go spare M hi hf hol hle hgo hoa hO hc hsz
    rw [l14_7]
    refine ⟨M, Mem.le_refl _, ?_⟩
    rw [if_neg (by simp; omega)]
    rw [List.drop_eq_nil_of_le (by omega)] at hf
    have hf : out = R := by rw [← hf]; exact (List.append_nil _).symm
    subst hf
    rw [hoa]
    have hon := hO.1
    refine via h61 ⟨go, os.n, os.c, out, spare, rfl, hon.symm, by omega, hc, rfl, ?_⟩
    have := hQ ⟨some ⟨go, 0, none⟩, os.n, os.c⟩ (M.upd go (.cells (flat Enc.e (srt out) ++ spare).toArray 3 (0, 0))) [go] (le_put hle hgo fun b hb => upd_ne hb) ⟨?_, .inr ⟨go, 3, spare, rfl, rfl, upd_same _ _ _, ?_⟩⟩ (fun b hb => by rw [List.mem_singleton] at hb; rw [hb]; exact hgo)
    · exact this
    · show os.n = (srt out).length
      unfold srt
      rw [List.length_mergeSort]; exact hon
    · show (srt out).length * 1 + spare.length = os.c * 1
      unfold srt
      rw [List.length_mergeSort]; omega
  | succ d ih =>
    intro i out os go spare M hi hf hol hle hgo hoa hO hc hsz
    have hlt : i < L.length := by omega
    obtain ⟨p, hp⟩ : ∃ p, p = L[i] := ⟨_, rfl⟩
    rw [List.drop_eq_getElem_cons hlt, ← hp] at hf
    obtain ⟨p0, p1⟩ := hr p (by rw [hp]; exact List.getElem_mem _)
    have bp := look_b hw p
    rw [l14_7]
    refine ⟨M, Mem.le_refl _, ?_⟩
    rw [if_pos (by simp; omega), wsucc (n := 2 ^ 20) (by omega) (by decide)]
    refine li (hR.le hle) hn.symm (by omega) (by omega) fun ad had hd => ⟨_, hd _ (Mem.le_refl _), ?_⟩
    rw [gi_mem hlt, ← hp]
    refine via h60 ⟨g, s, r, a, p, rfl, ⟨hle _ _ hP, hA.le hle, hw, p0, p1⟩, _, _, _, rfl, newA_intro fun g2 m2 hg2 e2 hb2 hle2 => sto (c := #[.int .i64 0, .int .i64 0, .int .i64 0]) (t := 70) hb2 rfl (by simp) fun m3 e3 h3 hne3 => ?_⟩
    have h3 : m3 g2 = some (.cells #[.int .i64 (kdW a.ws p), .int .i64 (szW a.ws p), .int .i64 (serW a.ws p)] 70 (0, 0)) := h3
    have l3 : Mem.le M m3 := le_other hle2 hg2 hne3
    have L3 := Mem.le_trans hle l3
    have O3 := (Ds.rows Int).own_le l3 hO
    refine ⟨_, cell_of h3 2, ?_⟩
    unfold serL at hf
    rw [List.map_cons] at hf
    by_cases c : serW a.ws p > 0
    · rw [if_pos (by simpa using c)]
      rw [List.filter_cons_of_pos (by simp; omega)] at hf
      refine ⟨_, cell_of h3 2, newA_intro fun g4 m4 hg4 e4 hb4 hle4 => ?_⟩
      have O4 := (Ds.rows Int).own_le hle4 O3
      have c4 : m4 go = _ := hle4 _ _ (l3 _ _ hc)
      have hon := hO.1
      rw [hoa]
      refine app_own (α := Int) (x := serW a.ws p) rfl rfl (by decide) (by decide) c4 hon.symm (by rw [hon]; omega) hb4 (by omega) fun g' c' spare' M' q1 q2 q3 q4 => ?_
      have hg' : m g' = none := by
        rcases q3 with e | e
        · rw [e]; exact hgo
        · exact le_none (Mem.le_trans L3 hle4) e
      have q2 : (os.n + 1) * 1 + spare'.length = c' * 1 := q2
      have hl2 : (out ++ [serW a.ws p]).length = out.length + 1 := by rw [List.length_append]; rfl
      exact ih (i + 1) (out ++ [serW a.ws p]) ⟨some ⟨g', 0, none⟩, os.n + 1, c'⟩ g' spare' M' (by omega) (by rw [← hf, List.append_assoc]; rfl) (by omega) (le_put (Mem.le_trans L3 hle4) hg' q4) hg' rfl ⟨by show os.n + 1 = _; omega, .inr ⟨g', 3, spare', rfl, rfl, q1, by rw [hl2]; show (out.length + 1) * 1 + spare'.length = c' * 1; omega⟩⟩ q1 (by show (out ++ [serW a.ws p]).length + spare'.length = c'; omega)
    · rw [if_neg (by simpa using c)]
      rw [List.filter_cons_of_neg (by simp; omega)] at hf
      exact ih (i + 1) out os go spare m3 (by omega) hf (by omega) L3 hgo hoa O3 (l3 _ _ hc) hsz
def s14 : Spec := s12
theorem f14 (t : Tab) (h39 : look t 39 = s39) (h58 : look t 58 = s58) (h59 : look t 59 = s59) (h60 : look t 60 = s60) (h61 : look t 61 = s61) : ∀ args m Q, s14 args m Q → FA Tryz.prog (look t) kp14 Tryz.f14 args m Q := by
  rintro args m Q ⟨s, r, a, x, rfl, hA, hw, hQ⟩
  show FA Tryz.prog (look t) kp14 Tryz.f14 [.agg #[.slice s.a s.n s.c, .int .i64 a.semi, .int .i64 a.to, .int .i64 a.top, .bool a.cyc, .int .i64 a.scan, .int .i64 a.old, .int .i64 a.cop, .int .i64 a.ser, .slice r.a r.n r.c], .int .i64 x] m Q
  rw [e14]
  refine newA_intro fun g m2 hg1 e2 hb1 hle2 => newA_intro fun g3 m4 hg3 e4 hb3 hle4 => ?_
  have hP : Ptr m2 g s r a := hb1
  have hb1 := hle4 _ _ hb1
  have l4 := Mem.le_trans hle2 hle4
  have o4 : OwnL m4 ⟨some ⟨g3, 0, none⟩, 0, 0⟩ ([] : List Int) [g3] := ⟨rfl, .inr ⟨g3, 3, [], rfl, rfl, hb3, rfl⟩⟩
  have f4 : ∀ b ∈ [g3], m2 b = none := fun b hb => by rw [List.mem_singleton] at hb; rw [hb]; exact hg3
  have none_ : ∀ M, Mem.le m4 M → ¬ (okP a ∧ 0 ≤ x ∧ x < a.rs.length) → ret Q (.slice (some ⟨g3, 0, none⟩) 0 0) M := fun M hM h => by
    have e : kinA a x = [] := by unfold kinA; rw [if_neg h]
    rw [e] at hQ
    exact ret_intro (Mem.le_refl _) (hQ ⟨some ⟨g3, 0, none⟩, 0, 0⟩ M [g3] (Mem.le_trans l4 hM) ((Ds.rows Int).own_le hM o4) fun b hb => le_none hle2 (f4 b hb))
  refine ⟨_, _, _, cell_of hb1 0, _, cell_of hb1 1, _, cell_of hb1 2, _, cell_of hb1 3, _, cell_of hb1 4, _, cell_of hb1 5, _, cell_of hb1 6, _, cell_of hb1 7, _, cell_of hb1 8, _, _, _, cell_of hb1 9, via h39 ⟨s, r, a, rfl, hA.le l4, hw, _, rfl, ?_⟩⟩
  by_cases hk : okP a
  case neg => rw [pB_no hk, if_pos (by decide)]; exact none_ _ (Mem.le_refl _) fun h => hk h.1
  rw [pB_yes hk, if_neg (by decide)]
  refine newA_intro fun g5 m6 hg5 e6 hb5 hle6 => via h58 ⟨g, s, r, ⟨some ⟨g5, 0, none⟩, 1, 1⟩, a, [x], rfl, hle6 _ _ hb1, hA.le (Mem.le_trans l4 hle6), hw, rfl, Rd.of_block (spare := []) hb5 (by rfl), by show 1 ≤ 2 ^ 20; decide, _, rfl, ?_⟩
  by_cases hx : 0 ≤ x ∧ x < a.rs.length
  case neg => rw [decide_eq_false (fun h => hx (h x (by simp))), if_pos (by decide)]; exact none_ _ hle6 fun h => hx h.2
  rw [decide_eq_true (fun y hy => by rw [List.mem_singleton] at hy; rw [hy]; exact hx), if_neg (by decide)]
  have e : kinA a x = (serL a.ws (reachP a.ws [a.rs.getD x.toNat (0, 0)])).foldl insK [] := by unfold kinA; rw [if_pos ⟨hk, hx⟩]
  rw [e, ← srt_eq] at hQ
  obtain ⟨mk, hk⟩ := hk
  have hb6 := hle6 _ _ hb1
  have l6 := Mem.le_trans l4 hle6
  have hxl : x.toNat < a.rs.length := by omega
  obtain ⟨v, hvd⟩ : ∃ v, v = a.rs[x.toNat] := ⟨_, rfl⟩
  have egd : a.rs.getD x.toNat (0, 0) = v := by rw [List.getD_eq_getElem?_getD, List.getElem?_eq_getElem hxl, hvd]; rfl
  rw [egd] at hQ
  have hmem : v ∈ a.rs := by rw [hvd]; exact List.getElem_mem _
  refine ⟨_, _, _, cell_of hb6 0, _, cell_of hb6 1, _, cell_of hb6 2, _, cell_of hb6 3, _, cell_of hb6 4, _, cell_of hb6 5, _, cell_of hb6 6, _, cell_of hb6 7, _, cell_of hb6 8, _, _, _, cell_of hb6 9, newA_intro fun g7 m8 hg7 e8 hb7 hle8 => sto_ar hb7 fun m9 e9 h9 hne9 => ?_⟩
  have l9 : Mem.le m6 m9 := le_other hle8 hg7 hne9
  have L9 := Mem.le_trans l6 l9
  refine ⟨_, _, _, cell_of (l9 _ _ hb6) 9, idx' (i := x) (hA.r.le L9) hA.k hx.1 (by have := hA.k; omega) fun ad had hd => ?_⟩
  rw [← hvd] at hd
  refine ⟨_, hd 0 (.int .i64 v.1) rfl, _, hd 1 (.int .i64 v.2) rfl, newA_intro fun g9 m10 hg9 e10 hb9 hle10 => sto (c := cA s r a) (t := 31) (hle10 _ _ h9) rfl (by show 9 + 1 ≤ 10; decide) fun m11 e11 h11 hne11 => ?_⟩
  have h11 : m11 g7 = some (.cells (cA s ⟨some ⟨g9, 0, none⟩, 1, 1⟩ (a.wr [v])) 31 (0, 0)) := h11
  have n79 : g7 ≠ g9 := fun e => by rw [← e, h9] at hg9; cases hg9
  have l11 : Mem.le m6 m11 := le_other (Mem.le_trans l9 hle10) hg7 hne11
  have L11 := Mem.le_trans l6 l11
  have h9b : m11 g9 = _ := (hne11 g9 n79.symm).trans hb9
  have hwr : (a.wr [v]).wf := ⟨hw.w, hw.n, by show 1 ≤ 2 ^ 20; decide⟩
  have hA' : ArAt m11 s ⟨some ⟨g9, 0, none⟩, 1, 1⟩ (a.wr [v]) := ⟨hA.n, hA.w.le L11, rfl, Rd.of_block (spare := []) h9b (by rfl), hA.c⟩
  refine via h59 ⟨g7, s, ⟨some ⟨g9, 0, none⟩, 1, 1⟩, a, [v], mk, rfl, h11, hA', hwr, hw, hk, fun y hy => by rw [List.mem_singleton] at hy; rw [hy]; exact (root_vok hw hk hmem).1, fun ls M D hle hO hD => ⟨_, _, _, rfl, (reachP a.ws [v]).length + 1, ?_⟩⟩
  have hBP : BP a mk (reachP a.ws [v]) := BP.bfs hw hk _ _ _ (BP.comeR [v] [] (fun y hy => by rw [List.mem_singleton] at hy; rw [hy]; exact (root_vok hw hk hmem).1) (BP.nil a mk))
  have hN := hw.n
  have hbl := hBP.len
  have l4M : Mem.le m4 M := Mem.le_trans hle6 (Mem.le_trans l11 hle)
  obtain ⟨m0, hm0⟩ : ∃ m0 : Mem, m0 = fun b => if b = g3 then none else M b := ⟨_, rfl⟩
  have q1 : m0 g3 = none := by rw [hm0]; exact if_pos rfl
  have q2 : ∀ b, b ≠ g3 → m0 b = M b := fun b hb => by rw [hm0]; exact if_neg hb
  clear hm0
  have l0M : Mem.le m0 M := fun b o hb => by
    by_cases e : b = g3
    · rw [e, q1] at hb; cases hb
    · rw [← q2 b e]; exact hb
  have l20 : Mem.le m2 m0 := fun b o hb => by
    have : b ≠ g3 := fun e => by rw [e, hg3] at hb; cases hb
    rw [q2 b this]; exact l4M _ _ (hle4 _ _ hb)
  have hg3D : g3 ∉ D := fun h => by have := hD _ h; rw [l11 _ _ (hle6 _ _ hb3)] at this; cases this
  have hO0 : OwnL m0 ls (reachP a.ws [v]) D := hO.ext fun b hb => q2 b fun e => hg3D (e ▸ hb)
  have oM : OwnL M ⟨some ⟨g3, 0, none⟩, 0, 0⟩ ([] : List Int) [g3] := (Ds.rows Int).own_le l4M o4
  exact kinI_loop t h60 h61 (m := m0) (L := reachP a.ws [v]) (R := serL a.ws (reachP a.ws [v])) hw (l20 _ _ hP) (hA.le (Mem.le_trans hle2 l20)) (fun p hp => ⟨(hBP.rg p hp).1, (hBP.rg p hp).2.1⟩) (by omega) hO0.1 hO0.rd (fun s' M' D' r1 r2 r3 => ret_intro (Mem.le_refl _) (hQ s' M' D' (Mem.le_trans (Mem.le_trans hle2 l20) r1) r2 fun b hb => le_none (Mem.le_trans hle2 l20) (r3 b hb))) (reachP a.ws [v]).length 0 [] ⟨some ⟨g3, 0, none⟩, 0, 0⟩ g3 [] M (by omega) (by rw [List.drop_zero]; rfl) (Nat.le_refl _) l0M q1 rfl oM (l4M _ _ hb3) rfl
end Go.Proofs.YtjdcndicaeodbaaGreat.Abs
