/- The library's sort and its compacting as contracts; the plain law of Jumps: a list into which each number is put at its place is the compacted sorted list. -/
import Derived.Test.YtcbjdodehjpddaaAby
import Derived.Test.YtcbjdodehjpddaaChecked
import Derived.Sort.EveryDepth
import Derived.Shelf.Sort.AssemblyIn
import Derived.Shelf.Slices.CompactI
import Derived.Ground.NamesProg
import Derived.Ground.Names2Prog
import Derived.Shelf.Lays
import Derived.Shelf.Lays2
import Derived.KernelRfl
namespace Go.Proofs
open Go.Shelf
def Try.laysSort_ren : Go.Shelf.Ren := ⟨fun | 189 => 67 | 125 => 91 | 257 => 90 | 128 => 104 | 129 => 105 | 294 => 95 | 295 => 96 | 296 => 97 | 297 => 98 | 298 => 99 | 299 => 100 | 216 => 101 | 300 => 102 | 301 => 103 | 328 => 108 | 329 => 109 | 330 => 110 | 331 => 111 | 332 => 112 | 215 => 113 | 343 => 114 | n => n, fun | 28 => 44 | 3 => 3 | 46 => 110 | 0 => 0 | 51 => 123 | 53 => 125 | 4 => 4 | 183 => 115 | 182 => 114 | 131 => 120 | 5 => 5 | 9 => 9 | 218 => 128 | 222 => 132 | 228 => 134 | 229 => 85 | n => n, fun | n => n⟩
theorem Try.laysSort : Go.Proofs.Lays.n189 Try.prog Try.laysSort_ren := {
  mixed := by kernel_rfl
  f125 := Try.func91.trans (congrArg some (by kernel_rfl))
  f128 := Try.func104.trans (congrArg some (by kernel_rfl))
  f129 := Try.func105.trans (congrArg some (by kernel_rfl))
  f189 := Try.func67.trans (congrArg some (by kernel_rfl))
  f215 := Try.func113.trans (congrArg some (by kernel_rfl))
  f216 := Try.func101.trans (congrArg some (by kernel_rfl))
  f257 := Try.func90.trans (congrArg some (by kernel_rfl))
  f294 := Try.func95.trans (congrArg some (by kernel_rfl))
  f295 := Try.func96.trans (congrArg some (by kernel_rfl))
  f296 := Try.func97.trans (congrArg some (by kernel_rfl))
  f297 := Try.func98.trans (congrArg some (by kernel_rfl))
  f298 := Try.func99.trans (congrArg some (by kernel_rfl))
  f299 := Try.func100.trans (congrArg some (by kernel_rfl))
  f300 := Try.func102.trans (congrArg some (by kernel_rfl))
  f301 := Try.func103.trans (congrArg some (by kernel_rfl))
  f328 := Try.func108.trans (congrArg some (by kernel_rfl))
  f329 := Try.func109.trans (congrArg some (by kernel_rfl))
  f330 := Try.func110.trans (congrArg some (by kernel_rfl))
  f331 := Try.func111.trans (congrArg some (by kernel_rfl))
  f332 := Try.func112.trans (congrArg some (by kernel_rfl))
  f343 := Try.func114.trans (congrArg some (by kernel_rfl))
  t0 := Try.underlying0
  a0 := Try.isAgg0
  z0 := Try.sizeOf0
  v0 := Try.zeroValue0
  t3 := Try.underlying3
  a3 := Try.isAgg3
  z3 := Try.sizeOf3
  v3 := Try.zeroValue3
  t4 := Try.underlying4
  a4 := Try.isAgg4
  z4 := Try.sizeOf4
  v4 := Try.zeroValue4
  t5 := Try.underlying5
  a5 := Try.isAgg5
  z5 := Try.sizeOf5
  v5 := Try.zeroValue5
  t9 := Try.underlying9
  a9 := Try.isAgg9
  z9 := Try.sizeOf9
  v9 := Try.zeroValue9
  t28 := Try.underlying44
  a28 := Try.isAgg44
  z28 := Try.sizeOf44
  v28 := Try.zeroValue44
  t46 := Try.underlying110
  a46 := Try.isAgg110
  z46 := Try.sizeOf110
  v46 := Try.zeroValue110
  t51 := Try.underlying123
  a51 := Try.isAgg123
  z51 := Try.sizeOf123
  v51 := Try.zeroValue123
  t53 := Try.underlying125
  a53 := Try.isAgg125
  z53 := Try.sizeOf125
  v53 := Try.zeroValue125
  t131 := Try.underlying120
  a131 := Try.isAgg120
  z131 := Try.sizeOf120
  v131 := Try.zeroValue120
  t182 := Try.underlying114
  a182 := Try.isAgg114
  z182 := Try.sizeOf114
  v182 := Try.zeroValue114
  t183 := Try.underlying115
  a183 := Try.isAgg115
  z183 := Try.sizeOf115
  v183 := Try.zeroValue115
  t218 := Try.underlying128
  a218 := Try.isAgg128
  z218 := Try.sizeOf128
  v218 := Try.zeroValue128
  t222 := Try.underlying132
  a222 := Try.isAgg132
  z222 := Try.sizeOf132
  v222 := Try.zeroValue132
  t228 := Try.underlying134
  a228 := Try.isAgg134
  z228 := Try.sizeOf134
  v228 := Try.zeroValue134
  t229 := Try.underlying85
  a229 := Try.isAgg85
  z229 := Try.sizeOf85
  v229 := Try.zeroValue85 }
def Try.laysCompact_ren : Go.Shelf.Ren := ⟨fun | 20 => 68 | n => n, fun | 22 => 44 | 3 => 3 | 4 => 4 | 0 => 0 | n => n, fun | n => n⟩
theorem Try.laysCompact : Go.Proofs.Lays2.n20 Try.prog Try.laysCompact_ren := {
  mixed := by kernel_rfl
  f20 := Try.func68.trans (congrArg some (by kernel_rfl))
  t0 := Try.underlying0
  a0 := Try.isAgg0
  z0 := Try.sizeOf0
  v0 := Try.zeroValue0
  t3 := Try.underlying3
  a3 := Try.isAgg3
  z3 := Try.sizeOf3
  v3 := Try.zeroValue3
  t4 := Try.underlying4
  a4 := Try.isAgg4
  z4 := Try.sizeOf4
  v4 := Try.zeroValue4
  t22 := Try.underlying44
  a22 := Try.isAgg44
  z22 := Try.sizeOf44
  v22 := Try.zeroValue44
  i3 := by kernel_rfl }
end Go.Proofs
namespace Go.Proofs.Ytcbjdodehjpddaa.Abs
open Go.RowKit
set_option linter.unusedVariables false

def srt (l : List Int) : List Int := l.mergeSort fun x y => decide (x ≤ y)
def s67 : Spec := fun args m Q => ∃ (g n c : Nat) (l : List Int) (spare : List Value), args = [.slice (some ⟨g, 0, none⟩) n c] ∧ l.length = n ∧ n ≤ 2 ^ 40 ∧ m g = some (.cells (flat Enc.e l ++ spare).toArray 3 (0, 0)) ∧
  Q (.tuple #[]) (m.upd g (.cells (flat Enc.e (srt l) ++ spare).toArray 3 (0, 0)))
theorem m67 : Meets Try.prog 67 s67 := by
  rintro args m Q ⟨g, n, c, l, spare, rfl, rfl, hn, hm, h⟩
  refine ⟨⟨Try.f67, Try.func67, by kernel_rfl, by kernel_rfl⟩, fun w hw => ?_⟩
  have hgl : g < w.heap.size := (Array.getElem?_eq_some_iff.1 (hw _ _ hm)).1
  have hc : Calls Try.prog 67 #[.slice (some ⟨g, 0, none⟩) l.length c] w fun e w' => e = .returned (.tuple #[]) ∧ ∃ n os, w' = Go.Sort.grow (Go.Sort.putRow (Value.int .i64) (Go.Sort.ahead w n) g 0 (srt l).toArray) os :=
    calls_of_every_depth fun D => AnyS.slices_Sort_int_in Try.laysSort D g 0 c l w (holds_of hw hm) hgl (by omega)
  refine hc.mono ?_
  rintro e w' ⟨rfl, q, os, rfl⟩
  refine ⟨_, _, rfl, h, rel_putRow hw hm ?_⟩
  rw [flat_len]
  show l.length * 1 = (srt l).length
  unfold srt
  rw [List.length_mergeSort, Nat.mul_one]
def cmpct (l : List Int) : List Int := Lib.compact l
def s68 : Spec := fun args m Q => ∃ (g n c : Nat) (l : List Int) (spare : List Value), args = [.slice (some ⟨g, 0, none⟩) n c] ∧ l.length = n ∧ n ≤ 2 ^ 40 ∧ n ≤ c ∧ m g = some (.cells (flat Enc.e l ++ spare).toArray 3 (0, 0)) ∧
  Q (.slice (some ⟨g, 0, none⟩) (cmpct l).length c) (m.upd g (.cells (flat Enc.e (cmpct l) ++ (flat Enc.e (List.replicate (n - (cmpct l).length) (0 : Int)) ++ spare)).toArray 3 (0, 0)))
theorem compact_len (l : List Int) : (Lib.compact l).length ≤ l.length := by
  unfold Lib.compact Lib.compactUpTo
  rw [List.length_map]
  exact Nat.le_trans (List.length_filter_le _ _) (by simp)
theorem m68 : Meets Try.prog 68 s68 := by
  rintro args m Q ⟨g, n, c, l, spare, rfl, rfl, hn, hnc, hm, h⟩
  refine ⟨⟨Try.f68, Try.func68, by kernel_rfl, by kernel_rfl⟩, fun w hw => ?_⟩
  have hc : Calls Try.prog 68 #[.slice (some ⟨g, 0, none⟩) l.length c] w fun e w' => e = .returned (.slice (some ⟨g, 0, none⟩) (Lib.compact l).length c) ∧ ∃ q, w' = Go.Sort.putRow (Value.int .i64) (Go.Sort.ahead w q) g 0 (Lib.compact l ++ List.replicate (l.length - (Lib.compact l).length) 0).toArray :=
    Any.slices_Compact_int Try.laysCompact g 0 c l w (holds_of hw hm) (by omega) hnc
  refine hc.mono ?_
  rintro e w' ⟨rfl, q, rfl⟩
  have hr := rel_putRow (q := q) (os := #[]) (ys := Lib.compact l ++ List.replicate (l.length - (Lib.compact l).length) 0) hw hm (by
    have := compact_len l
    rw [flat_len]
    show l.length * 1 = _
    simp
    omega)
  rw [Go.Sort.grow_empty, flat_append, List.append_assoc] at hr
  exact ⟨_, _, rfl, h, hr⟩

/-! ### The plain law -/
def insJ (l : List Int) (a : Int) : List Int :=
  let k := (l.takeWhile (fun x => decide (x < a))).length
  if l[k]? = some a then l else l.take k ++ a :: l.drop k
def isJ (x : Int × Int) : Bool := decide (18 ≤ x.1 ∧ x.1 ≤ 21)
def jumpsOf (code : List (Int × Int)) : List Int := (code.filter isJ).map (·.2)
def jumpsM (code : List (Int × Int)) : List Int := (jumpsOf code).foldl insJ []
theorem ins_eq (l : List Int) (a : Int) : insJ l a = l.takeWhile (fun x => decide (x < a)) ++ (if (l.dropWhile (fun x => decide (x < a))).head? = some a then [] else [a]) ++ l.dropWhile (fun x => decide (x < a)) := by
  unfold insJ
  simp only
  have h0 := List.takeWhile_append_dropWhile (p := fun x => decide (x < a)) (l := l)
  generalize l.takeWhile (fun x => decide (x < a)) = A at *
  generalize l.dropWhile (fun x => decide (x < a)) = B at *
  subst h0
  have e : (A ++ B)[A.length]? = B.head? := by
    rw [List.getElem?_append_right (Nat.le_refl _), Nat.sub_self, List.head?_eq_getElem?]
  rw [e]
  split
  · simp
  · simp
theorem ins_mem {l : List Int} {a x : Int} : x ∈ insJ l a ↔ x = a ∨ x ∈ l := by
  rw [ins_eq]
  have h0 := List.takeWhile_append_dropWhile (p := fun x => decide (x < a)) (l := l)
  generalize l.takeWhile (fun x => decide (x < a)) = A at *
  generalize l.dropWhile (fun x => decide (x < a)) = B at *
  subst h0
  split
  · rename_i h
    have : a ∈ B := List.mem_of_mem_head? (by rw [h]; rfl)
    simp only [List.append_nil, List.mem_append]
    constructor
    · intro h; exact .inr h
    · rintro (rfl | h)
      · exact .inr this
      · exact h
  · simp only [List.mem_append, List.mem_singleton]
    constructor
    · rintro ((h | h) | h)
      · exact .inr (.inl h)
      · exact .inl h
      · exact .inr (.inr h)
    · rintro (h | h | h)
      · exact .inl (.inr h)
      · exact .inl (.inl h)
      · exact .inr h
theorem tw_imp {p : Int → Bool} : ∀ (l : List Int) {x : Int}, x ∈ l.takeWhile p → p x = true
  | [], x, h => by simp at h
  | y :: l, x, h => by
    rw [List.takeWhile_cons] at h
    split at h
    · rename_i hy
      rcases List.mem_cons.1 h with rfl | h
      · exact hy
      · exact tw_imp l h
    · simp at h
theorem ins_sorted {l : List Int} (a : Int) (h : l.Pairwise (· < ·)) : (insJ l a).Pairwise (· < ·) := by
  rw [ins_eq]
  have hA : ∀ x ∈ l.takeWhile (fun x => decide (x < a)), x < a := fun x hx => by simpa using tw_imp l hx
  have hB : ∀ y, (l.dropWhile (fun x => decide (x < a))).head? = some y → a ≤ y := by
    intro y hy
    have := List.head?_dropWhile_not (fun x => decide (x < a)) l
    rw [hy] at this
    simpa using this
  have h0 := List.takeWhile_append_dropWhile (p := fun x => decide (x < a)) (l := l)
  generalize l.takeWhile (fun x => decide (x < a)) = A at *
  generalize l.dropWhile (fun x => decide (x < a)) = B at *
  subst h0
  split
  · simpa using h
  · rename_i hne
    rw [List.pairwise_append] at h
    obtain ⟨h1, h2, h3⟩ := h
    have hb : ∀ y ∈ B, a < y := by
      cases B with
      | nil => simp
      | cons b B =>
        have hb := hB b rfl
        have hbn : b ≠ a := fun e => hne (by rw [e]; rfl)
        intro y hy
        rcases List.mem_cons.1 hy with rfl | hy
        · omega
        · have := (List.pairwise_cons.1 h2).1 y hy
          omega
    rw [List.append_assoc, List.pairwise_append]
    refine ⟨h1, ?_, ?_⟩
    · rw [List.singleton_append, List.pairwise_cons]
      exact ⟨hb, h2⟩
    · intro x hx y hy
      rw [List.singleton_append, List.mem_cons] at hy
      rcases hy with rfl | hy
      · exact hA x hx
      · exact h3 x hx y hy
theorem fold_ins : ∀ (xs l : List Int), l.Pairwise (· < ·) → (xs.foldl insJ l).Pairwise (· < ·) ∧ ∀ x, x ∈ xs.foldl insJ l ↔ x ∈ xs ∨ x ∈ l
  | [], l, h => ⟨h, by simp⟩
  | a :: xs, l, h => by
    have := fold_ins xs (insJ l a) (ins_sorted a h)
    refine ⟨this.1, fun x => ?_⟩
    rw [List.foldl_cons, this.2, ins_mem, List.mem_cons]
    constructor
    · rintro (h | h | h) <;> simp [h]
    · rintro ((h | h) | h) <;> simp [h]
theorem sorted_ext : ∀ (a b : List Int), a.Pairwise (· < ·) → b.Pairwise (· < ·) → (∀ x, x ∈ a ↔ x ∈ b) → a = b
  | [], [], _, _, _ => rfl
  | [], y :: b, _, _, h => by have := (h y).2 (by simp); simp at this
  | x :: a, [], _, _, h => by have := (h x).1 (by simp); simp at this
  | x :: a, y :: b, ha, hb, h => by
    have ha' := List.pairwise_cons.1 ha
    have hb' := List.pairwise_cons.1 hb
    have e : x = y := by
      rcases List.mem_cons.1 ((h x).1 (by simp)) with e | e
      · exact e
      · rcases List.mem_cons.1 ((h y).2 (by simp)) with e' | e'
        · exact e'.symm
        · have := hb'.1 x e
          have := ha'.1 y e'
          omega
    subst e
    congr 1
    refine sorted_ext a b ha'.2 hb'.2 fun z => ?_
    constructor
    · intro hz
      rcases List.mem_cons.1 ((h z).1 (by simp [hz])) with e | e
      · have := ha'.1 z hz; omega
      · exact e
    · intro hz
      rcases List.mem_cons.1 ((h z).2 (by simp [hz])) with e | e
      · have := hb'.1 z hz; omega
      · exact e
theorem compact_sorted (l : List Int) (h : l.Pairwise (· ≤ ·)) : (Lib.compact l).Pairwise (· < ·) ∧ ∀ x, x ∈ Lib.compact l ↔ x ∈ l := by
  have key : ∀ m, m ≤ l.length → (Lib.compactUpTo l.toArray m).Pairwise (· < ·) ∧ ∀ x, x ∈ Lib.compactUpTo l.toArray m ↔ x ∈ l.take m := by
    intro m
    induction m with
    | zero => intro _; simp [Lib.compactUpTo]
    | succ m ih =>
      intro hm
      obtain ⟨h1, h2⟩ := ih (by omega)
      have hml : m < l.length := by omega
      have em : l.toArray[m]! = l[m] := by simp [hml]
      have ht : l.take (m + 1) = l.take m ++ [l[m]] := List.take_succ_eq_append_getElem hml
      have hle : ∀ x ∈ l.take m, x ≤ l[m] := by
        have := h.sublist (List.take_sublist (m + 1) l)
        rw [ht, List.pairwise_append] at this
        intro x hx
        exact this.2.2 x hx _ (by simp)
      rw [Lib.compactUpTo_succ, em, ht]
      cases hk : Lib.keeps l.toArray m with
      | false =>
        simp only [Bool.false_eq_true, if_false, List.append_nil]
        refine ⟨h1, fun x => ?_⟩
        rw [h2, List.mem_append, List.mem_singleton]
        unfold Lib.keeps at hk
        have hk := of_decide_eq_false hk
        have hm0 : m ≠ 0 := fun e => hk (.inl e)
        have hk2 : l.toArray[m]! = l.toArray[m - 1]! := Classical.byContradiction fun e => hk (.inr e)
        rw [em] at hk2
        have em1 : l.toArray[m - 1]! = l[m - 1] := by simp [show m - 1 < l.length by omega]
        rw [em1] at hk2
        constructor
        · intro h; exact .inl h
        · rintro (h | h)
          · exact h
          · rw [h, hk2]
            exact List.mem_take_iff_getElem.2 ⟨m - 1, by omega, rfl⟩
      | true =>
        simp only [if_true]
        unfold Lib.keeps at hk
        have hk := of_decide_eq_true hk
        have hlt : ∀ x ∈ l.take m, x < l[m] := by
          intro x hx
          rcases hk with e | e
          · subst e; simp at hx
          · have hm0 : m ≠ 0 := by rintro rfl; simp at hx
            have em1 : l.toArray[m - 1]! = l[m - 1] := by simp [show m - 1 < l.length by omega]
            rw [em, em1] at e
            obtain ⟨j, hj, rfl⟩ := List.mem_take_iff_getElem.1 hx
            have hjm : j < m := by omega
            have a1 : l[j] ≤ l[m - 1] := by
              by_cases e2 : j = m - 1
              · subst e2; exact Int.le_refl _
              · exact (List.pairwise_iff_getElem.1 h) j (m - 1) (by omega) (by omega) (by omega)
            have a2 : l[m - 1] ≤ l[m] := (List.pairwise_iff_getElem.1 h) (m - 1) m (by omega) (by omega) (by omega)
            omega
        refine ⟨?_, fun x => by rw [List.mem_append, h2, List.mem_append]⟩
        rw [List.pairwise_append]
        refine ⟨h1, by simp, fun x hx y hy => ?_⟩
        rw [List.mem_singleton] at hy
        subst hy
        exact hlt x ((h2 x).1 hx)
  have := key l.length (Nat.le_refl _)
  rw [List.take_length] at this
  exact this
theorem jumps_eq (code : List (Int × Int)) : cmpct (srt (jumpsOf code)) = jumpsM code := by
  have hs : (srt (jumpsOf code)).Pairwise (· ≤ ·) := by
    have := List.pairwise_mergeSort (le := fun x y : Int => decide (x ≤ y)) (fun a b c h1 h2 => by simp at *; omega) (fun a b => by simp; omega) (jumpsOf code)
    exact this.imp (fun h => by simpa using h)
  have h1 := compact_sorted _ hs
  have h2 := fold_ins (jumpsOf code) [] List.Pairwise.nil
  refine sorted_ext _ _ h1.1 h2.1 fun x => ?_
  show x ∈ Lib.compact (srt (jumpsOf code)) ↔ x ∈ (jumpsOf code).foldl insJ []
  rw [h1.2, h2.2]
  unfold srt
  rw [List.mem_mergeSort]
  simp
end Go.Proofs.Ytcbjdodehjpddaa.Abs
