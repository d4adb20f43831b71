/- Jumps of the reference and of the program over the printed equations: both come to one list. -/
import Derived.Test.YtcbjdodehjpddaaJp
import Derived.Test.YtcbjdodehjpddaaDv
import Derived.Test.YtcbjdodehjpddaaEqJumps
namespace Go.Proofs.Ytcbjdodehjpddaa.Abs
open Go.RowKit
set_option linter.unusedVariables false
set_option linter.unusedSimpArgs false
set_option maxRecDepth 20000

structure OutI (m M : Mem) (g c : Nat) (l : List Int) (spare : List Value) : Prop where
  le : Mem.le m M
  fr : m g = none
  row : M g = some (row3 l spare)
  sz : l.length * 1 + spare.length = c * 1
theorem le_other {m M M' : Mem} {g : Nat} (h : Mem.le m M) (hg : m g = none) (ho : ∀ b, b ≠ g → M' b = M b) : Mem.le m M' := by
  intro b x e
  have : b ≠ g := by rintro rfl; rw [hg] at e; cases e
  rw [ho b this]
  exact h b x e
theorem OutI.push {m M : Mem} {g c : Nat} {l : List Int} {spare : List Value} (h : OutI m M g c l spare) {g' : Nat} {o : Obj} (hg : M g' = none) : OutI m (M.upd g' o) g c l spare :=
  ⟨Mem.le_trans h.le (le_upd hg), h.fr, le_upd hg _ _ h.row, h.sz⟩
theorem fresh_or {m M : Mem} {g g' : Nat} (h : Mem.le m M) (hg : m g = none) (hg' : g' = g ∨ M g' = none) : m g' = none := by
  rcases hg' with rfl | hg'
  · exact hg
  · exact le_none h hg'

def sJ : Spec := fun args m Q => ∃ (p s : Int) (ua : Option Addr) (un uc : Nat) (ca : Option Addr) (cn cc : Nat) (lc : List (Int × Int)), args = [.agg #[.int .i64 p, .int .i64 s, .slice ua un uc, .slice ca cn cc]] ∧ lc.length = cn ∧ cn ≤ 2 ^ 39 ∧ Rd m ca lc ∧
  ∀ (g c : Nat) (spare : List Value), m g = none → Q (.slice (some ⟨g, 0, none⟩) (jumpsM lc).length c) (m.upd g (row3 (jumpsM lc) spare))
def s31 : Spec := sJ
def s32 : Spec := sJ

theorem jumpsOf_succ (lc : List (Int × Int)) (i : Nat) (h : i < lc.length) : jumpsOf (lc.take (i + 1)) = jumpsOf (lc.take i) ++ (if isJ lc[i] then [lc[i].2] else []) := by
  unfold jumpsOf
  rw [List.take_succ_eq_append_getElem h, List.filter_append, List.map_append]
  congr 1
  by_cases hj : isJ lc[i] = true <;> simp [hj]
theorem jumpsOf_len (lc : List (Int × Int)) : (jumpsOf lc).length ≤ lc.length := by
  unfold jumpsOf
  rw [List.length_map]
  exact List.length_filter_le _ _

theorem f32 (t : Tab) (h53 : look t 53 = s53) (h67 : look t 67 = s67) (h68 : look t 68 = s68) : ∀ args m Q, s32 args m Q → FA Try.prog (look t) kp32 Try.f32 args m Q := by
  rintro args m Q ⟨p, s, ua, un, uc, ca, cn, cc, lc, rfl, hlc, hN, hcd, h⟩
  rw [e32]
  refine newA_intro fun g1 m1 hg1 e1 hb1 hle1 => ?_
  refine newA_intro fun g3 m4 hg3 e4 hb4 hle4 => ?_
  refine ⟨_, _, _, cell_of (hle4 _ _ hb1) 3, ?_⟩
  suffices key : ∀ d i, i + d = cn → ∀ (M : Mem) (g c : Nat) (spare : List Value), OutI m M g c (jumpsOf (lc.take i)) spare → L32_3 (look t) (d + 1) Q (some ⟨g, 0, none⟩) (jumpsOf (lc.take i)).length c ca cn cc (cn : Int) (i : Int) M from
    ⟨cn + 1, key cn 0 (by omega) m4 g3 0 [] ⟨Mem.le_trans hle1 hle4, le_none hle1 hg3, hb4, rfl⟩⟩
  intro d
  induction d with
  | zero =>
    intro i hi M g c spare hM
    rw [l32_3]
    refine ⟨M, Mem.le_refl _, ?_⟩
    rw [if_neg (by simp; omega)]
    have ei : lc.take i = lc := List.take_of_length_le (by omega)
    rw [ei] at hM ⊢
    have hl := jumpsOf_len lc
    refine via h67 ⟨_, _, _, jumpsOf lc, spare, rfl, rfl, by omega, hM.row, rfl, via h68 ⟨_, _, _, srt (jumpsOf lc), spare, rfl, ?_, by omega, ?_, upd_same _ _ _, _, _, _, rfl, ?_⟩⟩
    · unfold srt; rw [List.length_mergeSort]
    · have := hM.sz; omega
    · rw [jumps_eq, upd_upd]
      exact ret_intro (upd_mono hM.le _ _) (h _ _ _ hM.fr)
  | succ d ih =>
    intro i hi M g c spare hM
    rw [l32_3]
    refine ⟨M, Mem.le_refl _, ?_⟩
    rw [if_pos (by simp; omega)]
    have hil : i < lc.length := by omega
    have hsucc := jumpsOf_succ lc i hil
    have hlen := jumpsOf_len (lc.take i)
    have htl : (lc.take i).length ≤ i := by simp; omega
    refine idx' (hcd.le hM.le) hlc (by omega) (by omega) fun ad had hd => ?_
    simp only [Int.toNat_natCast] at hd ⊢
    generalize lc[i] = x at *
    refine ⟨_, hd 0 _ rfl, _, hd 1 _ rfl, ?_⟩
    refine newA_intro fun g16 m17 hg16 e17 hb17 hle17 => ?_
    refine sto (c := #[.int .i64 0, .int .i64 0]) (t := 73) hb17 rfl (by simp) fun m18 e18 h18 hne18 => ?_
    have h18 : m18 g16 = some (.cells #[.int .i64 x.1, .int .i64 x.2] 73 (0, 0)) := h18
    have hM2 : OutI m m18 g c (jumpsOf (lc.take i)) spare := by rw [e18, e17, upd_upd]; exact hM.push hg16
    refine ⟨_, cell_of h18 0, via h53 ⟨_, rfl, isJ x, rfl, ?_⟩⟩
    have hw := wsucc (i := i) (n := cn) (by omega) (by omega)
    by_cases hj : isJ x = true
    · rw [if_pos hj]
      rw [if_pos hj] at hsucc
      refine ⟨_, cell_of h18 1, newA_intro fun g26 m27 hg26 e27 hb27 hle27 => ?_⟩
      have hM3 := hM2.push (o := .cells #[.int .i64 x.2] 3 (0, 0)) hg26
      rw [← e27] at hM3
      refine app_list (α := Int) (l2 := [x.2]) rfl rfl (by decide) (by decide) hM3.row rfl rfl hM3.sz (Rd.of_block (spare := []) hb27 rfl) (by simp; omega) fun g' c' spare' m' hr hsz hg' ho => ?_
      have hfr := fresh_or hM3.le hM3.fr hg'
      rw [hw]
      have := ih (i + 1) (by omega) m' g' c' spare' ⟨le_other hM3.le hfr ho, hfr, by rw [hr, hsucc], by rw [hsucc]; simpa using hsz⟩
      rw [hsucc] at this
      simpa using this
    · rw [if_neg hj]
      rw [if_neg hj, List.append_nil] at hsucc
      rw [hw, ← hsucc]
      rw [← hsucc] at hM2
      exact ih (i + 1) (by omega) m18 g c spare hM2

def ins31 (call : FuncId → Spec) (n3 : Nat) (Q : Value → Mem → Prop) (x1g : Nat) (x3a : Option Addr) (x3n : Nat) (x3c : Nat) (x4 : Int) (x5g : Nat) (x6 : Int) (M : Mem) : Prop :=
  (∃ S95 : Mem → Prop, S95 M ∧ (∃ y96 : Int, ((∀ q97 : Mem, S95 q97 → Mem.cell? q97 ⟨x5g, 1, none⟩ = some (.int .i64 y96)) ∧ (0 ≤ x6 ∧ x6 ≤ (x3n : Int) ∧ (newA M (.cells #[(.int .i64 y96)] 3 (0, 0)) fun g98 m99 => (S95 m99 ∧ (appR m99 (some ⟨g98, 0, none⟩) 1 1 (if x3c = (Int.toNat x6) then x3a else Option.map (·.add ((Int.toNat x6) * 1)) x3a) (x3n - (Int.toNat x6)) 1 8 #[(.int .i64 (0 : Int))] 3 fun ra100 rc101 m102 => (S95 m102 ∧ (newA m102 (.cells #[] 3 (0, 0)) fun g103 m104 => (0 ≤ x6 ∧ x6 ≤ (x3c : Int) ∧ (appR m104 (some ⟨g103, 0, none⟩) 0 0 (if x3c = 0 then x3a else Option.map (·.add (0 * 1)) x3a) ((Int.toNat x6) - 0) 1 8 #[(.int .i64 (0 : Int))] 3 fun ra105 rc106 m107 => (appR m107 ra105 (0 + ((Int.toNat x6) - 0)) rc106 ra100 (1 + (x3n - (Int.toNat x6))) 1 8 #[(.int .i64 (0 : Int))] 3 fun ra108 rc109 m110 => L31_3 call n3 Q x1g ra108 (((0 + ((Int.toNat x6) - 0)) + (1 + (x3n - (Int.toNat x6))))) rc109 ((IntKind.i64.wrap (x4 + (1 : Int)))) m110))))))))))))

theorem ins31_ok (t : Tab) {m M : Mem} {Q : Value → Mem → Prop} {g1 g c n : Nat} {x4 x5 : Int} {a : Int} {g5 k n3 : Nat} {L : List Int} {spare : List Value} (hn : L.length = n) (hM : OutI m M g c L spare) (h5 : M g5 = some (.cells #[.int .i64 x5, .int .i64 a] 73 (0, 0))) (hk : k ≤ n) (hN : n ≤ 2 ^ 39)
    (hK : ∀ (M' : Mem) (g' c' : Nat) (spare' : List Value), OutI m M' g' c' (L.take k ++ a :: L.drop k) spare' → L31_3 (look t) n3 Q g1 (some ⟨g', 0, none⟩) (n + 1) c' ((IntKind.i64.wrap (x4 + (1 : Int)))) M') :
    ins31 (look t) n3 Q g1 (some ⟨g, 0, none⟩) n c x4 g5 (k : Int) M := by
  have hkc : k ≤ c := by have := hM.sz; omega
  refine ⟨fun q => q.cell? ⟨g5, 1, none⟩ = some (.int .i64 a), cell_of h5 1, _, fun q hq => hq, by omega, by omega, newA_intro fun g98 M1 hg98 e1 hb1 hle1 => ⟨cell_of (hle1 _ _ h5) 1, ?_⟩⟩
  simp only [Int.toNat_natCast, Nat.sub_zero, Nat.zero_add]
  have hM1 := hM.push (o := .cells #[.int .i64 a] 3 (0, 0)) hg98
  rw [← e1] at hM1
  have hR1 : Rd M1 (some ⟨g, 0, none⟩) L := Rd.of_block hM1.row rfl
  refine app_list (α := Int) (l := [a]) (l2 := L.drop k) (spare := []) rfl rfl (by decide) (by decide) (by simpa [flat_ints] using hb1) rfl (by simp [hn]) rfl ?_ (by omega) fun ga ca spa M2 hra hsa hga hoa => ?_
  · by_cases hck : c = k
    · rw [if_pos hck, List.drop_eq_nil_of_le (by have := hM.sz; omega)]
      exact Rd.nil
    · rw [if_neg hck]
      exact hR1.drop k
  have n98g : g98 ≠ g := by rintro rfl; rw [hM.row] at hg98; cases hg98
  have n985 : g98 ≠ g5 := by rintro rfl; rw [h5] at hg98; cases hg98
  have nga : ga ≠ g := by
    rcases hga with rfl | hga
    · exact n98g
    · rintro rfl; rw [hM1.row] at hga; cases hga
  have ng5 : g5 ≠ ga := by
    rcases hga with rfl | hga
    · exact Ne.symm n985
    · rintro rfl; rw [hle1 _ _ h5] at hga; cases hga
  have hma : m ga = none := fresh_or hM1.le (le_none hM.le hg98) hga
  have h52 : M2 g5 = some (.cells #[.int .i64 x5, .int .i64 a] 73 (0, 0)) := by rw [hoa _ ng5]; exact hle1 _ _ h5
  have hM2 : OutI m M2 g c L spare := ⟨le_other hM1.le hma hoa, hM.fr, by rw [hoa _ (Ne.symm nga)]; exact hM1.row, hM.sz⟩
  refine ⟨cell_of h52 1, newA_intro fun g103 M3 hg103 e3 hb3 hle3 => ⟨by omega, by omega, ?_⟩⟩
  have hM3 := hM2.push (o := .cells #[] 3 (0, 0)) hg103
  rw [← e3] at hM3
  have hR3 : Rd M3 (some ⟨g, 0, none⟩) L := Rd.of_block hM3.row rfl
  refine app_list (α := Int) (l := []) (l2 := L.take k) (spare := []) rfl rfl (by decide) (by decide) (by simpa [flat_ints] using hb3) rfl (by simp [hn]; omega) rfl ?_ (by omega) fun gb cb spb M4 hrb hsb hgb hob => ?_
  · by_cases hck : c = 0
    · rw [if_pos hck]
      exact hR3.take k
    · rw [if_neg hck]
      exact (hR3.drop 0).take k
  have hra3 : M3 ga = some (.cells (flat Enc.e ([a] ++ L.drop k) ++ spa).toArray 3 (0, 0)) := hle3 _ _ hra
  have nab : ga ≠ gb := by
    rcases hgb with rfl | hgb
    · rintro rfl; rw [hra] at hg103; cases hg103
    · rintro rfl; rw [hra3] at hgb; cases hgb
  have hmb : m gb = none := fresh_or hM3.le (le_none hM2.le hg103) hgb
  have le4 : Mem.le m M4 := le_other hM3.le hmb hob
  have hra4 : M4 ga = some (.cells (flat Enc.e ([a] ++ L.drop k) ++ spa).toArray 3 (0, 0)) := by rw [hob _ nab]; exact hra3
  rw [List.nil_append] at hrb
  refine app_list (α := Int) (l := L.take k) (l2 := [a] ++ L.drop k) (spare := spb) rfl rfl (by decide) (by decide) hrb (by simp [hn]; omega) (by simp [hn]; omega) (by simpa using hsb) (Rd.of_block hra4 rfl) (by omega) fun gc cc spc M5 hrc hsc hgc hoc => ?_
  have hmc : m gc = none := fresh_or le4 hmb hgc
  have e : k + (1 + (n - k)) = n + 1 := by omega
  rw [e] at hsc ⊢
  refine hK M5 gc cc spc ⟨le_other le4 hmc hoc, hmc, by simpa using hrc, ?_⟩
  rw [← hsc]
  simp [hn]
  omega

theorem tw_len {a : Int} : ∀ (L : List Int) (k : Nat), (∀ j (h : j < k) (h2 : j < L.length), L[j] < a) → k ≤ L.length → (∀ h : k < L.length, ¬ L[k] < a) → (L.takeWhile (fun x => decide (x < a))).length = k
  | [], k, _, hk, _ => by simp at hk ⊢; exact hk.symm
  | x :: L, 0, _, _, h => by
    have := h (by simp)
    simp at this ⊢
    rw [List.takeWhile_cons]
    simp [this]
  | x :: L, k + 1, h0, hk, h => by
    have hx := h0 0 (by omega) (by simp)
    simp at hx
    rw [List.takeWhile_cons]
    simp only [hx, decide_true, if_true, List.length_cons]
    rw [tw_len L k (fun j hj h2 => by have := h0 (j + 1) (by omega) (by simpa using h2); simpa using this) (by simpa using hk) (fun hh => by have := h (by simpa using hh); simpa using this)]

theorem ins_le (l : List Int) (a : Int) : (insJ l a).length ≤ l.length + 1 := by
  unfold insJ
  simp only
  split
  · omega
  · simp
    omega
theorem fold_le : ∀ (xs l : List Int), (xs.foldl insJ l).length ≤ l.length + xs.length
  | [], l => by simp
  | a :: xs, l => by
    have h1 := fold_le xs (insJ l a)
    have h2 := ins_le l a
    simp only [List.foldl_cons, List.length_cons]
    omega
theorem jumpsM_len (lc : List (Int × Int)) : (jumpsM lc).length ≤ lc.length := by
  have h1 := fold_le (jumpsOf lc) []
  have h2 := jumpsOf_len lc
  unfold jumpsM
  simp at h1
  omega
theorem jumpsM_succ (lc : List (Int × Int)) (i : Nat) (h : i < lc.length) : jumpsM (lc.take (i + 1)) = if isJ lc[i] then insJ (jumpsM (lc.take i)) lc[i].2 else jumpsM (lc.take i) := by
  unfold jumpsM
  rw [jumpsOf_succ lc i h, List.foldl_append]
  split
  · rfl
  · rfl

theorem f31 (t : Tab) : ∀ args m Q, s31 args m Q → FA Try.prog (look t) kp31 Try.f31 args m Q := by
  rintro args m Q ⟨p, s, ua, un, uc, ca, cn, cc, lc, rfl, hlc, hN, hcd, h⟩
  rw [e31]
  refine newA_intro fun g1 m1 hg1 e1 hb1 hle1 => ?_
  refine newA_intro fun g3 m4 hg3 e4 hb4 hle4 => ?_
  suffices key : ∀ d i, i + d = cn → ∀ (M : Mem) (g c : Nat) (spare : List Value), OutI m1 M g c (jumpsM (lc.take i)) spare → L31_3 (look t) (d + 1) Q g1 (some ⟨g, 0, none⟩) (jumpsM (lc.take i)).length c (i : Int) M from
    ⟨cn + 1, key cn 0 (by omega) m4 g3 0 [] ⟨hle4, hg3, hb4, rfl⟩⟩
  have hcd := hcd.le hle1
  intro d
  induction d with
  | zero =>
    intro i hi M g c spare hM
    rw [l31_3]
    refine ⟨M, Mem.le_refl _, _, _, _, cell_of (hM.le _ _ hb1) 3, ?_⟩
    rw [if_neg (by simp; omega)]
    have ei : lc.take i = lc := List.take_of_length_le (by omega)
    rw [ei] at hM ⊢
    exact ret_intro (le_of_upd (Mem.le_trans hle1 hM.le) hM.row) (h _ _ _ (le_none hle1 hM.fr))
  | succ d ih =>
    intro i hi M g c spare hM
    rw [l31_3]
    have b1 := hM.le _ _ hb1
    refine ⟨M, Mem.le_refl _, _, _, _, cell_of b1 3, ?_⟩
    rw [if_pos (by simp; omega)]
    refine ⟨_, _, _, cell_of b1 3, ?_⟩
    have hil : i < lc.length := by omega
    have hsucc := jumpsM_succ lc i hil
    have hlen := jumpsM_len (lc.take i)
    have htl : (lc.take i).length ≤ i := by simp; omega
    refine idx' (hcd.le hM.le) hlc (by omega) (by omega) fun ad had hd => ?_
    simp only [Int.toNat_natCast] at hd ⊢
    generalize lc[i] = x at *
    refine ⟨_, hd 0 _ rfl, _, hd 1 _ rfl, ?_⟩
    refine newA_intro fun g20 m21 hg20 e21 hb21 hle21 => ?_
    refine sto (c := #[.int .i64 0, .int .i64 0]) (t := 73) hb21 rfl (by simp) fun m22 e22 h22 hne22 => ?_
    have h22 : m22 g20 = some (.cells #[.int .i64 x.1, .int .i64 x.2] 73 (0, 0)) := h22
    have hM2 : OutI m1 m22 g c (jumpsM (lc.take i)) spare := by rw [e22, e21, upd_upd]; exact hM.push hg20
    have hw := wsucc (i := i) (n := cn) (by omega) (by omega)
    have skip : isJ x = false → L31_3 (look t) (d + 1) Q g1 (some ⟨g, 0, none⟩) (jumpsM (lc.take i)).length c (IntKind.i64.wrap ((i : Int) + 1)) m22 := by
      intro hj
      rw [hj] at hsucc
      simp only [Bool.false_eq_true, if_false] at hsucc
      rw [hw, ← hsucc]
      rw [← hsucc] at hM2
      exact ih (i + 1) (by omega) m22 g c spare hM2
    refine ⟨_, cell_of h22 0, ?_⟩
    by_cases hlo : x.1 < 18
    · rw [if_pos (by simpa using hlo)]
      exact skip (by unfold isJ; exact decide_eq_false (by omega))
    rw [if_neg (by simpa using hlo)]
    refine ⟨_, cell_of h22 0, ?_⟩
    by_cases hhi : x.1 > 21
    · rw [if_pos (by simpa using hhi)]
      exact skip (by unfold isJ; exact decide_eq_false (by omega))
    rw [if_neg (by simpa using hhi)]
    have hj : isJ x = true := by unfold isJ; exact decide_eq_true (by omega)
    rw [if_pos hj] at hsucc
    clear skip
    generalize hL : jumpsM (lc.take i) = L at *
    have hRL : Rd m22 (some ⟨g, 0, none⟩) L := Rd.of_block hM2.row rfl
    suffices inner : ∀ e k, k + e = L.length → (∀ j (h : j < k) (h2 : j < L.length), L[j] < x.2) → L31_8 (look t) (d + 1) (e + 1) Q g1 (some ⟨g, 0, none⟩) L.length c (i : Int) g20 (k : Int) m22 from
      ⟨L.length + 1, inner L.length 0 (by omega) (fun j h _ => absurd h (Nat.not_lt_zero _))⟩
    have nxt : ∀ (k : Nat), k ≤ L.length → (∀ j (h : j < k) (h2 : j < L.length), L[j] < x.2) → (∀ h : k < L.length, ¬ L[k] < x.2) → (∀ h : k < L.length, L[k] ≠ x.2) → ins31 (look t) (d + 1) Q g1 (some ⟨g, 0, none⟩) L.length c (i : Int) g20 (k : Int) m22 := by
      intro k hk h0 h1 h2
      refine ins31_ok t rfl hM2 h22 hk (by omega) fun M' g' c' spare' hM' => ?_
      have e : insJ L x.2 = L.take k ++ x.2 :: L.drop k := by
        unfold insJ
        rw [tw_len L k h0 hk h1]
        simp only
        rw [if_neg]
        intro he
        obtain ⟨hk', hv⟩ := List.getElem?_eq_some_iff.1 he
        exact h2 hk' hv
      rw [← e, ← hsucc] at hM'
      rw [hw]
      have := ih (i + 1) (by omega) M' g' c' spare' hM'
      rw [hsucc, e] at this
      simpa [Nat.add_comm 1, hk, show k + (L.length - k + 1) = L.length + 1 by omega] using this
    intro e
    induction e with
    | zero =>
      intro k hk h0
      rw [l31_8]
      refine ⟨m22, Mem.le_refl _, Mem.le m22, Mem.le_refl _, ?_⟩
      rw [if_neg (by simp; omega)]
      refine ⟨Mem.le m22, Mem.le_refl _, ?_⟩
      rw [if_neg (by simp; omega)]
      exact nxt k (by omega) h0 (fun h => by omega) (fun h => by omega)
    | succ e ihe =>
      intro k hk h0
      rw [l31_8]
      refine ⟨m22, Mem.le_refl _, Mem.le m22, Mem.le_refl _, ?_⟩
      rw [if_pos (by simp; omega)]
      have hkl : k < L.length := by omega
      refine idx hRL rfl (by omega) (by omega) fun ad' had' hd' => ?_
      simp only [Int.toNat_natCast] at hd' ⊢
      refine ⟨_, held (hd' 0 _ rfl), _, held (cell_of h22 1), ?_⟩
      by_cases hlt : L[k] < x.2
      · rw [if_pos (by simpa using hlt), wsucc (n := L.length) (by omega) (by omega)]
        refine ihe (k + 1) (by omega) fun j hjk h2 => ?_
        by_cases hjk' : j = k
        · subst hjk'; exact hlt
        · exact h0 j (by omega) h2
      · rw [if_neg (by simpa using hlt)]
        refine ⟨Mem.le m22, Mem.le_refl _, ?_⟩
        rw [if_pos (by simp; omega)]
        refine idx hRL rfl (by omega) (by omega) fun ad'' had'' hd'' => ?_
        simp only [Int.toNat_natCast] at hd'' ⊢
        refine ⟨_, held (hd'' 0 _ rfl), _, held (cell_of h22 1), ?_⟩
        by_cases heq : L[k] = x.2
        · rw [if_pos (by simpa using heq), hw]
          have e : insJ L x.2 = L := by
            unfold insJ
            rw [tw_len L k h0 (by omega) (fun _ => hlt)]
            simp only
            rw [if_pos (by rw [List.getElem?_eq_getElem hkl, heq])]
          rw [e] at hsucc
          have := ih (i + 1) (by omega) m22 g c spare (by rw [hsucc]; exact hM2)
          rw [hsucc] at this
          exact this
        · rw [if_neg (by simpa using heq)]
          exact nxt k (by omega) h0 (fun _ => hlt) (fun _ => heq)
end Go.Proofs.Ytcbjdodehjpddaa.Abs
