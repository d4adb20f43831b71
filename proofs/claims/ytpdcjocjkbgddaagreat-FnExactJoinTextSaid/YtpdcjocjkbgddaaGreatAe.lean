/- Rows of one's own that grow, whatever their block. No condition. -/
import Derived.Test.YtpdcjocjkbgddaaGreatAd
namespace Go.Proofs.YtpdcjocjkbgddaaGreat.Abs
open Go.RowKit
set_option linter.unusedVariables false

theorem app_sl {α : Type} [Enc α] {m : Mem} {s : Sl} {D : List Nat} {k sz bytes : Nat} {t : TypeId} {l l2 : List α} {src : Option Addr} {z : Array Value} {K : Option Addr → Nat → Mem → Prop} (hs : Enc.s α = sz) (hz : z.size = sz) (h0 : 0 < sz) (hb : bytes ≠ 0) (hb2 : bytes ≤ 64)
    (hO : OwnL m s l D) (hk : l2.length = k) (hx : Rd m src l2) (hl : l.length + k ≤ 2 ^ 40)
    (hK : ∀ (s' : Sl) (D' : List Nat) (m' : Mem), s'.n = s.n + k → OwnL m' s' (l ++ l2) D' → (∀ b, b ∉ D' → m' b = m b) → (D' = D ∨ ∀ b ∈ D', m b = none) → D'.Nodup → K s'.a s'.c m') :
    appR m s.a s.n s.c src k sz bytes z t K := by
  obtain ⟨a, n, c⟩ := s
  obtain ⟨hn, hO⟩ := hO
  have hn2 : n = l.length := hn
  have h2k : (flat Enc.e l2).length = k * sz := by rw [flat_len, hk, hs]
  have h1n : (flat Enc.e l).length = n * sz := by rw [flat_len, hs, hn2]
  have hK' : ∀ (s' : Sl) (D' : List Nat) (m' : Mem), s'.n = n + k → OwnL m' s' (l ++ l2) D' → (∀ b, b ∉ D' → m' b = m b) → (D' = D ∨ ∀ b ∈ D', m b = none) → D'.Nodup → K s'.a s'.c m' := hK
  refine ⟨flat Enc.e l2, h2k, cells_of_rd hx, fun h => ?_, fun h => ⟨hb, ?_, flat Enc.e l, h1n, ?_, fun g' nc hnc hg' => ?_⟩⟩
  · have h : n + k ≤ c := h
    rcases hO with ⟨ha, hc, hl0, hD⟩ | ⟨g, ty, spare, ha, hD, hm, hsz⟩
    · have ha : a = none := ha
      have hc : c = 0 := hc
      subst ha hc
      have hl2 : l2 = [] := List.eq_nil_of_length_eq_zero (by omega)
      show K none 0 m
      refine hK' ⟨none, n, 0⟩ [] m (by show n = n + k; omega) ⟨by show n = (l ++ l2).length; rw [hl2]; simpa using hn2, .inl ⟨rfl, rfl, by rw [hl0, hl2]; rfl, rfl⟩⟩ (fun _ _ => rfl) (.inl hD.symm) List.nodup_nil
    · have ha : a = some ⟨g, 0, none⟩ := ha
      subst ha
      have hsz : n * sz + spare.length = c * sz := by
        rw [← hs, hn2]
        exact hsz
      have h2 : (n + k) * sz ≤ c * sz := Nat.mul_le_mul_right _ h
      rw [Nat.add_mul] at h2
      have hsp : k * sz ≤ spare.length := by omega
      show stoA m ((⟨g, 0, none⟩ : Addr).add (n * sz)) (flat Enc.e l2) _
      rw [add_eq rfl, Nat.zero_add]
      refine sto (c := (flat Enc.e l ++ spare).toArray) (t := ty) hm (flat_one l2) (by simp [h1n, h2k]; omega) fun m' e he hne => ?_
      have hset : setAll (flat Enc.e l ++ spare).toArray (n * sz) (flat Enc.e l2) = (flat Enc.e (l ++ l2) ++ spare.drop (k * sz)).toArray := by
        have hk := set_all_mid (flat Enc.e l2) (flat Enc.e l) spare (by rw [h2k]; exact hsp)
        rw [h1n, h2k] at hk
        rw [hk, flat_append]
      rw [hset] at he
      refine hK' ⟨some ⟨g, 0, none⟩, n + k, c⟩ [g] m' rfl ⟨by show n + k = (l ++ l2).length; rw [List.length_append]; omega, .inr ⟨g, ty, spare.drop (k * sz), rfl, rfl, he, ?_⟩⟩ (fun b hb => hne b (by simpa using hb)) (.inl hD.symm) (by simp)
      show (l ++ l2).length * Enc.s α + (spare.drop (k * sz)).length = c * Enc.s α
      rw [hs, List.length_drop, List.length_append, ← hn2, hk, Nat.add_mul]
      omega
  · have h1 := nextcap_le (show c < n + k from h)
    have h2 : Builtin.nextslicecap (n + k) c * bytes ≤ (2 * (n + k) + 1000) * 64 := Nat.mul_le_mul h1 hb2
    have h3 : (2 * (n + k) + 1000) * 64 ≤ 2 ^ 48 := by clear h2 h1 hK hK'; omega
    exact Nat.le_trans h2 h3
  · exact cells_of_rd (OwnL.rd (s := ⟨a, n, c⟩) (D := D) ⟨hn, hO⟩)
  · have hnc : n + k ≤ nc := hnc
    have e1 : ((flat Enc.e l).toArray ++ (flat Enc.e l2).toArray ++ Builtin.zeroCells z (nc - (n + k))) = (flat Enc.e (l ++ l2) ++ (Builtin.zeroCells z (nc - (n + k))).toList).toArray := by
      apply Array.ext'
      rw [flat_append]
      simp
    have e2 : (Builtin.zeroCells z (nc - (n + k))).toList.length = (nc - (n + k)) * sz := by
      unfold Builtin.zeroCells
      simp [hz]
    show K (some ⟨g', 0, none⟩) nc (m.upd g' (.cells ((flat Enc.e l).toArray ++ (flat Enc.e l2).toArray ++ Builtin.zeroCells z (nc - (n + k))) t (0, 0)))
    rw [e1]
    refine hK' ⟨some ⟨g', 0, none⟩, n + k, nc⟩ [g'] _ rfl ⟨by show n + k = (l ++ l2).length; rw [List.length_append]; omega, .inr ⟨g', t, _, rfl, rfl, upd_same _ _ _, ?_⟩⟩ (fun b hb => upd_ne (by simpa using hb)) (.inr (by simpa using hg')) (by simp)
    show (l ++ l2).length * Enc.s α + _ = nc * Enc.s α
    rw [e2, hs, List.length_append, ← hn2, hk, ← Nat.add_mul]
    exact congrArg (· * sz) (by omega)
end Go.Proofs.YtpdcjocjkbgddaaGreat.Abs
