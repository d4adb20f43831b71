/- Rows of things with memory that grow by one. No condition. -/
import Derived.Test.YtpdcjocjkbgddaaGreatAe
namespace Go.Proofs.YtpdcjocjkbgddaaGreat.Abs
open Go.RowKit
set_option linter.unusedVariables false

theorem Ds.list_push {α : Type} (d : Ds α) {m : Mem} {s : Sl} {D E : List Nat} {gs sz bytes : Nat} {t t' : TypeId} {l : List α} {x : α} {h' : d.H} {z : Array Value} {K : Option Addr → Nat → Mem → Prop} (hs : Enc.s d.H = sz) (hz : z.size = sz) (h0 : 0 < sz) (hb : bytes ≠ 0) (hb2 : bytes ≤ 64)
    (hO : (Ds.list d).Own m s l D) (hnd : D.Nodup) (hE : d.Own m h' x E) (hEn : E.Nodup) (hdis : ∀ b ∈ E, b ∉ D) (hx : m gs = some (.cells (Enc.e h').toArray t' (0, 0))) (hl : l.length + 1 ≤ 2 ^ 40)
    (hK : ∀ (s' : Sl) (D' : List Nat) (m' : Mem), s'.n = s.n + 1 → (Ds.list d).Own m' s' (l ++ [x]) D' → D'.Nodup → (∀ b ∈ D', b ∈ D ∨ b ∈ E ∨ m b = none) → (∀ b ∈ D, b ∈ D' ∨ m' b = m b) → (∀ b, b ∉ D' → m' b = m b) → K s'.a s'.c m') :
    appR m s.a s.n s.c (some ⟨gs, 0, none⟩) 1 sz bytes z t K := by
  obtain ⟨hs0, Es, D0, h1, h2, hD, h3, h4⟩ := hO
  have hDn : (D0 ++ Es.flatten).Nodup := hD ▸ hnd
  obtain ⟨hn0, hnF, hn0F⟩ := List.nodup_append.1 hDn
  have liveE : ∀ b ∈ Es.flatten, ∃ o, m b = some o := by
    intro b hb
    obtain ⟨A, hA, hb⟩ := List.mem_flatten.1 hb
    obtain ⟨i, hi, e⟩ := List.getElem_of_mem hA
    exact d.live (h4 i (hs0[i]'(by omega)) (l[i]'(by omega)) A (List.getElem?_eq_getElem _) (List.getElem?_eq_getElem _) (by rw [List.getElem?_eq_getElem hi, e])) b hb
  refine app_sl (α := d.H) (l := hs0) (l2 := [h']) (D := D0) hs hz h0 hb hb2 h3 rfl (Rd.of_block (spare := []) hx (by simp [Abs.flat])) (by rw [h1]; exact hl) fun s' D' m' hsn hO' hoff hfr hnd' => ?_
  have ndF : ∀ b ∈ Es.flatten, b ∉ D' := by
    intro b hb hb'
    rcases hfr with e | hfr
    · rw [e] at hb'
      exact hn0F b hb' b hb rfl
    · obtain ⟨o, ho⟩ := liveE b hb
      rw [hfr b hb'] at ho
      cases ho
  have ndE : ∀ b ∈ E, b ∉ D' := by
    intro b hb hb'
    rcases hfr with e | hfr
    · rw [e] at hb'
      exact hdis b hb (by rw [hD]; simp [hb'])
    · obtain ⟨o, ho⟩ := d.live hE b hb
      rw [hfr b hb'] at ho
      cases ho
  have hflat : (Es ++ [E]).flatten = Es.flatten ++ E := by simp
  refine hK s' (D' ++ (Es ++ [E]).flatten) m' hsn ⟨hs0 ++ [h'], Es ++ [E], D', by simp [h1], by simp [h2], rfl, hO', fun i h y A e1 e2 e3 => ?_⟩ ?_ (fun b hb => ?_) (fun b hb => ?_) (fun b hb => hoff b (fun h => hb (by simp [h])))
  · by_cases hi : i < l.length
    · rw [List.getElem?_append_left (by omega)] at e1 e2 e3
      exact d.own_ext (h4 i h y A e1 e2 e3) fun b hb => hoff b (ndF b (List.mem_flatten.2 ⟨A, List.mem_of_getElem? e3, hb⟩))
    · have hi' : i = l.length := by
        have := (List.getElem?_eq_some_iff.1 e2).1
        simp at this
        omega
      subst hi'
      rw [List.getElem?_append_right (by omega), h1, Nat.sub_self] at e1
      rw [List.getElem?_append_right (by omega), Nat.sub_self] at e2
      rw [List.getElem?_append_right (by omega), h2, Nat.sub_self] at e3
      simp only [List.getElem?_cons_zero, Option.some.injEq] at e1 e2 e3
      subst e1 e2 e3
      exact d.own_ext hE fun b hb => hoff b (ndE b hb)
  · rw [hflat]
    refine List.nodup_append.2 ⟨hnd', List.nodup_append.2 ⟨hnF, hEn, fun b hb b' hb' e => hdis b' hb' (by rw [hD, ← e]; simp [hb])⟩, fun b hb b' hb' e => ?_⟩
    subst e
    rcases List.mem_append.1 hb' with hb' | hb'
    · exact ndF b hb' hb
    · exact ndE b hb' hb
  · rw [hflat] at hb
    rcases List.mem_append.1 hb with hb | hb
    · rcases hfr with e | hfr
      · rw [e] at hb
        exact .inl (by rw [hD]; simp [hb])
      · exact .inr (.inr (hfr b hb))
    · rcases List.mem_append.1 hb with hb | hb
      · exact .inl (by rw [hD]; simp [hb])
      · exact .inr (.inl hb)
  · rw [hD] at hb
    rcases List.mem_append.1 hb with hb | hb
    · by_cases h : b ∈ D'
      · exact .inl (by simp [h])
      · exact .inr (hoff b h)
    · exact .inl (by rw [hflat]; simp [hb])
theorem Ds.list_nil {α : Type} (d : Ds α) (m : Mem) : (Ds.list d).Own m (⟨none, 0, 0⟩ : Sl) [] [] :=
  ⟨[], [], [], rfl, rfl, rfl, ⟨rfl, .inl ⟨rfl, rfl, rfl, rfl⟩⟩, by simp⟩
end Go.Proofs.YtpdcjocjkbgddaaGreat.Abs
