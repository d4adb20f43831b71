/- Texts of the claim, merged: rules, contracts and plain laws. No condition. -/
import Derived.Test.YtpkehednooilhaaGreatZdc
import Derived.Test.YtpkehednooilhaaGreatZdb
import Derived.Test.YtpkehednooilhaaGreatZdEqP
import Derived.Test.YtpkehednooilhaaGreatZdEqF
import Derived.Test.YtpkehednooilhaaGreatZdEqJ
import Derived.Test.YtpkehednooilhaaGreatZdEqK
set_option linter.unusedVariables false
set_option linter.unusedSimpArgs false
set_option linter.unusedSectionVars false
set_option maxRecDepth 20000
set_option maxHeartbeats 2000000
namespace Go.Proofs.YtpkehednooilhaaGreat.Abs
open Go.RowKit
inductive Reach (a : Ar) : Int → Prop
 | root (j : Nat) (hj : j < a.rs.length) (hr : isRefB (a.rs.getD j (0, 0)) = true) : Reach a (whereW a.ws (a.rs.getD j (0, 0)).2)
 | slot (q x : Int) (h : Reach a q) (hx : x ∈ slotsL (kdW a.ws q) (szW a.ws q)) (hr : isRefB (valW a.ws (q + x)) = true) : Reach a (whereW a.ws (valW a.ws (q + x)).2)
def valC (ws ws' : List U64) (f : Int → Int) (v v' : Vl) : Prop := v'.1 = v.1 ∧ (isRefB v = false → v' = v) ∧ (isRefB v = true → whereW ws' v'.2 = f (whereW ws v.2))
theorem valC.ref {ws ws' : List U64} {f : Int → Int} {v v' : Vl} (h : valC ws ws' f v v') : isRefB v' = isRefB v := by unfold isRefB; rw [h.1]
theorem valC.trans {ws ws1 ws2 : List U64} {f g : Int → Int} {u v w : Vl} (h : valC ws ws1 f u v) (k : valC ws1 ws2 g v w) : valC ws ws2 (fun q => g (f q)) u w :=
 ⟨k.1.trans h.1, fun e => (k.2.1 (by rw [h.ref]; exact e)).trans (h.2.1 e), fun e => by rw [k.2.2 (by rw [h.ref]; exact e), h.2.2 e]⟩
structure ObjC (ws ws' : List U64) (f : Int → Int) (q : Int) : Prop where
 hd : gw ws' (f q) = gw ws q
 raw : ∀ y : Int, 1 ≤ y → y ≤ szW ws q → (∀ x ∈ slotsL (kdW ws q) (szW ws q), y ≠ x ∧ y ≠ x + 1) → gw ws' (f q + y) = gw ws (q + y)
 sl : ∀ x ∈ slotsL (kdW ws q) (szW ws q), valC ws ws' f (valW ws (q + x)) (valW ws' (f q + x))
structure SmF (a b : Ar) (f : Int → Int) : Prop where
 o : ∀ q, Reach a q → ObjC a.ws b.ws f q
 i : ∀ q r, Reach a q → Reach a r → f q = f r → q = r
 rl : b.rs.length = a.rs.length
 r : ∀ j : Nat, j < a.rs.length → valC a.ws b.ws f (a.rs.getD j (0, 0)) (b.rs.getD j (0, 0))
def Sm (a b : Ar) : Prop := ∃ f, SmF a b f
theorem SmF.reach {a b : Ar} {f : Int → Int} (h : SmF a b f) {q : Int} (hq : Reach a q) : Reach b (f q) := by
 induction hq with
 | root j hj hr =>
  have r := h.r j hj
  have := Reach.root (a := b) j (by rw [h.rl]; exact hj) (by rw [r.ref]; exact hr)
  rwa [r.2.2 hr] at this
 | slot q x hq hx hr ih =>
  have o := h.o q hq
  have s := o.sl x hx
  have := Reach.slot (a := b) (f q) x ih (by rw [kd_c o.hd, sz_c o.hd]; exact hx) (by rw [s.ref]; exact hr)
  rwa [s.2.2 hr] at this
theorem SmF.back {a b : Ar} {f : Int → Int} (h : SmF a b f) {q : Int} (hq : Reach b q) : ∃ p, Reach a p ∧ f p = q := by
 induction hq with
 | root j hj hr =>
  have hj' : j < a.rs.length := by rw [← h.rl]; exact hj
  have r := h.r j hj'
  have hr' := hr
  rw [r.ref] at hr'
  exact ⟨_, Reach.root j hj' hr', (r.2.2 hr').symm⟩
 | slot q x hq hx hr ih =>
  obtain ⟨p, hp, rfl⟩ := ih
  have o := h.o p hp
  rw [kd_c o.hd, sz_c o.hd] at hx
  have s := o.sl x hx
  have hr' := hr
  rw [s.ref] at hr'
  exact ⟨_, Reach.slot p x hp hx hr', (s.2.2 hr').symm⟩
theorem SmF.trans {a b c : Ar} {f g : Int → Int} (h : SmF a b f) (k : SmF b c g) : SmF a c fun q => g (f q) := by
 refine ⟨fun q hq => ?_, fun q r hq hr e => h.i q r hq hr (k.i _ _ (h.reach hq) (h.reach hr) e), k.rl.trans h.rl, fun j hj => (h.r j hj).trans (k.r j (by rw [h.rl]; exact hj))⟩
 have A := h.o q hq
 have B := k.o _ (h.reach hq)
 refine ⟨B.hd.trans A.hd, fun y y0 y1 hy => ?_, fun x hx => ?_⟩
 ·rw [B.raw y y0 (by rw [sz_c A.hd]; exact y1) (by rw [kd_c A.hd, sz_c A.hd]; exact hy), A.raw y y0 y1 hy]
 ·exact (A.sl x hx).trans (B.sl x (by rw [kd_c A.hd, sz_c A.hd]; exact hx))
theorem Sm.trans {a b c : Ar} (h : Sm a b) (k : Sm b c) : Sm a c := by
 obtain ⟨f, h⟩ := h
 obtain ⟨g, k⟩ := k
 exact ⟨_, h.trans k⟩
theorem Sm.flds {a b : Ar} (hw : b.ws = a.ws) (hr : b.rs = a.rs) : Sm a b := by
 refine ⟨fun q => q, fun q hq => ⟨by rw [hw], fun y _ _ _ => by rw [hw], fun x _ => ⟨by rw [hw], fun _ => by rw [hw], fun _ => by rw [hw]⟩⟩, fun q r _ _ e => e, by rw [hr], fun j hj => ⟨by rw [hr], fun _ => by rw [hr], fun _ => by rw [hr, hw]⟩⟩
theorem Sm.refl (a : Ar) : Sm a a := Sm.flds rfl rfl
def Rc (a : Ar) (T1 T2 : List Int) : Prop := ∀ j : Nat, j < a.rs.length → isRefB (a.rs.getD j (0, 0)) = true → (a.rs.getD j (0, 0)).2 ∈ T1 ∨ (a.rs.getD j (0, 0)).2 ∈ T2
def Live (a : Ar) (T1 T2 : List Int) (q : Int) : Prop := q ∈ T1 ∨ q ∈ T2 ∧ okW (gw a.ws q) = true
theorem where_no {ws : List U64} {p : Int} (h : (fwd (gw ws p)).2 = false) : whereW ws p = p := by unfold whereW; rw [h]; rfl
theorem where_ok {a : Ar} (hw : a.wf) {p : Int} (h : okW (gw a.ws p) = true) : whereW a.ws p = p := where_no (ok_fwd (gw_in hw.w p) h)
theorem where_c {ws ws' : List U64} {p : Int} (h : gw ws' p = gw ws p) : whereW ws' p = whereW ws p := by unfold whereW; rw [h]
theorem C0.where1 {a : Ar} {T1 T2 : List Int} (h : C0 a T1 T2) {p : Int} (hp : p ∈ T1) : whereW a.ws p = p := where_ok h.wf (h.h1 p hp)
theorem C0.where2 {a : Ar} {T1 T2 : List Int} (h : C0 a T1 T2) {p : Int} (hp : p ∈ T2) : okW (gw a.ws p) = true ∧ whereW a.ws p = p ∨ (Abs.fwd (gw a.ws p)).2 = true ∧ whereW a.ws p = toW a.ws p ∧ toW a.ws p ∈ T1 := by
 rcases h.h2 p hp with k | ⟨k, k2⟩
 ·exact .inl ⟨k, where_ok h.wf k⟩
 ·refine .inr ⟨k, ?_, k2⟩
  unfold whereW toW
  rw [if_pos k]
theorem C0.live {a : Ar} {T1 T2 : List Int} (h : C0 a T1 T2) {p : Int} (hp : p ∈ T1 ∨ p ∈ T2) : Live a T1 T2 (whereW a.ws p) := by
 rcases hp with hp | hp
 ·rw [h.where1 hp]; exact .inl hp
 ·rcases h.where2 hp with ⟨k, e⟩ | ⟨k, e, k2⟩
  ·rw [e]; exact .inr ⟨hp, k⟩
  ·rw [e]; exact .inl k2
theorem C0.refs {a : Ar} {T1 T2 : List Int} (h : C0 a T1 T2) {q x : Int} (hq : Live a T1 T2 q) (hx : x ∈ slotsL (kdW a.ws q) (szW a.ws q)) (hr : isRefB (valW a.ws (q + x)) = true) : (valW a.ws (q + x)).2 ∈ T1 ∨ (valW a.ws (q + x)).2 ∈ T2 := by
 rcases hq with hq | ⟨hq, ho⟩
 ·exact (h.v1 q hq x hx).2 hr
 ·exact .inr ((h.v2 q hq ho x hx).2 hr)
theorem C0.okL {a : Ar} {T1 T2 : List Int} (h : C0 a T1 T2) {q : Int} (hq : Live a T1 T2 q) : okW (gw a.ws q) = true := hq.elim (h.h1 q) fun k => k.2
theorem C0.canon {a : Ar} {T1 T2 : List Int} (h : C0 a T1 T2) (hr : Rc a T1 T2) {q : Int} (hq : Reach a q) : Live a T1 T2 q := by
 induction hq with
 | root j hj hv => exact h.live (hr j hj hv)
 | slot q x _ hx hv ih => exact h.live (h.refs ih hx hv)
theorem fwdW_where {a : Ar} {T1 T2 : List Int} (h : C0 a T1 T2) {p : Int} (hp : p ∈ T2) (ho : okW (gw a.ws p) = true) {u : Int} (hu : u ∈ T1 ∨ u ∈ T2) : whereW (fwdW a p).ws u = if whereW a.ws u = p then a.top else whereW a.ws u := by
 have n := h.nums
 have i2 := h.in2 hp
 have b := szW_0 h.wf.w p
 have hm := sumC_mem h.wf.w hp ho
 have G := fun {j : Int} (j0 : 0 ≤ j) => gw_fwd h hp ho (j := j) j0
 have hT1 : ∀ q ∈ T1, q ≠ p := fun q hq e => by subst e; have := h.in1 hq; omega
 rcases hu with hu | hu
 ·have i1 := h.in1 hu
  rw [where_c (show gw (fwdW a p).ws u = gw a.ws u by rw [G (by omega), if_neg (hT1 u hu), if_neg (by omega)]), h.where1 hu, if_neg (hT1 u hu)]
 ·have i3 := h.in2 hu
  by_cases e : u = p
  ·subst e
   rw [where_ok h.wf ho, if_pos rfl]
   unfold whereW
   rw [G (by omega), if_pos rfl, fwd_top (by omega) (by omega)]
   rfl
  ·rw [where_c (show gw (fwdW a p).ws u = gw a.ws u by rw [G (by omega), if_neg e, if_neg (by omega)])]
   rcases h.where2 hu with ⟨_, k⟩ | ⟨_, k, k2⟩
   ·rw [k, if_neg e]
   ·rw [k, if_neg (hT1 _ k2)]
theorem fwdW_sm {a : Ar} {T1 T2 : List Int} (h : C0 a T1 T2) (hc : Rc a T1 T2) {p : Int} (hp : p ∈ T2) (ho : okW (gw a.ws p) = true) : SmF a (fwdW a p) fun q => if q = p then a.top else q := by
 have n := h.nums
 have i2 := h.in2 hp
 have b := szW_0 h.wf.w p
 have ez : szC a.ws p = szW a.ws p := if_pos ho
 have G := fun {j : Int} (j0 : 0 ≤ j) => gw_fwd h hp ho (j := j) j0
 have hm := sumC_mem h.wf.w hp ho
 have key : ∀ q, Live a T1 T2 q → ∀ y : Int, 0 ≤ y → y ≤ szW a.ws q → gw (fwdW a p).ws ((if q = p then a.top else q) + y) = gw a.ws (q + y) := by
  intro q hq y y0 y1
  by_cases e : q = p
  ·rw [if_pos e]
   subst e
   rw [G (by omega), if_neg (by omega), if_pos (by omega)]
   congr 1
   omega
  ·rw [if_neg e]
   rcases hq with hq | ⟨hq, hoq⟩
   ·have i1 := h.in1 hq
    rw [G (by omega), if_neg (by omega), if_neg (by omega)]
   ·have i3 := h.in2 hq
    have ezq : szC a.ws q = szW a.ws q := if_pos hoq
    have ap : q < p → q + szC a.ws q + 1 ≤ p := fun hl => h.c2.apart q hq p hp hl
    rw [G (by omega), if_neg (by omega), if_neg (by omega)]
 have sm : ∀ v : Vl, (isRefB v = true → v.2 ∈ T1 ∨ v.2 ∈ T2) → valC a.ws (fwdW a p).ws (fun q => if q = p then a.top else q) v v := fun v hv => ⟨rfl, fun _ => rfl, fun e => fwdW_where h hp ho (hv e)⟩
 refine ⟨fun q hq => ?_, fun q r hq hr e => ?_, rfl, fun j hj => sm _ (hc j hj)⟩
 ·have hl := h.canon hc hq
  have z := szW_0 h.wf.w q
  have k0 := key q hl 0 (by omega) z.1
  rw [Int.add_zero, Int.add_zero] at k0
  refine ⟨k0, fun y y0 y1 _ => key q hl y (by omega) y1, fun x hx => ?_⟩
  have sx := slots_in (size_ok h.wf (h.okL hl)).1 hx
  have ev : valW (fwdW a p).ws ((if q = p then a.top else q) + x) = valW a.ws (q + x) := val_c (key q hl x (by omega) (by omega)) (by have := key q hl (x + 1) (by omega) (by omega); rwa [← Int.add_assoc, ← Int.add_assoc] at this)
  show valC _ _ _ _ (valW (fwdW a p).ws ((if q = p then a.top else q) + x))
  rw [ev]
  exact sm _ (h.refs hl hx)
 ·have lq := h.canon hc hq
  have lr := h.canon hc hr
  have far : ∀ r, Live a T1 T2 r → r ≠ a.top := by
   intro r hr e
   rcases hr with hr | ⟨hr, _⟩
   ·have := h.in1 hr; omega
   ·have := h.in2 hr; omega
  have e : (if q = p then a.top else q) = (if r = p then a.top else r) := e
  split at e <;> split at e
  ·omega
  ·exact absurd e.symm (far r lr)
  ·exact absurd e (far q lq)
  ·exact e
theorem fwdA_sm {a : Ar} {T1 T2 : List Int} (h : C0 a T1 T2) (hc : Rc a T1 T2) {v : Vl} (hv : isRefB v = true → v.2 ∈ T1 ∨ v.2 ∈ T2) :
  ∃ f, SmF a (fwdA a v).1 f ∧ (∀ u, u ∈ T1 ∨ u ∈ T2 → whereW (fwdA a v).1.ws u = f (whereW a.ws u)) ∧ (isRefB v = true → whereW (fwdA a v).1.ws (fwdA a v).2.2 = f (whereW a.ws v.2)) := by
 obtain ⟨f, hf⟩ : ∃ f : Int → Int, f = fun q => q := ⟨_, rfl⟩
 have idS : ∃ f, f = (fun q : Int => q) ∧ SmF a a f := ⟨_, rfl, fun q hq => ⟨rfl, fun y _ _ _ => rfl, fun x _ => ⟨rfl, fun _ => rfl, fun _ => rfl⟩⟩, fun q r _ _ e => e, rfl, fun j _ => ⟨rfl, fun _ => rfl, fun _ => rfl⟩⟩
 obtain ⟨f, rfl, S⟩ := idS
 unfold fwdA
 split
 ·rename_i k
  obtain ⟨k1, k2⟩ := k
  have hp : v.2 ∈ T2 := (hv k1).resolve_left fun e => by rw [h.other1 e] at k2; cases k2
  split
  ·rename_i k3
   refine ⟨_, S, fun u _ => rfl, fun _ => ?_⟩
   rcases h.where2 hp with ⟨k, _⟩ | ⟨_, e, k⟩
   ·have := ok_fwd (gw_in h.wf.w v.2) k; rw [k3] at this; cases this
   ·show whereW a.ws (toW a.ws v.2) = whereW a.ws v.2
    rw [h.where1 k, e]
  ·rename_i k3
   have ho : okW (gw a.ws v.2) = true := (h.h2 _ hp).resolve_right fun e => k3 e.1
   refine ⟨_, fwdW_sm h hc hp ho, fun u hu => fwdW_where h hp ho hu, fun _ => ?_⟩
   have c1 := h.fwd hp ho
   show whereW (fwdW a v.2).ws a.top = if whereW a.ws v.2 = v.2 then a.top else whereW a.ws v.2
   rw [where_ok h.wf ho, if_pos rfl]
   exact c1.where1 (by simp)
 ·exact ⟨_, S, fun u _ => rfl, fun _ => rfl⟩
theorem Rc.more {a b : Ar} {T1 T2 T1' : List Int} (h : Rc a T1 T2) (hr : b.rs = a.rs) (hs : ∀ q ∈ T1, q ∈ T1') : Rc b T1' T2 := by
 intro j hj hv
 rw [hr] at hj hv ⊢
 exact (h j hj hv).imp (hs _) id
theorem w_idem (x : Int) : IntKind.i64.wrap (IntKind.i64.wrap x) = IntKind.i64.wrap x := by
 unfold IntKind.wrap
 simp [IntKind.bits, IntKind.signed] <;> omega
theorem norm_val (ws : List U64) (i : Int) : norm (valW ws i) = valW ws i := by
 unfold norm valW
 simp only [Prod.mk.injEq, true_and]
 exact w_idem _
theorem put_sm {a : Ar} {T1 T2 : List Int} (h : C0 a T1 T2) (hc : Rc a T1 T2) {p x : Int} {v : Vl} (hp : p ∈ T1) (hx : x ∈ slotsL (kdW a.ws p) (szW a.ws p)) (hv : valOkB v = true) (hr : isRefB v = true → v.2 ∈ T1) (hn : norm v = v)
  (hC : valC a.ws a.ws (fun q => q) (valW a.ws (p + x)) v) : SmF a (putV a (p + x) v) fun q => q := by
 have n := h.nums
 have P := put_ok h hp hx hv hr
 have ip := h.in1 hp
 have sx := slots_in (size_ok h.wf (h.h1 p hp)).1 hx
 have G := fun {j : Int} (j0 : 0 ≤ j) => gw_put (a := a) (i := p + x) (v := v) (by omega) (by omega) (j := j) j0
 have far2 : ∀ q ∈ T2, ∀ y : Int, 0 ≤ y → y ≤ szC a.ws q → gw (putV a (p + x) v).ws (q + y) = gw a.ws (q + y) := by
  intro q hq y y0 y1
  have i3 := h.in2 hq
  rw [G (by omega), if_neg (by omega), if_neg (by omega)]
 have hd2 : ∀ u, u ∈ T1 ∨ u ∈ T2 → gw (putV a (p + x) v).ws u = gw a.ws u := by
  rintro u (hu | hu)
  ·exact P.head u hu
  ·have := far2 u hu 0 (by omega) (h.c2.mem u hu).2.1
   rwa [Int.add_zero] at this
 have sm : ∀ w : Vl, (isRefB w = true → w.2 ∈ T1 ∨ w.2 ∈ T2) → valC a.ws (putV a (p + x) v).ws (fun q => q) w w := fun w hw => ⟨rfl, fun _ => rfl, fun e => where_c (hd2 _ (hw e))⟩
 refine ⟨fun q hq => ?_, fun q r _ _ e => e, rfl, fun j hj => sm _ (hc j hj)⟩
 have hl := h.canon hc hq
 have kk : q ≠ p → ∀ y : Int, 0 ≤ y → y ≤ szW a.ws q → gw (putV a (p + x) v).ws (q + y) = gw a.ws (q + y) := by
  intro hne y y0 y1
  rcases hl with hl | ⟨hl, hol⟩
  ·exact P.keep q hl hne y y0 y1
  ·exact far2 q hl y y0 (by rw [show szC a.ws q = szW a.ws q from if_pos hol]; exact y1)
 refine ⟨hd2 q (hl.imp id fun k => k.1), fun y y0 y1 hy => ?_, fun y hy => ?_⟩
 ·by_cases e : q = p
  ·subst e
   have := hy x hx
   rw [G (by omega), if_neg (by omega), if_neg (by omega)]
  ·exact kk e y (by omega) y1
 ·have sy := slots_in (size_ok h.wf (h.okL hl)).1 hy
  by_cases e : q = p
  ·subst e
   by_cases ex : y = x
   ·subst ex
    rw [P.val, hn]
    exact ⟨hC.1, hC.2.1, fun e => (where_c (hd2 _ (.inl (hr (by rw [hC.ref]; exact e))))).trans (hC.2.2 e)⟩
   ·rw [P.other y hy ex]
    exact sm _ (h.refs hl hy)
  ·have ev : valW (putV a (p + x) v).ws (q + y) = valW a.ws (q + y) := val_c (kk e y (by omega) (by omega)) (by have := kk e (y + 1) (by omega) (by omega); rwa [← Int.add_assoc] at this)
   rw [ev]
   exact sm _ (h.refs hl hy)
theorem load_sm {a : Ar} {T1 T2 : List Int} (h : C0 a T1 T2) (hc : Rc a T1 T2) {p x : Int} (hp : p ∈ T1) (hx : x ∈ slotsL (kdW a.ws p) (szW a.ws p)) :
  Sm a (putV (fwdA a (valW a.ws (p + x))).1 (p + x) (fwdA a (valW a.ws (p + x))).2) := by
 obtain ⟨v1, v2⟩ := h.v1 p hp x hx
 obtain ⟨f, S, w1, w2⟩ := fwdA_sm h hc v2
 obtain ⟨Ta, F⟩ := fwd_ok h v1 v2
 have sx := slots_in (size_ok h.wf (h.h1 p hp)).1 hx
 have K0 : gw (fwdA a (valW a.ws (p + x))).1.ws p = gw a.ws p := by have := F.keep p hp 0 (by omega) (szW_0 h.wf.w p).1; rwa [Int.add_zero] at this
 have ev : valW (fwdA a (valW a.ws (p + x))).1.ws (p + x) = valW a.ws (p + x) := val_c (F.keep p hp x (by omega) (by omega)) (by have := F.keep p hp (x + 1) (by omega) (by omega); rwa [← Int.add_assoc] at this)
 have hn : norm (fwdA a (valW a.ws (p + x))).2 = (fwdA a (valW a.ws (p + x))).2 := by
  cases e : isRefB (valW a.ws (p + x)) with
  | false => rw [F.nr e]; exact norm_val _ _
  | true =>
   have e2 : isRefB (fwdA a (valW a.ws (p + x))).2 = true := by unfold isRefB at e ⊢; rw [F.tag]; exact e
   have := F.c.in1 (F.r e2)
   have := F.c.nums
   unfold norm
   rw [w64 (by omega) (by omega)]
 refine ⟨_, S.trans (put_sm F.c (hc.more F.f.rs F.sub) (F.sub p hp) (by rw [kd_c K0, sz_c K0]; exact hx) F.ok F.r hn ?_)⟩
 rw [ev]
 exact ⟨F.tag, F.nr, fun e => by rw [w2 e, w1 _ (v2 e)]⟩
theorem scS_sm {p : Int} {T2 : List Int} : ∀ (xs : List Int) (a : Ar) (T1 : List Int), C0 a T1 T2 → Rc a T1 T2 → p ∈ T1 → (∀ x ∈ xs, x ∈ slotsL (kdW a.ws p) (szW a.ws p)) → Sm a (scS p xs a)
 | [], a, T1, _, _, _, _ => Sm.refl a
 | x :: xs, a, T1, h, hc, hp, hxs => by
  have hx := hxs x (by simp)
  obtain ⟨v1, v2⟩ := h.v1 p hp x hx
  obtain ⟨Ta, F⟩ := fwd_ok h v1 v2
  have S := load_sm h hc hp hx
  have e1 : gw (fwdA a (valW a.ws (p + x))).1.ws p = gw a.ws p := by have := F.keep p hp 0 (by omega) (szW_0 h.wf.w p).1; rwa [Int.add_zero] at this
  have P := put_ok F.c (F.sub p hp) (show x ∈ slotsL (kdW (fwdA a (valW a.ws (p + x))).1.ws p) (szW (fwdA a (valW a.ws (p + x))).1.ws p) by rw [kd_c e1, sz_c e1]; exact hx) F.ok F.r
  have e2 := P.head p (F.sub p hp)
  unfold scS
  exact S.trans (scS_sm xs _ Ta P.c (hc.more (P.f.rs.trans F.f.rs) F.sub) (F.sub p hp) fun y hy => by rw [kd_c e2, sz_c e2, kd_c e1, sz_c e1]; exact hxs y (by simp [hy]))
theorem C1.rc {a : Ar} {T1 T2 : List Int} (h : C1 a T1 T2) : Rc a T1 T2 := by
 intro j hj hr
 have e : a.rs.getD j (0, 0) = a.rs[j] := by rw [List.getD_eq_getElem?_getD, List.getElem?_eq_getElem hj]; rfl
 rw [e] at hr ⊢
 exact .inl ((h.r _ (List.getElem_mem hj)).2 hr)
theorem over_sm (a : Ar) : Sm a (overA a) := by
 unfold overA
 split
 ·exact Sm.flds rfl rfl
 ·exact Sm.refl a
theorem scanA_sm {a : Ar} {T1 T2 : List Int} (h : C1 a T1 T2) (hne : a.scan ≠ a.top) : Sm a (scanA a) :=
 (scS_sm _ a T1 h.c h.rc (h.sc.resolve_left hne) fun x hx => hx).trans (Sm.flds rfl rfl)
theorem steps_sm : ∀ (n : Nat) (a : Ar), Gd a → Sm a (stepsA n a)
 | 0, a, _ => Sm.refl a
 | n + 1, a, h => by
  unfold stepsA
  rcases h with ⟨T1, h⟩ | ⟨T1, T2, h, hne⟩
  ·rw [h.cy, if_neg (by decide)]
   exact Sm.refl a
  ·rw [if_pos h.c.cy]
   obtain ⟨T1', k1, k2, k3, k4⟩ := h.scan hne
   exact (scanA_sm h hne).trans ((over_sm _).trans (steps_sm n _ k1.over.1))
theorem fin_sm {a : Ar} (h : OkC a) : Sm a (finA a) := (over_sm a).trans (steps_sm 8000 _ h.over.1)
theorem flS_sm {a : Ar} {T1 T2 : List Int} (h : C0 a T1 T2) (hc : Rc a T1 T2) {i : Nat} (hi : i < a.rs.length) (hv : valOkB (a.rs.getD i (0, 0)) = true) : Sm a (flS i a) := by
 obtain ⟨f, S, w1, w2⟩ := fwdA_sm h hc (hc i hi)
 obtain ⟨Ta, F⟩ := fwd_ok h hv (hc i hi)
 unfold flS
 refine ⟨f, S.o, S.i, by show (List.set _ _ _).length = _; rw [List.length_set]; exact S.rl, fun j hj => ?_⟩
 show valC a.ws _ f _ ((List.set (fwdA a (a.rs.getD i (0, 0))).1.rs i (fwdA a (a.rs.getD i (0, 0))).2).getD j (0, 0))
 by_cases e : i = j
 ·subst e
  have : ((fwdA a (a.rs.getD i (0, 0))).1.rs.set i (fwdA a (a.rs.getD i (0, 0))).2).getD i (0, 0) = (fwdA a (a.rs.getD i (0, 0))).2 := by
   rw [List.getD_eq_getElem?_getD, List.getElem?_set_self (by rw [F.f.rs]; exact hi)]
   rfl
  rw [this]
  exact ⟨F.tag, F.nr, w2⟩
 ·have : ((fwdA a (a.rs.getD i (0, 0))).1.rs.set i (fwdA a (a.rs.getD i (0, 0))).2).getD j (0, 0) = (fwdA a (a.rs.getD i (0, 0))).1.rs.getD j (0, 0) := by
   rw [List.getD_eq_getElem?_getD, List.getElem?_set_ne e, ← List.getD_eq_getElem?_getD]
  rw [this]
  exact S.r j hj
theorem FlI.rc {a : Ar} {T1 T2 : List Int} {i : Nat} (h : FlI a T1 T2 i) : Rc a T1 T2 := by
 intro j hj hr
 have e : a.rs.getD j (0, 0) = a.rs[j] := by rw [List.getD_eq_getElem?_getD, List.getElem?_eq_getElem hj]; rfl
 rw [e] at hr ⊢
 exact ((h.r j hj).2 hr).2
theorem flR_sm {T2 : List Int} : ∀ (d i : Nat) (a : Ar) (T1 : List Int), i + d = a.rs.length → FlI a T1 T2 i → Sm a (flR d i a)
 | 0, i, a, T1, _, _ => Sm.refl a
 | d + 1, i, a, T1, hi, h => by
  have hlt : i < a.rs.length := by omega
  obtain ⟨⟨v1, v2⟩, Ta, k1, k2⟩ := flS_ok hlt h
  have S := flS_sm h.c h.rc hlt v1
  unfold flR
  obtain ⟨f, S'⟩ := S
  exact (show Sm a (flS i a) from ⟨f, S'⟩).trans (flR_sm d (i + 1) (flS i a) Ta (by rw [S'.rl]; omega) k1)
theorem flip_sm {a : Ar} {T1 : List Int} (h : I0 a T1) : Sm a (flipA a) := by
 have c := flip0_ok h
 have hI : FlI (flip0 a) [] T1 0 := ⟨c, rfl, fun j hj => by
  have := h.r a.rs[j] (List.getElem_mem hj)
  exact ⟨this.1, fun hr => ⟨fun e => by omega, .inr (this.2 hr)⟩⟩⟩
 exact (show Sm a (flip0 a) from Sm.flds rfl rfl).trans ((flR_sm (flip0 a).rs.length 0 (flip0 a) [] (by omega) hI).trans (over_sm _))
theorem coll_sm {a : Ar} (h : OkC a) : Sm a (collA a) := by
 obtain ⟨⟨T1, f1⟩, f2, f3, f4⟩ := h.fin
 obtain ⟨g1, g2, g3⟩ := flip_gd f1
 exact (fin_sm h).trans ((flip_sm f1).trans (fin_sm g1.okC))
theorem slots_1 (s : Int) : slotsL 1 s = [] := by
 unfold slotsL everyK numK fromK
 rw [if_neg (by decide), if_neg (by decide), if_neg (by decide), show ((s - (s + 1) + 1) / 2).toNat = 0 by omega]
 rfl
theorem slots_2 : slotsL 2 3 = [2] := by decide
theorem slots_3 {s i : Int} (h : sizeB 3 s = true) (i0 : 0 ≤ i) (i1 : i < s / 4) : 1 + 4 * i ∈ slotsL 3 s ∧ 3 + 4 * i ∈ slotsL 3 s := by
 have hs : s = 16 ∨ s = 32 ∨ s = 64 ∨ s = 128 ∨ s = 256 := by unfold sizeB at h; simpa using h
 have ef : fromK 3 s = 1 := by unfold fromK; rw [if_neg (by decide), if_pos (by decide)]
 unfold slotsL
 rw [ef]
 constructor
 ·have := mem_every (f := 1) (n := numK 1 s) (2 * i).toNat (by unfold numK; omega)
  rwa [show 1 + 2 * (((2 * i).toNat : Nat) : Int) = 1 + 4 * i by omega] at this
 ·have := mem_every (f := 1) (n := numK 1 s) (2 * i + 1).toNat (by unfold numK; omega)
  rwa [show 1 + 2 * (((2 * i + 1).toNat : Nat) : Int) = 3 + 4 * i by omega] at this
structure Shp (a : Ar) : Prop where
 t : ∀ q, Reach a q → kdW a.ws q = 1 → gw a.ws (q + 1) ≤ 160 ∧ szW a.ws q = 1 + (gw a.ws (q + 1) + 7) / 8
 k : ∀ q, Reach a q → ∀ x ∈ slotsL (kdW a.ws q) (szW a.ws q), isRefB (valW a.ws (q + x)) = true → kdW a.ws (whereW a.ws (valW a.ws (q + x)).2) = kindT (valW a.ws (q + x)).1
 kr : ∀ j : Nat, j < a.rs.length → isRefB (a.rs.getD j (0, 0)) = true → kdW a.ws (whereW a.ws (a.rs.getD j (0, 0)).2) = kindT (a.rs.getD j (0, 0)).1
 rl : ∀ q, Reach a q → ∀ x ∈ slotsL (kdW a.ws q) (szW a.ws q), ruleB (kdW a.ws q) (valW a.ws (q + x)).1 = true
 tb : ∀ q, Reach a q → kdW a.ws q = 2 → (valW a.ws (q + 2)).1 = 0 ∨ (valW a.ws (q + 2)).1 = 8
 rr : ∀ j : Nat, j < a.rs.length → (a.rs.getD j (0, 0)).1 ≠ 8
 ok : ∀ q, Reach a q → okW (gw a.ws q) = true
theorem ok_size {a : Ar} (hw : a.wf) {p : Int} (h : okW (gw a.ws p) = true) : sizeB (kdW a.ws p) (szW a.ws p) = true ∧ 1 ≤ szW a.ws p := size_ok hw h
theorem ok_tab {a : Ar} (hw : a.wf) {p : Int} (h : okW (gw a.ws p) = true) (hk : kdW a.ws p = 2) : szW a.ws p = 3 := by
 have := (size_ok hw h).1
 rw [hk] at this
 unfold sizeB at this
 simpa using this
theorem Shp.sm {a b : Ar} {f : Int → Int} (h : Shp a) (hw : a.wf) (S : SmF a b f) : Shp b := by
 refine ⟨fun q hq hk => ?_, fun q hq x hx hr => ?_, fun j hj hr => ?_, fun q hq x hx => ?_, fun q hq hk => ?_, fun j hj => ?_, fun q hq => ?_⟩
 ·obtain ⟨p, hp, rfl⟩ := S.back hq
  have o := S.o p hp
  rw [kd_c o.hd] at hk
  obtain ⟨t1, t2⟩ := h.t p hp hk
  have := (gw_in hw.w (p + 1)).1
  have e := o.raw 1 (by omega) (by omega) fun x hx => by rw [hk, slots_1] at hx; cases hx
  rw [e, sz_c o.hd]
  exact ⟨t1, t2⟩
 ·obtain ⟨p, hp, rfl⟩ := S.back hq
  have o := S.o p hp
  rw [kd_c o.hd, sz_c o.hd] at hx
  have s := o.sl x hx
  rw [s.ref] at hr
  have o2 := S.o _ (Reach.slot p x hp hx hr)
  rw [s.2.2 hr, kd_c o2.hd, s.1]
  exact h.k p hp x hx hr
 ·rw [S.rl] at hj
  have s := S.r j hj
  rw [s.ref] at hr
  have o2 := S.o _ (Reach.root j hj hr)
  rw [s.2.2 hr, kd_c o2.hd, s.1]
  exact h.kr j hj hr
 ·obtain ⟨p, hp, rfl⟩ := S.back hq
  have o := S.o p hp
  rw [kd_c o.hd, sz_c o.hd] at hx
  rw [(o.sl x hx).1, kd_c o.hd]
  exact h.rl p hp x hx
 ·obtain ⟨p, hp, rfl⟩ := S.back hq
  have o := S.o p hp
  rw [kd_c o.hd] at hk
  have s := o.sl 2 (by rw [hk, ok_tab hw (h.ok p hp) hk, slots_2]; simp)
  rw [s.1]
  exact h.tb p hp hk
 ·rw [S.rl] at hj
  rw [(S.r j hj).1]
  exact h.rr j hj
 ·obtain ⟨p, hp, rfl⟩ := S.back hq
  rw [(S.o p hp).hd]
  exact h.ok p hp
theorem getD_mem {l : List Vl} {j : Nat} (h : j < l.length) : l.getD j (0, 0) ∈ l := by
 rw [List.getD_eq_getElem?_getD, List.getElem?_eq_getElem h]
 exact List.getElem_mem h
theorem shp_of {a : Ar} (hw : a.wf) (h : okP a) : Shp a := by
 obtain ⟨mk, h⟩ := h
 have hT := tile_ok hw h.N h.t
 have hn := hT.n
 have way : ∀ v : Vl, ∀ frm : Int, valOkB v = true → leadsB a mk v frm = true → isRefB v = true → 0 ≤ whereW a.ws v.2 ∧ whereW a.ws v.2 < mk.length ∧ hdM mk (whereW a.ws v.2) := fun v frm h1 h2 hr => by
  obtain ⟨l1, l2, l3⟩ := leads_ok h2 hr
  have := ref_pos h1 hr
  exact hT.where_ hw (by omega) l1 l2
 have rc : ∀ q, Reach a q → 0 ≤ q ∧ q < mk.length ∧ hdM mk q := by
  intro q hq
  induction hq with
  | root j hj hr =>
   obtain ⟨r1, r2, r3⟩ := h.r _ (getD_mem hj)
   exact way _ 1 r1 r3 hr
  | slot q x hq hx hr ih =>
   obtain ⟨i0, i1, i2⟩ := ih
   obtain ⟨s1, s2, s3⟩ := (h.o q i0 i1 i2).1 x hx
   exact way _ _ s1 s2 hr
 refine ⟨fun q hq hk => ?_, fun q hq x hx hr => ?_, fun j hj hr => ?_, fun q hq x hx => ?_, fun q hq hk => ?_, fun j hj => ?_, fun q hq => ?_⟩
 ·obtain ⟨i0, i1, i2⟩ := rc q hq
  obtain ⟨s1, s2, s3⟩ := (h.o q i0 i1 i2).2.1 hk
  exact ⟨s1, s2⟩
 ·obtain ⟨i0, i1, i2⟩ := rc q hq
  obtain ⟨s1, s2, s3⟩ := (h.o q i0 i1 i2).1 x hx
  exact (leads_ok s2 hr).2.2
 ·obtain ⟨r1, r2, r3⟩ := h.r _ (getD_mem hj)
  exact (leads_ok r3 hr).2.2
 ·obtain ⟨i0, i1, i2⟩ := rc q hq
  exact ((h.o q i0 i1 i2).1 x hx).2.2
 ·obtain ⟨i0, i1, i2⟩ := rc q hq
  exact tabs_tag a.ws.length 0 [] h.b q i0 (by omega) i2 hk
 ·exact (h.r _ (getD_mem hj)).2.1
 ·obtain ⟨i0, i1, i2⟩ := rc q hq
  exact (hT.h q i0 i1 i2).1
theorem okC_wf {a : Ar} (h : OkC a) : a.wf := h.num.2
def Src (a : Ar) (v : Vl) : Prop := (∃ j : Nat, j < a.rs.length ∧ v = a.rs.getD j (0, 0)) ∨ ∃ q x, Reach a q ∧ x ∈ slotsL (kdW a.ws q) (szW a.ws q) ∧ v = valW a.ws (q + x)
theorem Src.reach {a : Ar} {v : Vl} (h : Src a v) (hr : isRefB v = true) : Reach a (whereW a.ws v.2) := by
 rcases h with ⟨j, hj, rfl⟩ | ⟨q, x, hq, hx, rfl⟩
 ·exact Reach.root j hj hr
 ·exact Reach.slot q x hq hx hr
theorem I0.reach {a : Ar} {T1 : List Int} (h : I0 a T1) {q : Int} (hq : Reach a q) : q ∈ T1 := by
 have e : ∀ p ∈ T1, whereW a.ws p = p := fun p hp => where_ok h.wf (h.h1 p hp)
 induction hq with
 | root j hj hr =>
  have := (h.r _ (getD_mem hj)).2 hr
  rw [e _ this]; exact this
 | slot q x _ hx hr ih =>
  have := (h.v q ih x hx).2 hr
  rw [e _ this]; exact this
theorem I0.in1 {a : Ar} {T1 : List Int} (h : I0 a T1) {p : Int} (hp : p ∈ T1) : startA a a.to ≤ p ∧ p + szW a.ws p + 1 ≤ a.top ∧ 1 ≤ szW a.ws p := by
 have := h.c1.mem p hp
 exact ⟨this.1, this.2.2, (size_ok h.wf (h.h1 p hp)).2⟩
theorem OkC.at {a : Ar} (h : OkC a) {q : Int} (hq : Reach a q) : okW (gw a.ws q) = true ∧ 1 ≤ q ∧ q + szW a.ws q + 1 ≤ a.ws.length ∧ 1 ≤ szW a.ws q ∧ (q + szW a.ws q + 1 ≤ a.top ∨ endA a a.to < q) := by
 rcases h with ⟨T1, h⟩ | ⟨T1, T2, h⟩
 ·have hp := h.reach hq
  have := h.in1 hp
  have hh := halves h.N
  exact ⟨h.h1 q hp, by omega, by omega, by omega, .inl (by omega)⟩
 ·have hl := h.c.canon h.rc hq
  have n := h.c.nums
  refine ⟨h.c.okL hl, ?_⟩
  rcases hl with hp | ⟨hp, ho⟩
  ·have := h.c.in1 hp
   exact ⟨by omega, by omega, by omega, .inl (by omega)⟩
  ·have := h.c.in2 hp
   have ez : szC a.ws q = szW a.ws q := if_pos ho
   have s := (size_ok h.c.wf ho).2
   exact ⟨by omega, by omega, s, by omega⟩
theorem OkC.src {a : Ar} (h : OkC a) {v : Vl} (hv : Src a v) : valOkB v = true ∧ (isRefB v = true → 0 < v.2 ∧ v.2 < a.ws.length ∧ placeA a v.2 = whereW a.ws v.2) := by
 rcases h with ⟨T1, h⟩ | ⟨T1, T2, h⟩
 ·have hh := halves h.N
  have key : valOkB v = true ∧ (isRefB v = true → v.2 ∈ T1) := by
   rcases hv with ⟨j, hj, rfl⟩ | ⟨q, x, hq, hx, rfl⟩
   ·exact h.r _ (getD_mem hj)
   ·exact h.v q (h.reach hq) x hx
  refine ⟨key.1, fun hr => ?_⟩
  have hp := key.2 hr
  have := h.in1 hp
  refine ⟨by omega, by omega, ?_⟩
  unfold placeA
  rw [where_ok h.wf (h.h1 _ hp)]
  split <;> rfl
 ·have n := h.c.nums
  have key : valOkB v = true ∧ (isRefB v = true → v.2 ∈ T1 ∨ v.2 ∈ T2) := by
   rcases hv with ⟨j, hj, rfl⟩ | ⟨q, x, hq, hx, rfl⟩
   ·have := h.r _ (getD_mem hj)
    exact ⟨this.1, fun e => .inl (this.2 e)⟩
   ·have hl := h.c.canon h.rc hq
    refine ⟨?_, fun hr => h.c.refs hl hx hr⟩
    rcases hl with hl | ⟨hl, ho⟩
    ·exact (h.c.v1 q hl x hx).1
    ·exact (h.c.v2 q hl ho x hx).1
  refine ⟨key.1, fun hr => ?_⟩
  unfold placeA
  rcases key.2 hr with hp | hp
  ·have := h.c.in1 hp
   refine ⟨by omega, by omega, ?_⟩
   rw [h.c.where1 hp]
   split <;> rfl
  ·have := h.c.in2 hp
   have := (h.c.c2.mem _ hp).2.1
   refine ⟨by omega, by omega, ?_⟩
   rw [h.c.other2 hp, if_pos rfl]
theorem OkC.text {a : Ar} (h : OkC a) (hs : Shp a) {q : Int} (hq : Reach a q) (hk : kdW a.ws q = 1) : TextAt a q := by
 have p := h.at hq
 have t := hs.t q hq hk
 have := (gw_in (okC_wf h).w (q + 1)).1
 exact ⟨by omega, t.1, by omega, by omega⟩
theorem OkC.key {a : Ar} (h : OkC a) (hs : Shp a) {v : Vl} (hv : Src a v) (h0 : v.1 ≠ 0) (h8 : v.1 ≠ 8) (h9 : v.1 ≠ 9) : KeyOk a v := by
 obtain ⟨s1, s2⟩ := h.src hv
 have t := valOk_tag s1
 refine ⟨s1, by omega, by omega, fun hr => ?_, fun e => ?_⟩
 ·have := h.at (hv.reach hr)
  have := s2 hr
  exact ⟨by omega, by omega, by omega, this.2.2⟩
 ·have hr : isRefB v = true := by unfold isRefB kindT; rw [e]; rfl
  refine h.text hs (hv.reach hr) ?_
  have kk : kdW a.ws (whereW a.ws v.2) = kindT v.1 := by
   rcases hv with ⟨j, hj, rfl⟩ | ⟨q, x, hq, hx, rfl⟩
   ·exact hs.kr j hj hr
   ·exact hs.k q hq x hx hr
  rw [kk, e]
  rfl
theorem rule_3 {t : Int} (h : ruleB 3 t = true) : t ≠ 8 ∧ t ≠ 9 := by
 constructor <;> (rintro rfl; revert h; decide)
theorem OkC.blk {a : Ar} (h : OkC a) (hs : Shp a) {q : Int} (hq : Reach a q) (hk : kdW a.ws q = 3) : BlkOk a q (blkN a.ws q) ∧ szW a.ws q = 4 * blkN a.ws q ∧ sizeB 3 (szW a.ws q) = true := by
 have p := h.at hq
 have sz := (size_ok (okC_wf h) p.1).1
 rw [hk] at sz
 have hss : szW a.ws q = 16 ∨ szW a.ws q = 32 ∨ szW a.ws q = 64 ∨ szW a.ws q = 128 ∨ szW a.ws q = 256 := by unfold sizeB at sz; simpa using sz
 have eb : blkN a.ws q = szW a.ws q / 4 := rfl
 refine ⟨⟨by omega, by omega, by omega, by omega, fun i i0 i1 => ?_⟩, by omega, sz⟩
 have hx := (slots_3 sz i0 (by rw [← eb]; exact i1)).1
 have hsrc : Src a (valW a.ws (q + (1 + 4 * i))) := .inr ⟨q, _, hq, by rw [hk]; exact hx, rfl⟩
 rw [show q + 1 + 4 * i = q + (1 + 4 * i) by omega]
 refine ⟨(h.src hsrc).1, ?_⟩
 by_cases c : (valW a.ws (q + (1 + 4 * i))).1 = 0
 ·exact .inl c
 ·have r := rule_3 (by have := hs.rl q hq _ (by rw [hk]; exact hx); rwa [hk] at this)
  exact .inr (h.key hs hsrc c r.1 r.2)
theorem pack_hd {k s z : Int} (h : hdOk k s z = true) : inW (packH k s z) ∧ hdW (packH k s z) = (k, s, z) ∧ okW (packH k s z) = true := by
 have b := hd_b h
 have e := packH_v h
 have e1 : packH k s z % 16 = k := by rw [e]; omega
 have e2 : packH k s z / 16 % 65536 = s := by rw [e]; omega
 have e3 : packH k s z / 1048576 = z := by rw [e]; omega
 refine ⟨⟨by rw [e]; omega, by rw [e]; omega⟩, ?_, ?_⟩
 ·unfold hdW; rw [e1, e2, e3]
 ·unfold okW; rw [e1, e2, e3]; exact h
theorem gw_putW {k n z : Int} {a : Ar} (t0 : 0 ≤ a.top) (n0 : 0 ≤ n) (t1 : a.top + n + 1 ≤ a.ws.length) {j : Int} (j0 : 0 ≤ j) :
  gw (putW k n z a).ws j = if j = a.top then packH k n z else if a.top + 1 ≤ j ∧ j < a.top + 1 + n then 0 else gw a.ws j := by
 show gw (clrW (setW a.ws a.top (packH k n z)) (a.top + 1) n.toNat) j = _
 rw [gw_clr (by omega) _ (by rw [setW_len]; omega) j j0, show (n.toNat : Int) = n by omega, gw_set t0 (by omega) j0]
 by_cases c : j = a.top
 ·rw [if_pos c, if_neg (by omega), if_pos c]
 ·rw [if_neg c, if_neg c]
theorem putW_len (k n z : Int) (a : Ar) : (putW k n z a).ws.length = a.ws.length := by
 show (clrW (setW _ _ _) _ _).length = _
 rw [clrW_len, setW_len]
theorem inW_clr {ws : List U64} (h : ∀ x ∈ ws, inW x.v) (q : Int) : ∀ n : Nat, ∀ y ∈ clrW ws q n, inW y.v
 | 0 => h
 | n + 1 => by unfold clrW; exact inW_set (inW_clr h q n) ⟨by decide, by decide⟩
structure New (b : Ar) (p k n : Int) : Prop where
 ok : okW (gw b.ws p) = true
 kd : kdW b.ws p = k
 sz : szW b.ws p = n
 p0 : 1 ≤ p
 p1 : p + n + 1 ≤ b.ws.length
 z : ∀ j : Int, p + 1 ≤ j → j < p + 1 + n → gw b.ws j = 0
 far : ∀ q, Reach b q → q + szW b.ws q + 1 ≤ p ∨ p + n + 1 ≤ q
 src : ∀ v, Src b v → isRefB v = true → v.2 < p ∨ p + n + 1 ≤ v.2
theorem val_0 {ws : List U64} {i : Int} (h : gw ws i = 0) (h1 : gw ws (i + 1) = 0) : valW ws i = (0, 0) := by unfold valW; rw [h, h1]; rfl
theorem OkC.room {a : Ar} {n : Int} (h : OkC a) (hf : ¬ n + 1 > freeA a) : a.top + n + 1 ≤ endA a a.to - leftA a ∧ 0 ≤ leftA a := by
 unfold freeA at hf
 have hN := h.num.1.f
 unfold freeP at hN
 unfold leftA at hf ⊢
 split
 ·rename_i c
  rw [if_pos c] at hf hN
  omega
 ·rename_i c
  rw [if_neg c] at hf
  omega
theorem putW_ok {a : Ar} {k n z s : Int} (h : OkC a) (hd : hdOk k n z = true) (hf : ¬ n + 1 > freeA a) (hs : 1 ≤ s ∧ s ≤ 1000000000) :
  OkC { putW k n z a with ser := s } ∧ SmF a { putW k n z a with ser := s } (fun q => q) ∧ New { putW k n z a with ser := s } a.top k n := by
 have hb := hd_b hd
 obtain ⟨w1, w2, w3⟩ := pack_hd hd
 have hN := h.num.1
 have hw := h.num.2
 have hh := halves hN
 have rm := h.room hf
 have sm := hN.sm
 obtain ⟨b, eb⟩ : ∃ b : Ar, b = { putW k n z a with ser := s } := ⟨_, rfl⟩
 rw [← eb]
 have bw : b.ws = (putW k n z a).ws := by rw [eb]
 have bl : b.ws.length = a.ws.length := by rw [bw, putW_len]
 have G : ∀ {j : Int}, 0 ≤ j → gw b.ws j = if j = a.top then packH k n z else if a.top + 1 ≤ j ∧ j < a.top + 1 + n then 0 else gw a.ws j := fun j0 => by rw [bw]; exact gw_putW (by omega) (by omega) (by omega) j0
 have same : ∀ j : Int, 0 ≤ j → (j < a.top ∨ a.top + n + 1 ≤ j) → gw b.ws j = gw a.ws j := fun j j0 hj => by rw [G j0, if_neg (by omega), if_neg (by omega)]
 have Gp : gw b.ws a.top = packH k n z := by rw [G (by omega), if_pos rfl]
 have bwf : b.wf := by
  refine ⟨?_, by rw [bl]; exact hw.n, by rw [eb]; exact hw.r⟩
  rw [bw]
  exact inW_clr (inW_set hw.w w1) _ _
 have okp : okW (gw b.ws a.top) = true := by rw [Gp]; exact w3
 have lk : lookW b.ws a.top = (k, n, z) := by unfold lookW readH; rw [okp, Gp, w2]; rfl
 have kp : kdW b.ws a.top = k := by unfold kdW; rw [lk]
 have sp : szW b.ws a.top = n := by unfold szW; rw [lk]
 have bz : ∀ j : Int, a.top + 1 ≤ j → j < a.top + 1 + n → gw b.ws j = 0 := fun j j0 j1 => by rw [G (by omega), if_neg (by omega), if_pos ⟨j0, j1⟩]
 have bN : NumP b := by
  refine ⟨?_, by rw [eb]; exact hs.1, by rw [eb]; exact hs.2, by rw [eb]; exact hN.r, ?_, ?_, ?_⟩
  ·have := sm.l
   refine ⟨by rw [eb]; exact sm.s0, by rw [eb]; exact sm.s1, by rw [eb]; exact sm.t0, by rw [eb]; exact sm.t1, ?_⟩
   rw [bl, this, eb]
   rfl
  ·rw [eb]; show startA a a.to ≤ a.top + (n + 1); omega
  ·rw [eb]; show a.top + (n + 1) ≤ endA a a.to; omega
  ·have hfp := hN.f
   rw [eb]
   unfold freeP at hfp ⊢
   show if a.cyc = true then startA a (1 - a.to) ≤ a.old ∧ a.old ≤ endA a (1 - a.to) ∧ 0 ≤ a.cop ∧ a.cop ≤ a.old - startA a (1 - a.to) ∧ a.top + (n + 1) + a.old - startA a (1 - a.to) - a.cop ≤ endA a a.to else a.scan = 0 ∧ a.old = 0 ∧ a.cop = 0
   unfold leftA at rm
   split
   ·rename_i c
    rw [if_pos c] at hfp rm
    omega
   ·rename_i c
    rw [if_neg c] at hfp
    exact hfp
 have nslot : ∀ x ∈ slotsL (kdW b.ws a.top) (szW b.ws a.top), valW b.ws (a.top + x) = (0, 0) := fun x hx => by
  have sx := slots_in (size_ok bwf okp).1 hx
  rw [sp] at sx
  exact val_0 (bz _ (by omega) (by omega)) (bz _ (by omega) (by omega))
 have mv : ∀ q : Int, 0 ≤ q → (q + szW a.ws q + 1 ≤ a.top ∨ a.top + n + 1 ≤ q) → gw b.ws q = gw a.ws q := fun q q0 hq => same q q0 (by have := (szW_0 hw.w q).1; omega)
 have mvs : ∀ q : Int, 0 ≤ q → (q + szW a.ws q + 1 ≤ a.top ∨ a.top + n + 1 ≤ q) → okW (gw a.ws q) = true → ∀ x ∈ slotsL (kdW a.ws q) (szW a.ws q), valW b.ws (q + x) = valW a.ws (q + x) := fun q q0 hq ho x hx => by
  have sx := slots_in (size_ok hw ho).1 hx
  exact val_c (same _ (by omega) (by omega)) (same _ (by omega) (by omega))
 have up : OkC b ∧ (∀ q, Reach a q → 0 ≤ q ∧ (q + szW a.ws q + 1 ≤ a.top ∨ a.top + n + 1 ≤ q)) ∧ ∀ v, Src a v → isRefB v = true → 0 ≤ v.2 ∧ (v.2 < a.top ∨ a.top + n + 1 ≤ v.2) := by
  rcases h with ⟨T1, h⟩ | ⟨T1, T2, h⟩
  ·have in1 : ∀ q ∈ T1, 0 ≤ q ∧ q + szW a.ws q + 1 ≤ a.top := fun q hq => by have := h.in1 hq; omega
   refine ⟨.inl ⟨T1 ++ [a.top], bwf, bN, by rw [eb]; exact h.cy, ?_, fun p hp => ?_, fun p hp x hx => ?_, fun v hv => ?_⟩, fun q hq => ?_, fun v hv hr => ?_⟩
   ·have c : Chain (szW b.ws) (startA a a.to) a.top T1 := h.c1.congr fun p hp => sz_c (mv p (in1 p hp).1 (.inl (in1 p hp).2))
    have := c.push (z := a.top + (n + 1)) (by rw [sp]; omega) (by rw [sp]; omega)
    rw [eb] at this ⊢
    exact this
   ·rcases List.mem_append.1 hp with hp | hp
    ·rw [mv p (in1 p hp).1 (.inl (in1 p hp).2)]; exact h.h1 p hp
    ·rw [List.mem_singleton.1 hp]; exact okp
   ·rcases List.mem_append.1 hp with hp | hp
    ·have e := mv p (in1 p hp).1 (.inl (in1 p hp).2)
     rw [kd_c e, sz_c e] at hx
     rw [mvs p (in1 p hp).1 (.inl (in1 p hp).2) (h.h1 p hp) x hx]
     have := h.v p hp x hx
     exact ⟨this.1, fun e => by have := this.2 e; simp [this]⟩
    ·rw [List.mem_singleton.1 hp] at hx ⊢
     rw [nslot x hx]
     exact ⟨by decide, fun e => absurd e (by decide)⟩
   ·have hv : v ∈ a.rs := by rw [eb] at hv; exact hv
    have := h.r v hv
    exact ⟨this.1, fun e => by have := this.2 e; simp [this]⟩
   ·have := in1 q (h.reach hq)
    exact ⟨this.1, .inl this.2⟩
   ·have hp : v.2 ∈ T1 := by
     rcases hv with ⟨j, hj, rfl⟩ | ⟨q, x, hq, hx, rfl⟩
     ·exact (h.r _ (getD_mem hj)).2 hr
     ·exact (h.v q (h.reach hq) x hx).2 hr
    have := in1 _ hp
    have := (szW_0 hw.w v.2).1
    omega
  ·have nn := h.c.nums
   have in1 : ∀ q ∈ T1, 0 ≤ q ∧ (q + szW a.ws q + 1 ≤ a.top ∨ a.top + n + 1 ≤ q) := fun q hq => by have := h.c.in1 hq; omega
   have lz : 0 ≤ a.old - startA a (1 - a.to) - a.cop := by have := h.c.s2; have := sumC_0 hw.w T2; omega
   have tn : a.top + n + 1 ≤ endA a a.to := by omega
   have far2 : ∀ q ∈ T2, ∀ y : Int, 0 ≤ y → y ≤ szC a.ws q → gw b.ws (q + y) = gw a.ws (q + y) := fun q hq y y0 y1 => by
    have := h.c.in2 hq
    exact same _ (by omega) (by omega)
   have hd2 : ∀ q ∈ T2, gw b.ws q = gw a.ws q := fun q hq => by have := far2 q hq 0 (by omega) (h.c.c2.mem q hq).2.1; rwa [Int.add_zero] at this
   have hd1 : ∀ q ∈ T1, gw b.ws q = gw a.ws q := fun q hq => mv q (in1 q hq).1 (in1 q hq).2
   have szc2 : ∀ q ∈ T2, szC b.ws q = szC a.ws q := fun q hq => by
    unfold szC
    rw [hd2 q hq]
    split
    ·exact sz_c (hd2 q hq)
    ·rename_i c
     have k := (h.c.h2 q hq).resolve_left c
     rw [to_c (hd2 q hq)]
     exact sz_c (hd1 _ k.2)
   have bc : b.cyc = true := by rw [eb]; exact h.c.cy
   refine ⟨.inr ⟨T1 ++ [a.top], T2, ⟨bwf, bN, bc, ?_, fun p hp => ?_, ?_, fun p hp => ?_, ?_, fun p hp x hx => ?_, fun p hp ho x hx => ?_⟩, ?_, fun q hq hlt x hx hr => ?_, fun v hv => ?_⟩, fun q hq => ?_, fun v hv hr => ?_⟩
   ·have c : Chain (szW b.ws) (startA a a.to) a.top T1 := h.c.c1.congr fun p hp => sz_c (hd1 p hp)
    have := c.push (z := a.top + (n + 1)) (by rw [sp]; omega) (by rw [sp]; omega)
    rw [eb] at this ⊢
    exact this
   ·rcases List.mem_append.1 hp with hp | hp
    ·rw [hd1 p hp]; exact h.c.h1 p hp
    ·rw [List.mem_singleton.1 hp]; exact okp
   ·have c := h.c.c2.congr (g := szC b.ws) szc2
    rw [eb] at c ⊢
    exact c
   ·rw [hd2 p hp]
    refine (h.c.h2 p hp).imp id fun k => ⟨k.1, ?_⟩
    rw [to_c (hd2 p hp)]
    simp [k.2]
   ·have e : sumC b.ws T2 = sumC a.ws T2 := sumC_c hd2
    have := h.c.s2
    rw [← e] at this
    rw [eb] at this ⊢
    exact this
   ·rcases List.mem_append.1 hp with hp | hp
    ·have e := hd1 p hp
     rw [kd_c e, sz_c e] at hx
     rw [mvs p (in1 p hp).1 (in1 p hp).2 (h.c.h1 p hp) x hx]
     have := h.c.v1 p hp x hx
     exact ⟨this.1, fun e => (this.2 e).imp (fun k => by simp [k]) id⟩
    ·rw [List.mem_singleton.1 hp] at hx ⊢
     rw [nslot x hx]
     exact ⟨by decide, fun e => absurd e (by decide)⟩
   ·have e := hd2 p hp
    rw [e] at ho
    rw [kd_c e, sz_c e] at hx
    have sx := slots_in (size_ok hw ho).1 hx
    have ez : szC a.ws p = szW a.ws p := if_pos ho
    have ev : valW b.ws (p + x) = valW a.ws (p + x) := val_c (far2 p hp x (by omega) (by omega)) (by have := far2 p hp (x + 1) (by omega) (by omega); rwa [← Int.add_assoc] at this)
    rw [ev]
    exact h.c.v2 p hp ho x hx
   ·right
    have es : b.scan = a.scan := by rw [eb]; rfl
    rw [es]
    rcases h.sc with k | k
    ·simp [k]
    ·simp [k]
   ·have es : b.scan = a.scan := by rw [eb]; rfl
    rw [es] at hlt
    rcases List.mem_append.1 hq with hp | hp
    ·have e := hd1 q hp
     rw [kd_c e, sz_c e] at hx
     rw [mvs q (in1 q hp).1 (in1 q hp).2 (h.c.h1 q hp) x hx] at hr ⊢
     have := h.w1 q hp hlt x hx hr
     simp [this]
    ·rw [List.mem_singleton.1 hp] at hx hr ⊢
     rw [nslot x hx] at hr
     exact absurd hr (by decide)
   ·have hv : v ∈ a.rs := by rw [eb] at hv; exact hv
    have := h.r v hv
    exact ⟨this.1, fun e => by have := this.2 e; simp [this]⟩
   ·rcases h.c.canon h.rc hq with hl | ⟨hl, ho⟩
    ·exact in1 q hl
    ·have := h.c.in2 hl
     have ez : szC a.ws q = szW a.ws q := if_pos ho
     omega
   ·have key : v.2 ∈ T1 ∨ v.2 ∈ T2 := by
     rcases hv with ⟨j, hj, rfl⟩ | ⟨q, x, hq, hx, rfl⟩
     ·exact h.rc j hj hr
     ·exact h.c.refs (h.c.canon h.rc hq) hx hr
    rcases key with hl | hl
    ·have := h.c.in1 hl; omega
    ·have := h.c.in2 hl
     have := (h.c.c2.mem _ hl).2.1
     omega
 obtain ⟨u1, u2, u3⟩ := up
 have wsame : ∀ v, Src a v → isRefB v = true → whereW b.ws v.2 = whereW a.ws v.2 := fun v hv hr => where_c (same _ (u3 v hv hr).1 (u3 v hv hr).2)
 have hS : SmF a b fun q => q := by
  refine ⟨fun q hq => ?_, fun q r _ _ e => e, by rw [eb]; rfl, fun j hj => ?_⟩
  ·obtain ⟨q0, q1⟩ := u2 q hq
   have ho := (h.at hq).1
   refine ⟨mv q q0 q1, fun y y0 y1 _ => same _ (by omega) (by omega), fun x hx => ?_⟩
   rw [mvs q q0 q1 ho x hx]
   exact ⟨rfl, fun _ => rfl, fun e => wsame _ (.inr ⟨q, x, hq, hx, rfl⟩) e⟩
  ·have er : b.rs = a.rs := by rw [eb]; rfl
   rw [er]
   exact ⟨rfl, fun _ => rfl, fun e => wsame _ (.inl ⟨j, hj, rfl⟩) e⟩
 refine ⟨u1, hS, okp, kp, sp, by omega, by omega, bz, fun q hq => ?_, fun v hv hr => ?_⟩
 ·obtain ⟨p, hp, rfl⟩ := hS.back hq
  rw [sz_c (hS.o p hp).hd]
  exact (u2 p hp).2
 ·have hv' : Src a v := by
   rcases hv with ⟨j, hj, rfl⟩ | ⟨q, x, hq, hx, rfl⟩
   ·have er : b.rs = a.rs := by rw [eb]; rfl
    rw [er] at hj ⊢
    exact .inl ⟨j, hj, rfl⟩
   ·obtain ⟨p, hp, rfl⟩ := hS.back hq
    have e := (hS.o p hp).hd
    rw [kd_c e, sz_c e] at hx
    obtain ⟨q0, q1⟩ := u2 p hp
    rw [mvs p q0 q1 (h.at hp).1 x hx]
    exact .inr ⟨p, x, hp, hx, rfl⟩
  exact (u3 v hv' hr).2
theorem pace_sm {a : Ar} (h : OkC a) : Sm a (paceA a) := by
 unfold paceA
 by_cases c : a.cyc = true
 ·rw [if_pos c]
  exact (over_sm a).trans (steps_sm 2 _ h.over.1)
 ·rw [if_neg c]
  split
  ·rcases h with ⟨T1, h⟩ | ⟨T1, T2, h⟩
   ·obtain ⟨g1, g2, g3⟩ := flip_gd h
    exact (flip_sm h).trans ((over_sm _).trans (by rw [g1.over]; exact steps_sm 2 _ g1))
   ·exact absurd h.c.cy c
  ·exact Sm.refl a
theorem room_sm {n : Int} {a : Ar} (h : OkC a) : Sm a (roomA n a) := by
 unfold roomA
 split
 ·exact coll_sm h
 ·exact Sm.refl a
theorem ask_sm {a : Ar} {k n : Int} (h : OkC a) (hsz : sizeB k n = true) (hs : bornB k = true → a.ser < 1000000000) :
  OkC (askA k n a).1 ∧ Sm a (askA k n a).1 ∧ ((askA k n a).2.2 = 0 ∧ New (askA k n a).1 (askA k n a).2.1 k n ∨ (askA k n a).2.2 = 2) := by
 unfold askA
 split
 ·exact ⟨h, Sm.refl a, .inr rfl⟩
 ·obtain ⟨p1, p2⟩ := pace_ok h
  obtain ⟨r1, r2⟩ := room_ok (n := n) p1
  have S := (pace_sm h).trans (room_sm (n := n) p1)
  have sz := p2.trans r2
  generalize roomA n (paceA a) = b at *
  have hser : b.ser = a.ser := sz.ser
  have z0 := r1.num.1.z0
  have z1 := r1.num.1.z1
  unfold putA
  split
  ·exact ⟨r1, S, .inr rfl⟩
  ·rename_i hf
   by_cases c : bornB k = true
   ·have := hs c
    have hd : hdOk k n b.ser = true := by unfold hdOk; rw [hsz, c]; simp; omega
    obtain ⟨u1, u2, u3⟩ := putW_ok (s := b.ser + 1) r1 hd hf (by omega)
    rw [if_pos c]
    exact ⟨u1, S.trans ⟨_, u2⟩, .inl ⟨rfl, u3⟩⟩
   ·have hd : hdOk k n 0 = true := by unfold hdOk; rw [hsz, if_neg c]; rfl
    obtain ⟨u1, u2, u3⟩ := putW_ok (s := b.ser) r1 hd hf ⟨z0, z1⟩
    rw [if_neg c]
    exact ⟨u1, S.trans ⟨_, u2⟩, .inl ⟨rfl, u3⟩⟩
def ldA (a : Ar) (i : Int) : Ar := if a.cyc = true then putV (fwdA a (valW a.ws i)).1 i (fwdA a (valW a.ws i)).2 else a
def ldV (a : Ar) (i : Int) : Vl := if a.cyc = true then (fwdA a (valW a.ws i)).2 else valW a.ws i
theorem Chain.uniq {szf : Int → Int} : ∀ {T T' : List Int} {s e : Int}, Chain szf s e T → Chain szf s e T' → T = T'
 | [], [], _, _, _, _ => rfl
 | [], q :: T', s, e, h, ⟨h1, h2, h3, h4⟩ => by have h : s = e := h; have := Chain.le h4; omega
 | p :: T, [], s, e, ⟨h1, h2, h3, h4⟩, h => by have h : s = e := h; have := Chain.le h4; omega
 | p :: T, q :: T', s, e, ⟨h1, h2, h3, h4⟩, ⟨k1, k2, k3, k4⟩ => by
  have e : p = q := by omega
  subst e
  rw [Chain.uniq h4 k4]
theorem fwdA_top {a : Ar} {T1 T2 Ta : List Int} (h : C0 a T1 T2) {v : Vl} (hv : isRefB v = true → v.2 ∈ T1 ∨ v.2 ∈ T2) (hc : C0 (fwdA a v).1 Ta T2) : (fwdA a v).1.top = a.top ∨ a.top ∈ Ta := by
 revert hc
 unfold fwdA
 split
 ·rename_i k
  obtain ⟨k1, k2⟩ := k
  have hp : v.2 ∈ T2 := (hv k1).resolve_left fun e => by rw [h.other1 e] at k2; cases k2
  split
  ·exact fun _ => .inl rfl
  ·rename_i k3
   intro hc
   have ho : okW (gw a.ws v.2) = true := (h.h2 _ hp).resolve_right fun e => k3 e.1
   have e := (h.fwd hp ho).c1.uniq hc.c1
   rw [← e]
   simp
 ·exact fun _ => .inl rfl
theorem C1.load {a : Ar} {T1 T2 : List Int} (h : C1 a T1 T2) {p x : Int} (hp : p ∈ T1) (hx : x ∈ slotsL (kdW a.ws p) (szW a.ws p)) :
  ∃ Ta, C1 (putV (fwdA a (valW a.ws (p + x))).1 (p + x) (fwdA a (valW a.ws (p + x))).2) Ta T2 ∧ valW (putV (fwdA a (valW a.ws (p + x))).1 (p + x) (fwdA a (valW a.ws (p + x))).2).ws (p + x) = (fwdA a (valW a.ws (p + x))).2 ∧
   (isRefB (fwdA a (valW a.ws (p + x))).2 = true → (fwdA a (valW a.ws (p + x))).2.2 ∈ Ta) ∧ SameF a (putV (fwdA a (valW a.ws (p + x))).1 (p + x) (fwdA a (valW a.ws (p + x))).2) := by
 obtain ⟨v1, v2⟩ := h.c.v1 p hp x hx
 obtain ⟨Ta, F⟩ := fwd_ok h.c v1 v2
 have ht := fwdA_top h.c v2 F.c
 have sx := slots_in (size_ok h.c.wf (h.c.h1 p hp)).1 hx
 have hn : norm (fwdA a (valW a.ws (p + x))).2 = (fwdA a (valW a.ws (p + x))).2 := by
  cases e : isRefB (valW a.ws (p + x)) with
  | false => rw [F.nr e]; exact norm_val _ _
  | true =>
   have e2 : isRefB (fwdA a (valW a.ws (p + x))).2 = true := by unfold isRefB at e ⊢; rw [F.tag]; exact e
   have := F.c.in1 (F.r e2)
   have := F.c.nums
   unfold norm
   rw [w64 (by omega) (by omega)]
 generalize fwdA a (valW a.ws (p + x)) = fr at *
 obtain ⟨b, w⟩ := fr
 simp only at F ht hn ⊢
 have K0 : ∀ q ∈ T1, gw b.ws q = gw a.ws q := fun q hq => by have := F.keep q hq 0 (by omega) (szW_0 h.c.wf.w q).1; rwa [Int.add_zero] at this
 have e1 := K0 p hp
 have P := put_ok F.c (F.sub p hp) (show x ∈ slotsL (kdW b.ws p) (szW b.ws p) by rw [kd_c e1, sz_c e1]; exact hx) F.ok F.r
 have es : (putV b (p + x) w).scan = a.scan := P.f.scan.trans F.f.scan
 have et : (putV b (p + x) w).top = b.top := P.top
 have hst : a.scan ≤ a.top := by
  rcases h.sc with k | k
  ·omega
  ·have := h.c.in1 k; omega
 refine ⟨Ta, ⟨P.c, ?_, fun q hq hlt y hy hr => ?_, fun v hv => ?_⟩, P.val.trans hn, F.r, F.f.trans P.f⟩
 ·rw [es, et]
  rcases h.sc with k | k
  ·rcases ht with k2 | k2
   ·left; omega
   ·right; rw [k]; exact k2
  ·exact .inr (F.sub _ k)
 ·rw [es] at hlt
  have hq1 : q ∈ T1 := by
   rcases F.new q hq with k | k
   ·exact k
   ·omega
  have eq := P.head q hq
  rw [kd_c eq, sz_c eq, kd_c (K0 q hq1), sz_c (K0 q hq1)] at hy
  have sy := slots_in (size_ok h.c.wf (h.c.h1 q hq1)).1 hy
  have ev : valW b.ws (q + y) = valW a.ws (q + y) := val_c (F.keep q hq1 y (by omega) (by omega)) (by have := F.keep q hq1 (y + 1) (by omega) (by omega); rwa [← Int.add_assoc] at this)
  by_cases e : q = p
  ·subst e
   by_cases ey : y = x
   ·subst ey
    rw [P.val, hn] at hr ⊢
    exact F.r hr
   ·have ov := P.other y (by rw [kd_c e1, sz_c e1]; exact hy) ey
    rw [ov, ev] at hr ⊢
    exact F.sub _ (h.w1 q hq1 hlt y hy hr)
  ·have zq := sz_c (K0 q hq1)
   have ov : valW (putV b (p + x) w).ws (q + y) = valW b.ws (q + y) := val_c (P.keep q hq e y (by omega) (by omega)) (by have := P.keep q hq e (y + 1) (by omega) (by omega); rwa [← Int.add_assoc] at this)
   rw [ov, ev] at hr ⊢
   exact F.sub _ (h.w1 q hq1 hlt y hy hr)
 ·have er : (putV b (p + x) w).rs = a.rs := P.f.rs.trans F.f.rs
  rw [er] at hv
  exact ⟨(h.r v hv).1, fun e => F.sub _ ((h.r v hv).2 e)⟩
theorem OkC.root {a : Ar} (h : OkC a) {j : Nat} (hj : j < a.rs.length) (hr : isRefB (a.rs.getD j (0, 0)) = true) : whereW a.ws (a.rs.getD j (0, 0)).2 = (a.rs.getD j (0, 0)).2 ∧ Reach a (a.rs.getD j (0, 0)).2 := by
 have e : whereW a.ws (a.rs.getD j (0, 0)).2 = (a.rs.getD j (0, 0)).2 := by
  rcases h with ⟨T1, h⟩ | ⟨T1, T2, h⟩
  ·exact where_ok h.wf (h.h1 _ ((h.r _ (getD_mem hj)).2 hr))
  ·exact h.c.where1 ((h.r _ (getD_mem hj)).2 hr)
 refine ⟨e, ?_⟩
 have := Reach.root (a := a) j hj hr
 rwa [e] at this
structure LdOk (a : Ar) (p x : Int) (b : Ar) : Prop where
 c : OkC b
 s : Sm a b
 f : SameF a b
 w : isRefB (valW b.ws (p + x)) = true → whereW b.ws (valW b.ws (p + x)).2 = (valW b.ws (p + x)).2
 v : a.cyc = true → (fwdA a (valW a.ws (p + x))).2 = valW b.ws (p + x)
theorem ld_ok {a : Ar} (h : OkC a) {j : Nat} (hj : j < a.rs.length) (hr : isRefB (a.rs.getD j (0, 0)) = true) {x : Int} (hx : x ∈ slotsL (kdW a.ws (a.rs.getD j (0, 0)).2) (szW a.ws (a.rs.getD j (0, 0)).2)) :
  LdOk a (a.rs.getD j (0, 0)).2 x (ldA a ((a.rs.getD j (0, 0)).2 + x)) := by
 obtain ⟨T1, k⟩ | ⟨T1, T2, k⟩ := h
 ·have e : ldA a ((a.rs.getD j (0, 0)).2 + x) = a := if_neg (by rw [k.cy]; decide)
  rw [e]
  have hp := (k.r _ (getD_mem hj)).2 hr
  exact ⟨.inl ⟨T1, k⟩, Sm.refl a, SameF.refl a, fun hv => where_ok k.wf (k.h1 _ ((k.v _ hp x hx).2 hv)), fun hc => by rw [k.cy] at hc; cases hc⟩
 ·have e : ldA a ((a.rs.getD j (0, 0)).2 + x) = putV (fwdA a (valW a.ws ((a.rs.getD j (0, 0)).2 + x))).1 ((a.rs.getD j (0, 0)).2 + x) (fwdA a (valW a.ws ((a.rs.getD j (0, 0)).2 + x))).2 := if_pos k.c.cy
  rw [e]
  have hp := (k.r _ (getD_mem hj)).2 hr
  obtain ⟨Ta, c1, c2, c3, c4⟩ := k.load hp hx
  exact ⟨.inr ⟨Ta, T2, c1⟩, load_sm k.c k.rc hp hx, c4, fun hv => by rw [c2] at hv ⊢; exact c1.c.where1 (c3 hv), fun _ => c2.symm⟩
theorem findG_in {ws : List U64} {b n : Int} {key : Vl} (n0 : 0 < n) : ∀ (f : Nat) (i : Int), 0 ≤ i → i < n → (findG ws b n key f i).1 = -1 ∧ (∀ j : Nat, j < f → (valW ws (b + 1 + 4 * ((i + j) % n))).1 ≠ 0) ∨ 0 ≤ (findG ws b n key f i).1 ∧ (findG ws b n key f i).1 < n
 | 0, i, _, _ => .inl ⟨rfl, fun j hj => by omega⟩
 | f + 1, i, i0, i1 => by
  unfold findG
  split
  ·exact .inr ⟨i0, i1⟩
  ·rename_i c
   split
   ·exact .inr ⟨i0, i1⟩
   ·have m0 := Int.emod_nonneg (i + 1) (show n ≠ 0 by omega)
    have m1 := Int.emod_lt_of_pos (i + 1) n0
    refine (findG_in n0 f ((i + 1) % n) m0 m1).imp (fun k => ⟨k.1, fun j hj => ?_⟩) id
    cases j with
    | zero => rw [show i + ((0 : Nat) : Int) = i by omega, Int.emod_eq_of_lt i0 i1]; exact c
    | succ j =>
     have := k.2 j (by omega)
     rwa [Int.emod_add_emod, show i + 1 + (j : Int) = i + ((j + 1 : Nat) : Int) by omega] at this
theorem used_all {ws : List U64} {b : Int} : ∀ n : Nat, (∀ i : Int, 0 ≤ i → i < n → gw ws (b + 1 + 4 * i) ≠ 0) → usedW ws b n = n
 | 0, _ => rfl
 | n + 1, h => by
  unfold usedW
  rw [used_all n fun i i0 i1 => h i i0 (by omega), if_neg (h n (by omega) (by omega))]
  omega
theorem used_put {ws ws' : List U64} {b i : Int} (h : ∀ j : Int, 0 ≤ j → j ≠ i → gw ws' (b + 1 + 4 * j) = gw ws (b + 1 + 4 * j)) : ∀ n : Nat, usedW ws' b n ≤ usedW ws b n + if i < n then 1 else 0
 | 0 => by unfold usedW; split <;> omega
 | n + 1 => by
  have k := used_put h n
  unfold usedW
  have b1 : ∀ x : Int, 0 ≤ (if x = 0 then (0 : Int) else 1) ∧ (if x = 0 then (0 : Int) else 1) ≤ 1 := fun x => by split <;> omega
  have c1 := b1 (gw ws' (b + 1 + 4 * (n : Int)))
  have c2 := b1 (gw ws (b + 1 + 4 * (n : Int)))
  by_cases e : (n : Int) = i
  ·have e1 : (if i < (n : Int) then (1 : Int) else 0) = 0 := if_neg (by omega)
   have e2 : (if i < ((n + 1 : Nat) : Int) then (1 : Int) else 0) = 1 := if_pos (by omega)
   rw [e1] at k
   rw [e2]
   omega
  ·rw [h n (by omega) e] at c1 ⊢
   by_cases c : i < (n : Int)
   ·have e1 : (if i < (n : Int) then (1 : Int) else 0) = 1 := if_pos c
    have e2 : (if i < ((n + 1 : Nat) : Int) then (1 : Int) else 0) = 1 := if_pos (by omega)
    rw [e1] at k
    rw [e2]
    omega
   ·have e1 : (if i < (n : Int) then (1 : Int) else 0) = 0 := if_neg c
    have e2 : (if i < ((n + 1 : Nat) : Int) then (1 : Int) else 0) = 0 := if_neg (by omega)
    rw [e1] at k
    rw [e2]
    omega
theorem wrap_0 {x : Int} (h : inW x) (e : IntKind.i64.wrap x = 0) : x = 0 := by
 unfold inW at h
 unfold IntKind.wrap at e
 simp [IntKind.bits, IntKind.signed] at e
 omega
def KeyS (c : Ar) (k : Vl) : Prop := (Src c k ∨ k.1 = 2) ∧ k.1 ≠ 0 ∧ k.1 ≠ 8 ∧ k.1 ≠ 9
structure Fill (c : Ar) (p n : Int) (w : List U64) (cnt : Int) : Prop where
 len : w.length = c.ws.length
 inw : ∀ x ∈ w, inW x.v
 out : ∀ j : Int, 0 ≤ j → (j ≤ p ∨ p + 4 * n < j) → gw w j = gw c.ws j
 key : ∀ i : Int, 0 ≤ i → i < n → valW w (p + 1 + 4 * i) = (0, 0) ∨ KeyS c (valW w (p + 1 + 4 * i))
 used : usedW w p n.toNat ≤ cnt
structure Grd (c : Ar) (p n : Int) : Prop where
 ok : OkC c
 s : Shp c
 nw : New c p 3 (4 * n)
 n0 : 1 ≤ n
 n1 : n ≤ 64
theorem Grd.init {c : Ar} {p n : Int} (h : Grd c p n) : Fill c p n c.ws 0 := by
 have n0 := h.n0
 have z : ∀ i : Int, 0 ≤ i → i < n → gw c.ws (p + 1 + 4 * i) = 0 ∧ gw c.ws (p + 1 + 4 * i + 1) = 0 := fun i i0 i1 => ⟨h.nw.z _ (by omega) (by omega), h.nw.z _ (by omega) (by omega)⟩
 refine ⟨rfl, (okC_wf h.ok).w, fun _ _ _ => rfl, fun i i0 i1 => .inl (val_0 (z i i0 i1).1 (z i i0 i1).2), ?_⟩
 have : ∀ m : Nat, (m : Int) ≤ n → usedW c.ws p m = 0 := by
  intro m
  induction m with
  | zero => exact fun _ => rfl
  | succ m ih =>
   intro hm
   unfold usedW
   rw [ih (by omega), if_pos (z m (by omega) (by omega)).1]
   rfl
 rw [this n.toNat (by omega)]
 exact Int.le_refl _
theorem Fill.obj {c : Ar} {p n : Int} {w : List U64} {cnt : Int} (h : Fill c p n w cnt) (g : Grd c p n) {q : Int} (hq : Reach c q) {y : Int} (y0 : 0 ≤ y) (y1 : y ≤ szW c.ws q) : gw w (q + y) = gw c.ws (q + y) := by
 have := g.nw.far q hq
 have := g.ok.at hq
 exact h.out _ (by omega) (by omega)
theorem Fill.wh {c : Ar} {p n : Int} {w : List U64} {cnt : Int} (h : Fill c p n w cnt) (g : Grd c p n) {v : Vl} (hv : Src c v) (hr : isRefB v = true) : whereW w v.2 = whereW c.ws v.2 := by
 have := g.nw.src v hv hr
 have := (g.ok.src hv).2 hr
 exact where_c (h.out _ (by omega) (by omega))
theorem Fill.keyOk {c : Ar} {p n : Int} {w : List U64} {cnt : Int} (h : Fill c p n w cnt) (g : Grd c p n) {v : Vl} (hv : KeyS c v) : KeyOk { c with ws := w } v := by
 obtain ⟨h1, h2, h3, h4⟩ := hv
 rcases h1 with h1 | h1
 case inr =>
  have nr : isRefB v = false := by unfold isRefB kindT; rw [h1]; rfl
  exact ⟨by unfold valOkB; rw [h1]; rfl, by omega, by omega, fun hr => (by rw [nr] at hr; cases hr), fun e => by omega⟩
 have k := g.ok.key g.s h1 h2 h3 h4
 refine ⟨k.ok, k.t0, k.t1, fun hr => ?_, fun e => ?_⟩
 ·have ew := h.wh g h1 hr
  have := k.r hr
  have ep : placeA { c with ws := w } v.2 = placeA c v.2 := by
   unfold placeA
   show (if otherA c v.2 = true then whereW w v.2 else v.2) = _
   rw [ew]
  show v.2 < (w.length : Int) ∧ 0 ≤ whereW w v.2 ∧ whereW w v.2 < (w.length : Int) ∧ placeA { c with ws := w } v.2 = whereW w v.2
  rw [ep, ew, h.len]
  exact this
 ·have hr : isRefB v = true := by unfold isRefB kindT; rw [e]; rfl
  have t := k.s e
  have o := h.obj g (h1.reach hr) (y := 1) (by omega) (g.ok.at (h1.reach hr)).2.2.2.1
  show TextAt { c with ws := w } (whereW w v.2)
  rw [h.wh g h1 hr]
  refine ⟨t.p0, ?_, ?_, ?_⟩
  ·show gw w _ ≤ 160
   rw [o]; exact t.n
  ·show _ + (gw w _ + 7) / 8 < (w.length : Int)
   rw [o, h.len]; exact t.pz
  ·show _ < (w.length : Int)
   rw [h.len]; exact t.p1
theorem Fill.wf {c : Ar} {p n : Int} {w : List U64} {cnt : Int} (h : Fill c p n w cnt) (g : Grd c p n) : ({ c with ws := w } : Ar).wf := by
 have k := okC_wf g.ok
 exact ⟨h.inw, by show w.length ≤ _; rw [h.len]; exact k.n, k.r⟩
theorem Fill.blk {c : Ar} {p n : Int} {w : List U64} {cnt : Int} (h : Fill c p n w cnt) (g : Grd c p n) : BlkOk { c with ws := w } p n := by
 have p0 := g.nw.p0
 have p1 := g.nw.p1
 refine ⟨by omega, g.n0, g.n1, by show p + 4 * n < (w.length : Int); rw [h.len]; omega, fun i i0 i1 => ?_⟩
 show valOkB (valW w (p + 1 + 4 * i)) = true ∧ ((valW w (p + 1 + 4 * i)).1 = 0 ∨ KeyOk { c with ws := w } (valW w (p + 1 + 4 * i)))
 rcases h.key i i0 i1 with e | e
 ·rw [e]; exact ⟨by decide, .inl rfl⟩
 ·have := h.keyOk g e
  exact ⟨this.ok, .inr this⟩
theorem Fill.find {c : Ar} {p n : Int} {w : List U64} {cnt : Int} (h : Fill c p n w cnt) (g : Grd c p n) (hc : cnt < n) {k : Vl} (hk : KeyS c k) : 0 ≤ (findA w p n k).1 ∧ (findA w p n k).1 < n := by
 have n0 := g.n0
 have hh : 0 ≤ hashA w k := hash_nn (a := { c with ws := w }) (h.wf g) (h.keyOk g hk)
 have m0 := Int.emod_nonneg (hashA w k) (show n ≠ 0 by omega)
 have m1 := Int.emod_lt_of_pos (hashA w k) (show 0 < n by omega)
 unfold findA
 rw [if_neg hk.2.1]
 rcases findG_in (ws := w) (b := p) (key := k) (show 0 < n by omega) n.toNat (hashA w k % n) m0 m1 with e | e
 ·exfalso
  have all : ∀ i : Int, 0 ≤ i → i < (n.toNat : Int) → gw w (p + 1 + 4 * i) ≠ 0 := by
   intro i i0 i1 e0
   obtain ⟨x, ex⟩ : ∃ x, x = hashA w k % n := ⟨_, rfl⟩
   rw [← ex] at e m0 m1
   by_cases c : x ≤ i
   ·have := e.2 (i - x).toNat (by omega)
    rw [show x + ((i - x).toNat : Int) = i by omega, Int.emod_eq_of_lt i0 (by omega)] at this
    exact this (by unfold valW; rw [e0]; rfl)
   ·have := e.2 (i - x + n).toNat (by omega)
    rw [show x + ((i - x + n).toNat : Int) = i + n by omega, Int.add_emod_right, Int.emod_eq_of_lt i0 (by omega)] at this
    exact this (by unfold valW; rw [e0]; rfl)
  have := used_all n.toNat all
  have := h.used
  omega
 ·exact e
def layW (p n : Int) (w : List U64) (k v : Vl) : List U64 :=
 setW (setW (setW (setW w (p + 1 + 4 * (findA w p n k).1) (uW k.1)) (p + 1 + 4 * (findA w p n k).1 + 1) (uW k.2)) (p + 3 + 4 * (findA w p n k).1) (uW v.1)) (p + 3 + 4 * (findA w p n k).1 + 1) (uW v.2)
theorem lay_len (p n : Int) (w : List U64) (k v : Vl) : (layW p n w k v).length = w.length := by unfold layW; simp only [setW_len]
theorem KeyS.norm {c : Ar} {k : Vl} (h : KeyS c k) (hc : OkC c) : KeyS c (norm k) := by
 obtain ⟨h1, h2, h3, h4⟩ := h
 by_cases e : k.1 = 2
 ·exact ⟨.inr e, h2, h3, h4⟩
 ·have h1 := h1.resolve_right e
  obtain ⟨s1, s2⟩ := hc.src h1
  have en : Abs.norm k = k := by
   unfold Abs.norm
   cases er : isRefB k with
   | true =>
    have := s2 er
    have := hc.num.2.n
    rw [w64 (by omega) (by omega)]
   | false =>
    unfold valOkB at s1
    rw [er] at s1
    by_cases e1 : k.1 = 1
    ·rw [if_neg h2, if_pos e1] at s1
     simp only [decide_eq_true_eq] at s1
     rw [w64 (by omega) (by omega)]
    ·by_cases e7 : k.1 = 7
     ·rw [if_neg h2, if_neg e1, if_neg e, if_pos e7] at s1
      simp only [decide_eq_true_eq] at s1
      rw [w64 (by omega) (by omega)]
     ·rw [if_neg h2, if_neg e1, if_neg e, if_neg e7] at s1
      simp at s1
  rw [en]
  exact ⟨.inl h1, h2, h3, h4⟩
theorem Fill.lay {c : Ar} {p n : Int} {w : List U64} {cnt : Int} (h : Fill c p n w cnt) (g : Grd c p n) (hc : cnt < n) {k : Vl} (hk : KeyS c k) (v : Vl) : Fill c p n (layW p n w k v) (cnt + 1) := by
 obtain ⟨f0, f1⟩ := h.find g hc hk
 have p0 := g.nw.p0
 have p1 := g.nw.p1
 have hl := h.len
 have ko := h.keyOk g hk
 obtain ⟨i, ei⟩ : ∃ i, i = (findA w p n k).1 := ⟨_, rfl⟩
 rw [← ei] at f0 f1
 have G : ∀ {j : Int}, 0 ≤ j → gw (layW p n w k v) j = if j = p + 3 + 4 * i + 1 then uW v.2 else if j = p + 3 + 4 * i then uW v.1 else if j = p + 1 + 4 * i + 1 then uW k.2 else if j = p + 1 + 4 * i then uW k.1 else gw w j := by
  intro j j0
  unfold layW
  rw [← ei, gw_set (by omega) (by simp only [setW_len]; omega) j0, gw_set (by omega) (by simp only [setW_len]; omega) j0, gw_set (by omega) (by simp only [setW_len]; omega) j0, gw_set (by omega) (by omega) j0]
 refine ⟨by rw [lay_len, hl], ?_, fun j j0 hj => ?_, fun j j0 j1 => ?_, ?_⟩
 ·unfold layW
  exact inW_set (inW_set (inW_set (inW_set h.inw (uW_in _)) (uW_in _)) (uW_in _)) (uW_in _)
 ·rw [G j0, if_neg (by omega), if_neg (by omega), if_neg (by omega), if_neg (by omega)]
  exact h.out j j0 hj
 ·by_cases e : j = i
  ·subst e
   have e1 : gw (layW p n w k v) (p + 1 + 4 * j) = uW k.1 := by rw [G (by omega), if_neg (by omega), if_neg (by omega), if_neg (by omega), if_pos rfl]
   have e2 : gw (layW p n w k v) (p + 1 + 4 * j + 1) = uW k.2 := by rw [G (by omega), if_neg (by omega), if_neg (by omega), if_pos rfl]
   have ev : valW (layW p n w k v) (p + 1 + 4 * j) = norm k := by
    have := valOk_tag ko.ok
    unfold valW norm
    rw [e1, e2, wrap_uW, wrap_uW, w64 (x := k.1) (by omega) (by omega)]
   rw [ev]
   exact .inr (hk.norm g.ok)
  ·have ev : valW (layW p n w k v) (p + 1 + 4 * j) = valW w (p + 1 + 4 * j) := val_c (by rw [G (by omega), if_neg (by omega), if_neg (by omega), if_neg (by omega), if_neg (by omega)]) (by rw [G (by omega), if_neg (by omega), if_neg (by omega), if_neg (by omega), if_neg (by omega)])
   rw [ev]
   exact h.key j j0 j1
 ·have := used_put (ws := w) (ws' := layW p n w k v) (b := p) (i := i) (fun j j0 hne => by rw [G (by omega), if_neg (by omega), if_neg (by omega), if_neg (by omega), if_neg (by omega)]) n.toNat
  rw [if_pos (by omega)] at this
  have := h.used
  omega
def blkOf (ws : List U64) (p : Int) : Int × Int := if (valW ws (p + 2)).1 = 0 then (0, 0) else (whereW ws (valW ws (p + 2)).2, blkN ws (whereW ws (valW ws (p + 2)).2))
def aliveB (ws : List U64) (b i : Int) : Bool := (valW ws (b + 1 + 4 * i)).1 != 0 && (valW ws (b + 3 + 4 * i)).1 != 0
def aliveF (ws : List U64) (b : Int) : Nat → Int → Int
 | 0, _ => 0
 | f + 1, i => (if aliveB ws b i = true then 1 else 0) + aliveF ws b f (i + 1)
theorem aliveF_range (ws : List U64) (b : Int) : ∀ (f : Nat) (i : Int), 0 ≤ aliveF ws b f i ∧ aliveF ws b f i ≤ f
 | 0, _ => ⟨Int.le_refl _, Int.le_refl _⟩
 | f + 1, i => by
  have := aliveF_range ws b f (i + 1)
  unfold aliveF
  split <;> omega
def fillF (p n b : Int) : Nat → Int → List U64 → List U64
 | 0, _, w => w
 | f + 1, i, w => fillF p n b f (i + 1) (if aliveB w b i = true then layW p n w (valW w (b + 1 + 4 * i)) (valW w (b + 3 + 4 * i)) else w)
def growN (l : Int) : Int := if 4 * l ≤ 12 then 4 else if 4 * l ≤ 24 then 8 else if 4 * l ≤ 48 then 16 else if 4 * l ≤ 96 then 32 else if 4 * l ≤ 192 then 64 else 128
theorem tabs_at {a : Ar} {mk : List Int} : ∀ (d : Nat) (p : Int) (had : List Int), tabsP a mk d p had → ∀ q : Int, p ≤ q → q < p + d → hdM mk q → kdW a.ws q = 2 → ∃ had', tabP a.ws q had'
 | 0, p, had, _, q, h1, h2, _, _ => by omega
 | d + 1, p, had, h, q, h1, h2, hq, hk => by
  unfold tabsP at h
  by_cases e : q = p
  ·subst e
   rw [if_pos ⟨hq, hk⟩] at h
   exact ⟨had, h.1⟩
  ·split at h
   ·exact tabs_at d (p + 1) _ h.2 q (by omega) (by omega) hq hk
   ·exact tabs_at d (p + 1) _ h q (by omega) (by omega) hq hk
def UsP (a : Ar) : Prop := ∀ q, Reach a q → kdW a.ws q = 2 → gw a.ws (q + 1) = usedW a.ws (blkOf a.ws q).1 (blkOf a.ws q).2.toNat ∧ 4 * gw a.ws (q + 1) ≤ 3 * (blkOf a.ws q).2
theorem reach_mk {a : Ar} {mk : List Int} (hw : a.wf) (h : OkM a mk) {q : Int} (hq : Reach a q) : 0 ≤ q ∧ q < mk.length ∧ hdM mk q := by
 have hT := tile_ok hw h.N h.t
 have way : ∀ v : Vl, ∀ frm : Int, valOkB v = true → leadsB a mk v frm = true → isRefB v = true → 0 ≤ whereW a.ws v.2 ∧ whereW a.ws v.2 < mk.length ∧ hdM mk (whereW a.ws v.2) := fun v frm h1 h2 hr => by
  obtain ⟨l1, l2, l3⟩ := leads_ok h2 hr
  have := ref_pos h1 hr
  exact hT.where_ hw (by omega) l1 l2
 induction hq with
 | root j hj hr =>
  obtain ⟨r1, r2, r3⟩ := h.r _ (getD_mem hj)
  exact way _ 1 r1 r3 hr
 | slot q x hq hx hr ih =>
  obtain ⟨i0, i1, i2⟩ := ih
  obtain ⟨s1, s2, s3⟩ := (h.o q i0 i1 i2).1 x hx
  exact way _ _ s1 s2 hr
theorem us_of {a : Ar} (hw : a.wf) (h : okP a) : UsP a := by
 obtain ⟨mk, h⟩ := h
 have hn := (tile_ok hw h.N h.t).n
 intro q hq hk
 obtain ⟨i0, i1, i2⟩ := reach_mk hw h hq
 obtain ⟨had, t⟩ := tabs_at a.ws.length 0 [] h.b q i0 (by omega) i2 hk
 unfold tabP at t
 unfold blkOf
 by_cases c : (valW a.ws (q + 2)).1 = 0
 ·rw [if_pos c] at t ⊢
  rw [t]
  exact ⟨rfl, by decide⟩
 ·rw [if_neg c] at t ⊢
  exact ⟨t.2.2.2.1, t.2.2.2.2⟩
theorem wrap_00 {x y : Int} (hx : inW x) (hy : inW y) (e : IntKind.i64.wrap x = IntKind.i64.wrap y) : x = 0 ↔ y = 0 := by
 constructor
 ·rintro rfl
  exact wrap_0 hy (by rw [← e]; rfl)
 ·rintro rfl
  exact wrap_0 hx (by rw [e]; rfl)
theorem blk_same {a b : Ar} {f : Int → Int} (ha : a.wf) (hb : b.wf) (S : SmF a b f) {p : Int} (hp : Reach a p) (hk : kdW a.ws p = 3) (hs : sizeB 3 (szW a.ws p) = true) :
  blkN b.ws (f p) = blkN a.ws p ∧ (∀ m : Nat, (m : Int) ≤ blkN a.ws p → usedW b.ws (f p) m = usedW a.ws p m) ∧ ∀ (m : Nat) (i : Int), 0 ≤ i → i + m ≤ blkN a.ws p → aliveF b.ws (f p) m i = aliveF a.ws p m i := by
 have o := S.o p hp
 have eb : blkN a.ws p = szW a.ws p / 4 := rfl
 have tg : ∀ i : Int, 0 ≤ i → i < blkN a.ws p → (valW b.ws (f p + 1 + 4 * i)).1 = (valW a.ws (p + 1 + 4 * i)).1 ∧ (valW b.ws (f p + 3 + 4 * i)).1 = (valW a.ws (p + 3 + 4 * i)).1 := fun i i0 i1 => by
  obtain ⟨s1, s2⟩ := slots_3 hs i0 (by rw [← eb]; exact i1)
  have t1 := (o.sl _ (by rw [hk]; exact s1)).1
  have t2 := (o.sl _ (by rw [hk]; exact s2)).1
  rw [show f p + (1 + 4 * i) = f p + 1 + 4 * i by omega, show p + (1 + 4 * i) = p + 1 + 4 * i by omega] at t1
  rw [show f p + (3 + 4 * i) = f p + 3 + 4 * i by omega, show p + (3 + 4 * i) = p + 3 + 4 * i by omega] at t2
  exact ⟨t1, t2⟩
 refine ⟨?_, fun m => ?_, fun m => ?_⟩
 ·show szW b.ws (f p) / 4 = szW a.ws p / 4
  rw [sz_c o.hd]
 ·induction m with
  | zero => exact fun _ => rfl
  | succ m ih =>
   intro hm
   unfold usedW
   rw [ih (by omega)]
   have e := wrap_00 (gw_in hb.w _) (gw_in ha.w _) (tg m (by omega) (by omega)).1
   by_cases c : gw a.ws (p + 1 + 4 * (m : Int)) = 0
   ·rw [if_pos c, if_pos (e.2 c)]
   ·rw [if_neg c, if_neg fun k => c (e.1 k)]
 ·induction m with
  | zero => exact fun _ _ _ => rfl
  | succ m ih =>
   intro i i0 i1
   unfold aliveF
   rw [ih (i + 1) (by omega) (by omega)]
   have t := tg i i0 (by omega)
   have : aliveB b.ws (f p) i = aliveB a.ws p i := by unfold aliveB; rw [t.1, t.2]
   rw [this]
structure TabB (a : Ar) (p : Int) : Prop where
 ok : okW (gw a.ws p) = true
 sz : szW a.ws p = 3
 p0 : 1 ≤ p
 p1 : p + 4 ≤ a.ws.length
 v : valOkB (valW a.ws (p + 2)) = true
 b : (blkOf a.ws p) = (0, 0) ∧ (valW a.ws (p + 2)).1 = 0 ∨ (valW a.ws (p + 2)).1 = 8 ∧ Src a (valW a.ws (p + 2)) ∧ Reach a (blkOf a.ws p).1 ∧ kdW a.ws (blkOf a.ws p).1 = 3 ∧ BlkOk a (blkOf a.ws p).1 (blkOf a.ws p).2 ∧ szW a.ws (blkOf a.ws p).1 = 4 * (blkOf a.ws p).2 ∧ (blkOf a.ws p).2 = blkN a.ws (blkOf a.ws p).1 ∧ (blkOf a.ws p).1 = whereW a.ws (valW a.ws (p + 2)).2 ∧ 0 < (valW a.ws (p + 2)).2 ∧ (valW a.ws (p + 2)).2 < a.ws.length ∧ placeA a (valW a.ws (p + 2)).2 = (blkOf a.ws p).1 ∧ sizeB 3 (szW a.ws (blkOf a.ws p).1) = true
theorem OkC.tab {a : Ar} (h : OkC a) (hs : Shp a) {p : Int} (hp : Reach a p) (hk : kdW a.ws p = 2) : TabB a p := by
 have t := h.at hp
 have sz := ok_tab (okC_wf h) t.1 hk
 have hx : (2 : Int) ∈ slotsL (kdW a.ws p) (szW a.ws p) := by rw [hk, sz, slots_2]; simp
 have src : Src a (valW a.ws (p + 2)) := .inr ⟨p, 2, hp, hx, rfl⟩
 obtain ⟨s1, s2⟩ := h.src src
 refine ⟨t.1, sz, by omega, by omega, s1, ?_⟩
 unfold blkOf
 rcases hs.tb p hp hk with e | e
 ·rw [if_pos e]; exact .inl ⟨rfl, e⟩
 ·have hr : isRefB (valW a.ws (p + 2)) = true := by unfold isRefB kindT; rw [e]; rfl
  rw [if_neg (by rw [e]; decide)]
  have hb := src.reach hr
  have k3 : kdW a.ws (whereW a.ws (valW a.ws (p + 2)).2) = 3 := by rw [hs.k p hp 2 hx hr, e]; rfl
  obtain ⟨b1, b2, b3⟩ := h.blk hs hb k3
  have := s2 hr
  exact .inr ⟨e, src, hb, k3, b1, b2, rfl, rfl, this.1, this.2.1, this.2.2, b3⟩
theorem blkOf_sm {a b : Ar} {f : Int → Int} (ha : OkC a) (hs : Shp a) (hb : b.wf) (S : SmF a b f) {p : Int} (hp : Reach a p) (hk : kdW a.ws p = 2) :
  gw b.ws (f p + 1) = gw a.ws (p + 1) ∧ (blkOf b.ws (f p)).2 = (blkOf a.ws p).2 ∧ usedW b.ws (blkOf b.ws (f p)).1 (blkOf b.ws (f p)).2.toNat = usedW a.ws (blkOf a.ws p).1 (blkOf a.ws p).2.toNat ∧
   aliveF b.ws (blkOf b.ws (f p)).1 (blkOf b.ws (f p)).2.toNat 0 = aliveF a.ws (blkOf a.ws p).1 (blkOf a.ws p).2.toNat 0 ∧ (valW b.ws (f p + 2)).1 = (valW a.ws (p + 2)).1 := by
 have T := ha.tab hs hp hk
 have o := S.o p hp
 have hx : (2 : Int) ∈ slotsL (kdW a.ws p) (szW a.ws p) := by rw [hk, T.sz, slots_2]; simp
 have s := o.sl 2 hx
 refine ⟨o.raw 1 (by omega) (by rw [T.sz]; omega) fun x hx => by rw [hk, T.sz, slots_2] at hx; simp at hx; omega, ?_⟩
 rcases T.b with ⟨e1, e2⟩ | ⟨e1, e2, e3, e4, e5, e6, e7, e8, e9, e10, e11, e12⟩
 ·have eb : blkOf b.ws (f p) = (0, 0) := by unfold blkOf; rw [if_pos (by rw [s.1]; exact e2)]
  rw [eb, e1]
  exact ⟨rfl, rfl, rfl, s.1⟩
 ·have hr : isRefB (valW a.ws (p + 2)) = true := by unfold isRefB kindT; rw [e1]; rfl
  obtain ⟨q1, q2, q3⟩ := blk_same (okC_wf ha) hb S e3 e4 e12
  have eb : blkOf b.ws (f p) = (f (blkOf a.ws p).1, (blkOf a.ws p).2) := by
   have : blkOf b.ws (f p) = (whereW b.ws (valW b.ws (f p + 2)).2, blkN b.ws (whereW b.ws (valW b.ws (f p + 2)).2)) := by unfold blkOf; rw [if_neg (by rw [s.1, e1]; decide)]
   rw [this, s.2.2 hr, ← e8, q1, e7]
  rw [eb]
  have n1 := e5.n1
  refine ⟨rfl, q2 _ ?_, q3 _ 0 (Int.le_refl _) ?_, s.1⟩
  ·rw [← e7]; show ((blkOf a.ws p).2.toNat : Int) ≤ _; omega
  ·rw [← e7]; show (0 : Int) + ((blkOf a.ws p).2.toNat : Int) ≤ _; omega
theorem us_sm {a b : Ar} {f : Int → Int} (h : UsP a) (ha : OkC a) (hs : Shp a) (hb : b.wf) (S : SmF a b f) : UsP b := by
 intro q hq hk
 obtain ⟨p, hp, rfl⟩ := S.back hq
 rw [kd_c (S.o p hp).hd] at hk
 obtain ⟨k1, k2, k3, k4, k5⟩ := blkOf_sm ha hs hb S hp hk
 obtain ⟨u1, u2⟩ := h p hp hk
 rw [k1, k3, k2]
 exact ⟨u1, u2⟩
def rtA (a : Ar) (i : Int) : Vl := a.rs.getD i.toNat (0, 0)
def rnA (c : Ar) (p n r k f l : Int) : Ar :=
 { c with ws := setW (setW (setW (layW p n (fillF p n (blkOf c.ws (rtA c r).2).1 (blkOf c.ws (rtA c r).2).2.toNat 0 c.ws) (rtA c k) (rtA c f)) ((rtA c r).2 + 1) (uW l)) ((rtA c r).2 + 2) (uW 8)) ((rtA c r).2 + 2 + 1) (uW p) }
def gkR (b : Ar) (r k f : Int) : Ar × Int :=
 let l := 1 + aliveF b.ws (blkOf b.ws (rtA b r).2).1 (blkOf b.ws (rtA b r).2).2.toNat 0
 if growN l > 64 then (b, 1)
 else if (askA 3 (4 * growN l) b).2.2 = 0 then (rnA (askA 3 (4 * growN l) b).1 (askA 3 (4 * growN l) b).2.1 (growN l) r k f l, 0) else ((askA 3 (4 * growN l) b).1, (askA 3 (4 * growN l) b).2.2)
def skB (b : Ar) (r k f : Int) : Ar × Int :=
 let t := (rtA b r).2
 let e := findA b.ws (blkOf b.ws t).1 (blkOf b.ws t).2 (rtA b k)
 if e.2 = true then (putV b ((blkOf b.ws t).1 + 3 + 4 * e.1) (rtA b f), 0)
 else if (rtA b f).1 = 0 then (b, 0)
 else if 4 * (gw b.ws (t + 1) + 1) > 3 * (blkOf b.ws t).2 then gkR b r k f
 else ({ b with ws := setW (layW (blkOf b.ws t).1 (blkOf b.ws t).2 b.ws (rtA b k) (rtA b f)) (t + 1) (uW (gw b.ws (t + 1) + 1)) }, 0)
def skR (a : Ar) (r k f : Int) : Ar × Int := skB (ldA a ((rtA a r).2 + 2)) r k f
def skP (a : Ar) (r k f : Int) : Prop := okP a ∧ ((0 ≤ r ∧ r < a.rs.length) ∧ (rtA a r).1 = 4) ∧ (0 ≤ k ∧ k < a.rs.length) ∧ (0 ≤ f ∧ f < a.rs.length) ∧ (rtA a k).1 ≠ 0 ∧ (rtA a k).1 ≠ 9 ∧ (rtA a f).1 ≠ 9
open Classical in
noncomputable def skA (a : Ar) (r k f : Int) : Ar × Int := if skP a r k f then (if (skR a r k f).2 = 1 then (a, 1) else skR a r k f) else (a, 1)
structure SkOk (a : Ar) (r k f : Int) : Prop where
 ok : OkC a
 s : Shp a
 u : UsP a
 r0 : 0 ≤ r
 r1 : r < a.rs.length
 r4 : (rtA a r).1 = 4
 k0 : 0 ≤ k
 k1 : k < a.rs.length
 kn : (rtA a k).1 ≠ 0
 k9 : (rtA a k).1 ≠ 9
 f0 : 0 ≤ f
 f1 : f < a.rs.length
theorem SkOk.ref {a : Ar} {r k f : Int} (h : SkOk a r k f) : isRefB (rtA a r) = true := by unfold isRefB kindT; rw [h.r4]; rfl
theorem SkOk.root {a : Ar} {r k f : Int} (h : SkOk a r k f) : whereW a.ws (rtA a r).2 = (rtA a r).2 ∧ Reach a (rtA a r).2 := h.ok.root (j := r.toNat) (by have := h.r0; have := h.r1; omega) h.ref
theorem SkOk.kd {a : Ar} {r k f : Int} (h : SkOk a r k f) : kdW a.ws (rtA a r).2 = 2 := by
 have := h.s.kr r.toNat (by have := h.r0; have := h.r1; omega) h.ref
 have e := h.root.1
 unfold rtA at e
 rw [e] at this
 have e4 := h.r4
 unfold rtA at e4 ⊢
 rw [this, e4]
 rfl
theorem SkOk.tab {a : Ar} {r k f : Int} (h : SkOk a r k f) : TabB a (rtA a r).2 := h.ok.tab h.s h.root.2 h.kd
theorem SkOk.slot {a : Ar} {r k f : Int} (h : SkOk a r k f) : (2 : Int) ∈ slotsL (kdW a.ws (rtA a r).2) (szW a.ws (rtA a r).2) := by rw [h.kd, h.tab.sz, slots_2]; simp
theorem SkOk.key {a : Ar} {r k f : Int} (h : SkOk a r k f) : KeyS a (rtA a k) := ⟨.inl (.inl ⟨k.toNat, by have := h.k0; have := h.k1; omega, rfl⟩), h.kn, h.s.rr k.toNat (by have := h.k0; have := h.k1; omega), h.k9⟩
theorem SkOk.keyOk {a : Ar} {r k f : Int} (h : SkOk a r k f) : KeyOk a (rtA a k) := by
 obtain ⟨h1, h2, h3, h4⟩ := h.key
 rcases h1 with h1 | h1
 ·exact h.ok.key h.s h1 h2 h3 h4
 ·have nr : isRefB (rtA a k) = false := by unfold isRefB kindT; rw [h1]; rfl
  exact ⟨by unfold valOkB; rw [h1]; rfl, by omega, by omega, fun hr => (by rw [nr] at hr; cases hr), fun e => by omega⟩
theorem SkOk.sm {a b : Ar} {r k f : Int} (h : SkOk a r k f) (hb : OkC b) (S : Sm a b) : SkOk b r k f := by
 obtain ⟨g, S⟩ := S
 have tag : ∀ i : Int, 0 ≤ i → i < a.rs.length → (rtA b i).1 = (rtA a i).1 := fun i i0 i1 => (S.r i.toNat (by omega)).1
 exact ⟨hb, h.s.sm (okC_wf h.ok) S, us_sm h.u h.ok h.s (okC_wf hb) S, h.r0, by rw [S.rl]; exact h.r1, by rw [tag r h.r0 h.r1]; exact h.r4, h.k0, by rw [S.rl]; exact h.k1, by rw [tag k h.k0 h.k1]; exact h.kn, by rw [tag k h.k0 h.k1]; exact h.k9, h.f0, by rw [S.rl]; exact h.f1⟩
theorem SkOk.same {a b : Ar} {r k f : Int} (h : SkOk a r k f) (hb : OkC b) (S : Sm a b) : (blkOf b.ws (rtA b r).2).2 = (blkOf a.ws (rtA a r).2).2 ∧ aliveF b.ws (blkOf b.ws (rtA b r).2).1 (blkOf b.ws (rtA b r).2).2.toNat 0 = aliveF a.ws (blkOf a.ws (rtA a r).2).1 (blkOf a.ws (rtA a r).2).2.toNat 0 ∧ (rtA b f).1 = (rtA a f).1 := by
 have hb' := h.sm hb S
 obtain ⟨g, S⟩ := S
 have er := (S.r r.toNat (by have := h.r0; have := h.r1; omega)).2.2 h.ref
 have e : (rtA b r).2 = g (rtA a r).2 := by
  have e1 := hb'.root.1
  have e2 := h.root.1
  unfold rtA at e1 e2 ⊢
  rw [e1, e2] at er
  exact er
 obtain ⟨k1, k2, k3, k4, k5⟩ := blkOf_sm h.ok h.s (okC_wf hb) S h.root.2 h.kd
 rw [e]
 exact ⟨k2, k4, (S.r f.toNat (by have := h.f0; have := h.f1; omega)).1⟩
theorem SkOk.load {a : Ar} {r k f : Int} (h : SkOk a r k f) : SkOk (ldA a ((rtA a r).2 + 2)) r k f ∧ LdOk a (rtA a r).2 2 (ldA a ((rtA a r).2 + 2)) ∧ (∀ i, rtA (ldA a ((rtA a r).2 + 2)) i = rtA a i) := by
 have L := ld_ok h.ok (j := r.toNat) (by have := h.r0; have := h.r1; omega) h.ref (x := 2) h.slot
 have L : LdOk a (rtA a r).2 2 (ldA a ((rtA a r).2 + 2)) := L
 refine ⟨h.sm L.c L.s, L, fun i => ?_⟩
 have e := L.f.rs
 show (ldA a ((rtA a r).2 + 2)).rs.getD i.toNat (0, 0) = a.rs.getD i.toNat (0, 0)
 rw [e]
theorem skOk_of {a : Ar} {r k f : Int} (hw : a.wf) (h : skP a r k f) : SkOk a r k f := by
 obtain ⟨h0, ⟨⟨h1, h2⟩, h3⟩, ⟨h4, h5⟩, ⟨h6, h7⟩, h8, h9, h10⟩ := h
 exact ⟨by obtain ⟨mk, h0⟩ := h0; exact ok_cyc hw h0, shp_of hw h0, us_of hw h0, h1, h2, h3, h4, h5, h8, h9, h6, h7⟩
theorem OkC.apart {a : Ar} (h : OkC a) {p q : Int} (hp : Reach a p) (hq : Reach a q) (hne : p ≠ q) : p + szW a.ws p + 1 ≤ q ∨ q + szW a.ws q + 1 ≤ p := by
 rcases h with ⟨T1, h⟩ | ⟨T1, T2, h⟩
 ·rcases Int.lt_or_gt_of_ne hne with k | k
  ·exact .inl (h.c1.apart p (h.reach hp) q (h.reach hq) k)
  ·exact .inr (h.c1.apart q (h.reach hq) p (h.reach hp) k)
 ·have n := h.c.nums
  have one : ∀ p q, Live a T1 T2 p → Live a T1 T2 q → p < q → p + szW a.ws p + 1 ≤ q := by
   intro p q hp hq hlt
   rcases hp with hp | ⟨hp, op⟩ <;> rcases hq with hq | ⟨hq, oq⟩
   ·exact h.c.c1.apart p hp q hq hlt
   ·have := h.c.in1 hp; have := h.c.in2 hq; omega
   ·have := h.c.in2 hp; have := h.c.in1 hq
    have ez : szC a.ws p = szW a.ws p := if_pos op
    omega
   ·have := h.c.c2.apart p hp q hq hlt
    have ez : szC a.ws p = szW a.ws p := if_pos op
    omega
  rcases Int.lt_or_gt_of_ne hne with k | k
  ·exact .inl (one p q (h.c.canon h.rc hp) (h.c.canon h.rc hq) k)
  ·exact .inr (one q p (h.c.canon h.rc hq) (h.c.canon h.rc hp) k)
theorem SkOk.refIn {a : Ar} {r k f : Int} (h : SkOk a r k f) : OkC a → a.cyc = true → ∃ T1 T2, C0 a T1 T2 ∧ valOkB (valW a.ws ((rtA a r).2 + 2)) = true ∧ (isRefB (valW a.ws ((rtA a r).2 + 2)) = true → (valW a.ws ((rtA a r).2 + 2)).2 ∈ T1 ∨ (valW a.ws ((rtA a r).2 + 2)).2 ∈ T2) := by
 rintro (⟨T1, c⟩ | ⟨T1, T2, c⟩) hc
 ·rw [c.cy] at hc; cases hc
 ·have hl := c.c.canon c.rc h.root.2
  have hT : (rtA a r).2 ∈ T1 := (c.r _ (getD_mem (j := r.toNat) (by have := h.r0; have := h.r1; omega))).2 h.ref
  exact ⟨T1, T2, c.c, c.c.v1 _ hT 2 h.slot⟩
theorem growN_all (l : Int) : (growN l = 4 ∧ 4 * l ≤ 12) ∨ (growN l = 8 ∧ 12 < 4 * l ∧ 4 * l ≤ 24) ∨ (growN l = 16 ∧ 24 < 4 * l ∧ 4 * l ≤ 48) ∨ (growN l = 32 ∧ 48 < 4 * l ∧ 4 * l ≤ 96) ∨ (growN l = 64 ∧ 96 < 4 * l ∧ 4 * l ≤ 192) ∨ (growN l = 128 ∧ 192 < 4 * l) := by
 unfold growN
 by_cases c1 : 4 * l ≤ 12
 ·rw [if_pos c1]; omega
 by_cases c2 : 4 * l ≤ 24
 ·rw [if_neg c1, if_pos c2]; omega
 by_cases c3 : 4 * l ≤ 48
 ·rw [if_neg c1, if_neg c2, if_pos c3]; omega
 by_cases c4 : 4 * l ≤ 96
 ·rw [if_neg c1, if_neg c2, if_neg c3, if_pos c4]; omega
 by_cases c5 : 4 * l ≤ 192
 ·rw [if_neg c1, if_neg c2, if_neg c3, if_neg c4, if_pos c5]; omega
 ·rw [if_neg c1, if_neg c2, if_neg c3, if_neg c4, if_neg c5]; omega
theorem findG_yes {ws : List U64} {b n : Int} {key : Vl} (n0 : 0 < n) : ∀ (f : Nat) (i : Int), 0 ≤ i → i < n → (findG ws b n key f i).2 = true → 0 ≤ (findG ws b n key f i).1 ∧ (findG ws b n key f i).1 < n
 | 0, i, _, _, h => by cases h
 | f + 1, i, i0, i1, h => by
  unfold findG at h ⊢
  split
  ·exact ⟨i0, i1⟩
  ·rename_i c
   rw [if_neg c] at h
   split
   ·exact ⟨i0, i1⟩
   ·rename_i c2
    rw [if_neg c2] at h
    exact findG_yes n0 f _ (Int.emod_nonneg (i + 1) (show n ≠ 0 by omega)) (Int.emod_lt_of_pos (i + 1) n0) h
theorem find_yes {ws : List U64} {b n : Int} {key : Vl} (n0 : 0 ≤ n) (h0 : 0 ≤ hashA ws key) (h : (findA ws b n key).2 = true) : 0 < n ∧ 0 ≤ (findA ws b n key).1 ∧ (findA ws b n key).1 < n := by
 unfold findA at h ⊢
 split at h
 ·cases h
 ·rename_i c
  rw [if_neg c]
  by_cases e : n = 0
  ·subst e; cases h
  ·exact ⟨by omega, findG_yes (by omega) _ _ (Int.emod_nonneg _ (by omega)) (Int.emod_lt_of_pos _ (by omega)) h⟩
theorem find_room {ws : List U64} {b n : Int} {key : Vl} (n0 : 0 < n) (h0 : 0 ≤ hashA ws key) (hk : key.1 ≠ 0) (hu : usedW ws b n.toNat < n) : 0 ≤ (findA ws b n key).1 ∧ (findA ws b n key).1 < n := by
 have m0 := Int.emod_nonneg (hashA ws key) (show n ≠ 0 by omega)
 have m1 := Int.emod_lt_of_pos (hashA ws key) n0
 unfold findA
 rw [if_neg hk]
 rcases findG_in (ws := ws) (b := b) (key := key) n0 n.toNat (hashA ws key % n) m0 m1 with e | e
 ·exfalso
  have all : ∀ i : Int, 0 ≤ i → i < (n.toNat : Int) → gw ws (b + 1 + 4 * i) ≠ 0 := by
   intro i i0 i1 e0
   obtain ⟨x, ex⟩ : ∃ x, x = hashA ws key % n := ⟨_, rfl⟩
   rw [← ex] at e m0 m1
   by_cases c : x ≤ i
   ·have := e.2 (i - x).toNat (by omega)
    rw [show x + ((i - x).toNat : Int) = i by omega, Int.emod_eq_of_lt i0 (by omega)] at this
    exact this (by unfold valW; rw [e0]; rfl)
   ·have := e.2 (i - x + n).toNat (by omega)
    rw [show x + ((i - x + n).toNat : Int) = i + n by omega, Int.add_emod_right, Int.emod_eq_of_lt i0 (by omega)] at this
    exact this (by unfold valW; rw [e0]; rfl)
  have := used_all n.toNat all
  omega
 ·exact e
theorem growN_ok (l : Int) (h0 : 1 ≤ l) (h : growN l ≤ 64) : (growN l = 4 ∨ growN l = 8 ∨ growN l = 16 ∨ growN l = 32 ∨ growN l = 64) ∧ 4 * l ≤ 3 * growN l ∧ sizeB 3 (4 * growN l) = true ∧ 1 ≤ growN l := by
 have e : (growN l = 4 ∧ 4 * l ≤ 12) ∨ (growN l = 8 ∧ 4 * l ≤ 24) ∨ (growN l = 16 ∧ 4 * l ≤ 48) ∨ (growN l = 32 ∧ 4 * l ≤ 96) ∨ (growN l = 64 ∧ 4 * l ≤ 192) := by
  unfold growN at h ⊢
  split
  ·omega
  ·split
   ·omega
   ·split
    ·omega
    ·split
     ·omega
     ·split
      ·omega
      ·rename_i c1 c2 c3 c4 c5
       rw [if_neg c1, if_neg c2, if_neg c3, if_neg c4, if_neg c5] at h
       omega
 refine ⟨by omega, by omega, ?_, by omega⟩
 unfold sizeB
 rw [if_neg (by decide), if_neg (by decide), if_pos rfl, decide_eq_true_eq]
 omega
structure Old (c : Ar) (b n : Int) : Prop where
 b : n = 0 ∨ Reach c b ∧ kdW c.ws b = 3 ∧ szW c.ws b = 4 * n ∧ sizeB 3 (szW c.ws b) = true
 n0 : 0 ≤ n
 n1 : n ≤ 64
theorem SkOk.old {a : Ar} {r k f : Int} (h : SkOk a r k f) : Old a (blkOf a.ws (rtA a r).2).1 (blkOf a.ws (rtA a r).2).2 := by
 rcases h.tab.b with ⟨e1, e2⟩ | ⟨e1, e2, e3, e4, e5, e6, e7, e8, e9, e10, e11, e12⟩
 ·rw [e1]; exact ⟨.inl rfl, by decide, by decide⟩
 ·exact ⟨.inr ⟨e3, e4, e6, e12⟩, by have := e5.n1; omega, e5.n2⟩
theorem Old.src {c : Ar} {b n : Int} (h : Old c b n) (hc : OkC c) (hs : Shp c) {i : Int} (i0 : 0 ≤ i) (i1 : i < n) : Src c (valW c.ws (b + 1 + 4 * i)) ∧ Src c (valW c.ws (b + 3 + 4 * i)) ∧ ((valW c.ws (b + 1 + 4 * i)).1 ≠ 0 → KeyS c (valW c.ws (b + 1 + 4 * i))) := by
 obtain ⟨hq, hk, hz, h3⟩ := h.b.resolve_left (by omega)
 obtain ⟨s1, s2⟩ := slots_3 h3 i0 (by rw [hz]; omega)
 have k1 : Src c (valW c.ws (b + (1 + 4 * i))) := .inr ⟨b, _, hq, by rw [hk]; exact s1, rfl⟩
 have k2 : Src c (valW c.ws (b + (3 + 4 * i))) := .inr ⟨b, _, hq, by rw [hk]; exact s2, rfl⟩
 have r := rule_3 (by have := hs.rl b hq _ (by rw [hk]; exact s1); rwa [hk] at this)
 rw [show b + (1 + 4 * i) = b + 1 + 4 * i by omega] at k1 r
 rw [show b + (3 + 4 * i) = b + 3 + 4 * i by omega] at k2
 exact ⟨k1, k2, fun e => ⟨.inl k1, e, r⟩⟩
theorem Old.fill {c : Ar} {b n p m : Int} {w : List U64} {cnt : Int} (h : Old c b n) (hF : Fill c p m w cnt) (g : Grd c p m) {i : Int} (i0 : 0 ≤ i) (i1 : i < n) : valW w (b + 1 + 4 * i) = valW c.ws (b + 1 + 4 * i) ∧ valW w (b + 3 + 4 * i) = valW c.ws (b + 3 + 4 * i) := by
 obtain ⟨hq, hk, hz, h3⟩ := h.b.resolve_left (by omega)
 have e := fun (y : Int) (y0 : 0 ≤ y) (y1 : y ≤ szW c.ws b) => hF.obj g hq y0 y1
 constructor
 ·refine val_c ?_ ?_
  ·have := e (1 + 4 * i) (by omega) (by omega); rwa [show b + (1 + 4 * i) = b + 1 + 4 * i by omega] at this
  ·have := e (1 + 4 * i + 1) (by omega) (by omega); rwa [show b + (1 + 4 * i + 1) = b + 1 + 4 * i + 1 by omega] at this
 ·refine val_c ?_ ?_
  ·have := e (3 + 4 * i) (by omega) (by omega); rwa [show b + (3 + 4 * i) = b + 3 + 4 * i by omega] at this
  ·have := e (3 + 4 * i + 1) (by omega) (by omega); rwa [show b + (3 + 4 * i + 1) = b + 3 + 4 * i + 1 by omega] at this
theorem Old.alive {c : Ar} {b n p m : Int} {w : List U64} {cnt : Int} (h : Old c b n) (hF : Fill c p m w cnt) (g : Grd c p m) {i : Int} (i0 : 0 ≤ i) (i1 : i < n) : aliveB w b i = aliveB c.ws b i := by
 obtain ⟨e1, e2⟩ := h.fill hF g i0 i1
 unfold aliveB
 rw [e1, e2]
theorem Old.step {c : Ar} {b n p m : Int} {w : List U64} {cnt : Int} (h : Old c b n) (hF : Fill c p m w cnt) (g : Grd c p m) {f : Nat} {i : Int} (i0 : 0 ≤ i) (i1 : i < n) (hr : cnt + aliveF c.ws b (f + 1) i < m) :
  ∃ cnt', Fill c p m (if aliveB w b i = true then layW p m w (valW w (b + 1 + 4 * i)) (valW w (b + 3 + 4 * i)) else w) cnt' ∧ cnt' + aliveF c.ws b f (i + 1) = cnt + aliveF c.ws b (f + 1) i ∧ (aliveB w b i = true → cnt < m ∧ KeyS c (valW w (b + 1 + 4 * i))) := by
 have ea := h.alive hF g i0 i1
 obtain ⟨e1, e2⟩ := h.fill hF g i0 i1
 obtain ⟨s1, s2, s3⟩ := h.src g.ok g.s i0 i1
 have ar := aliveF_range c.ws b f (i + 1)
 have er : aliveF c.ws b (f + 1) i = (if aliveB c.ws b i = true then 1 else 0) + aliveF c.ws b f (i + 1) := rfl
 by_cases c1 : aliveB w b i = true
 ·rw [if_pos c1]
  rw [ea] at c1
  rw [if_pos c1] at er
  have hk : KeyS c (valW w (b + 1 + 4 * i)) := by
   rw [e1]
   refine s3 fun e => ?_
   unfold aliveB at c1
   rw [e] at c1
   simp at c1
  exact ⟨cnt + 1, hF.lay g (by omega) hk _, by omega, fun _ => ⟨by omega, hk⟩⟩
 ·rw [if_neg c1]
  have c2 := c1
  rw [ea] at c2
  rw [if_neg c2] at er
  exact ⟨cnt, hF, by omega, fun e => absurd e c1⟩
theorem SkOk.grow {b : Ar} {r k f : Int} (h : SkOk b r k f) {l : Int} (hl : l = 1 + aliveF b.ws (blkOf b.ws (rtA b r).2).1 (blkOf b.ws (rtA b r).2).2.toNat 0) (hg : growN l ≤ 64) :
  SkOk (askA 3 (4 * growN l) b).1 r k f ∧ ((askA 3 (4 * growN l) b).2.2 = 0 ∧ Grd (askA 3 (4 * growN l) b).1 (askA 3 (4 * growN l) b).2.1 (growN l) ∧ l = 1 + aliveF (askA 3 (4 * growN l) b).1.ws (blkOf (askA 3 (4 * growN l) b).1.ws (rtA (askA 3 (4 * growN l) b).1 r).2).1 (blkOf (askA 3 (4 * growN l) b).1.ws (rtA (askA 3 (4 * growN l) b).1 r).2).2.toNat 0 ∨ (askA 3 (4 * growN l) b).2.2 = 2) := by
 have ar := aliveF_range b.ws (blkOf b.ws (rtA b r).2).1 (blkOf b.ws (rtA b r).2).2.toNat 0
 obtain ⟨g1, g2, g3, g4⟩ := growN_ok l (by omega) hg
 obtain ⟨u1, u2, u3⟩ := ask_sm h.ok g3 (fun e => absurd e (by decide))
 have hs := h.sm u1 u2
 refine ⟨hs, u3.imp (fun k => ⟨k.1, ⟨u1, hs.s, k.2, g4, hg⟩, ?_⟩) id⟩
 rw [(h.same u1 u2).2.1]
 exact hl
def orW (w : Int) (b : UInt8) (k : Nat) : Int := IntKind.u64.wrap (BitVec.toNat (BitVec.ofInt (IntKind.bits .u64) w ||| BitVec.ofInt (IntKind.bits .u64) (IntKind.u64.wrap (IntKind.u64.wrap (UInt8.toNat b : Int) * 2 ^ min (Int.toNat ((k : Nat) : Int)) (IntKind.bits .u64)))))
def txW (s : ByteArray) (p : Int) (ws : List U64) : Nat → List U64
 | 0 => ws
 | i + 1 => setW (txW s p ws i) (p + 2 + ((i / 8 : Nat) : Int)) (orW (gw (txW s p ws i) (p + 2 + ((i / 8 : Nat) : Int))) (s[i]?.getD 0) (8 * (i % 8)))
theorem txW_len (s : ByteArray) (p : Int) (ws : List U64) : ∀ i : Nat, (txW s p ws i).length = ws.length
 | 0 => rfl
 | i + 1 => by unfold txW; rw [setW_len, txW_len s p ws i]
def ptR (a : Ar) (s : ByteArray) (i : Int) : Ar × Int :=
 if (askA 1 (1 + ((s.size : Int) + 7) / 8) a).2.2 = 0 then ({ (askA 1 (1 + ((s.size : Int) + 7) / 8) a).1 with ws := txW s (askA 1 (1 + ((s.size : Int) + 7) / 8) a).2.1 (setW (askA 1 (1 + ((s.size : Int) + 7) / 8) a).1.ws ((askA 1 (1 + ((s.size : Int) + 7) / 8) a).2.1 + 1) s.size) s.size, rs := (askA 1 (1 + ((s.size : Int) + 7) / 8) a).1.rs.set i.toNat (3, (askA 1 (1 + ((s.size : Int) + 7) / 8) a).2.1) }, (askA 1 (1 + ((s.size : Int) + 7) / 8) a).2.2)
 else ((askA 1 (1 + ((s.size : Int) + 7) / 8) a).1, (askA 1 (1 + ((s.size : Int) + 7) / 8) a).2.2)
theorem pt_size {s : ByteArray} (h : s.size ≤ 160) : sizeB 1 (1 + ((s.size : Int) + 7) / 8) = true := by
 unfold sizeB
 rw [if_pos rfl, decide_eq_true_eq]
 omega
theorem pt_wrap {s : ByteArray} (h : s.size ≤ 160) : IntKind.i64.wrap (1 + IntKind.i64.wrap (Int.tdiv (IntKind.i64.wrap ((s.size : Int) + 7)) 8)) = 1 + ((s.size : Int) + 7) / 8 := by
 rw [w64 (x := (s.size : Int) + 7) (by omega) (by omega), Int.tdiv_eq_ediv_of_nonneg (by omega), w64 (x := ((s.size : Int) + 7) / 8) (by omega) (by omega), w64 (by omega) (by omega)]
theorem byte_at {s : ByteArray} {i : Nat} (h : i < s.size) : s[Int.toNat (i : Int)]? = some (s[i]?.getD 0) := by
 rw [Int.toNat_natCast, getElem?_pos s i h]
 rfl
theorem pt_loopS (t : Tab) {Q : Value → Mem → Prop} {g g3 : Nat} {s r : Sl} {D : List Nat} {m0 : Mem} {tx : ByteArray} {b : Ar} {p into : Int} (z1 : m0 g = none) (z3 : m0 g3 = none) (d3 : g3 ∉ D) (hn : tx.size ≤ 160) (p0 : 0 ≤ p) (p1 : p + 2 + ((tx.size : Int) + 7) / 8 ≤ b.ws.length) (p2 : b.ws.length ≤ 8000) (i0 : 0 ≤ into) (i1 : into < b.rs.length)
  (hK : ∀ m', (∀ q, q ∉ D → m' q = m0 q) → Wo m' s r { b with ws := txW tx p b.ws tx.size, rs := b.rs.set into.toNat (3, p) } D → Q (.tuple #[vA s r { b with ws := txW tx p b.ws tx.size, rs := b.rs.set into.toNat (3, p) }, .int .i64 0]) m') :
  ∀ (d i : Nat), i + d = tx.size → ∀ M, Off D m0 M → M g3 = some (.cells zAr 27 (0, 0)) → Im M g s r { b with ws := txW tx p b.ws i } D → L137_6 (look t) (d + 1) Q tx into g3 g p (i : Int) M := by
 intro d
 induction d with
 | zero =>
  intro i hi M hO h3 im
  rw [l137_6]
  refine ⟨M, Mem.le_refl _, ?_⟩
  rw [if_neg (by simp; omega)]
  have ei : i = tx.size := by omega
  subst ei
  refine ⟨_, _, _, cO im.p 9, im.put_r (v := (3, p)) i0 i1 fun m1 o1 im1 => ?_⟩
  exact (stT_ok im1 ((o1 g3 d3).trans h3) z3 d3 (hO.trans (Off.of_eq o1)) hK : stT Q g g3 0 m1)
 | succ d ih =>
  intro i hi M hO h3 im
  have hlt : i < tx.size := by omega
  have hAt := im.w.at
  obtain ⟨e1, e2⟩ := byte_idx (x := i) (p := p) (by omega) p0 (by omega)
  have hl : (txW tx p b.ws i).length = b.ws.length := txW_len _ _ _ _
  have hnn : (txW tx p b.ws i).length = s.n := hAt.n
  rw [l137_6]
  refine ⟨M, Mem.le_refl _, ?_⟩
  rw [if_pos (by simp; omega), e1, e2, u64w (x := ((8 * (i % 8) : Nat) : Int)) (by omega) (by omega), wsucc (n := i + 1) (by omega) (by omega)]
  refine ⟨Mem.le M, Mem.le_refl _, _, _, _, held (cO im.p 0), by decide, _, _, _, held (cO im.p 0), by decide, ?_⟩
  refine wd hAt.w hAt.n (by omega) (by omega) fun ad had hd => ⟨_, hd, by omega, _, byte_at hlt, by decide, by omega, ?_⟩
  refine im.put_w (by omega) (by show _ < ((txW tx p b.ws i).length : Int); omega) fun m1 o1 im1 => ?_
  exact ih (i + 1) (by omega) m1 (hO.trans (Off.of_eq o1)) ((o1 g3 d3).trans h3) im1
def s137 : Spec := fun args m Q => ∃ (s r : Sl) (a : Ar) (D : List Nat) (tx : ByteArray) (i : Int), args = [vA s r a, .string tx, .int .i64 i] ∧ Wo m s r a D ∧ OkC a ∧ tx.size ≤ 160 ∧ (0 ≤ i ∧ i < a.rs.length) ∧
 ∀ m', (∀ b, b ∉ D → m' b = m b) → Wo m' s r (ptR a tx i).1 D → Q (.tuple #[vA s r (ptR a tx i).1, .int .i64 (ptR a tx i).2]) m'
theorem f137 (t : Tab) (h146 : look t 146 = s146) : Mt t s137 kp137 Tryz.f137 := by
 rintro args m Q ⟨s, r, a, D, tx, i, rfl, hW, hG, hn, ⟨i0, i1⟩, hQ⟩
 show FA _ _ _ _ [aG s r a, .string tx, .int .i64 i] m Q
 rw [e137]
 have hsz := pt_size hn
 obtain ⟨k1, k2, k3, k4⟩ := ask_ok hG hsz
 refine newA_intro fun g1 m1 hg1 e1 hb1 hle1 => newA_intro fun g3 m2 hg3 e2 hb3 hle2 => ?_
 have l2 := Mem.le_trans hle1 hle2
 have p1 : m2 g1 = some (.cells (cA s r a) 27 (0, 0)) := hle2 _ _ hb1
 have im := hW.loc hg1 p1 l2
 have z3 := le_none hle1 hg3
 have d3 := hW.fresh z3
 refine ⟨_, _, _, cO im.p 0, _, cO im.p 1, _, cO im.p 2, _, cO im.p 3, _, cO im.p 4, _, cO im.p 5, _, cO im.p 6, _, cO im.p 7, _, cO im.p 8, _, _, _, cO im.p 9, by decide, ?_⟩
 rw [pt_wrap hn]
 refine via h146 ⟨s, r, a, D, 1, _, rfl, im.w, hG, hsz, fun m3 o3 w3 => ⟨_, _, _, _, _, _, _, _, _, _, _, _, _, _, _, _, rfl, ?_⟩⟩
 unfold ptR at hQ
 generalize askA 1 (1 + ((tx.size : Int) + 7) / 8) a = q at *
 obtain ⟨b, p, c⟩ := q
 simp only at k1 k2 k4 hQ w3 ⊢
 obtain ⟨wa, wn, wc⟩ := s
 obtain ⟨ra, rn, rc⟩ := r
 refine newA_intro fun g5 m4 hg5 e4 hb5 hle4 => ?_
 refine sto_ar hb5 fun m5 e5 q5 ne5 => ?_
 have p5 : Ptr m5 g5 ⟨wa, wn, wc⟩ ⟨ra, rn, rc⟩ b := q5
 have l5 : Mem.le m3 m5 := le_other hle4 hg5 ne5
 have im5 : Im m5 g5 ⟨wa, wn, wc⟩ ⟨ra, rn, rc⟩ b D := ⟨p5, w3.le l5, w3.fresh hg5⟩
 have O3 : Off D m m3 := (Off.of_le l2).trans (Off.of_eq o3)
 have h35 := l5 _ _ ((o3 g3 d3).trans hb3)
 have O5 : Off D m m5 := O3.trans (Off.of_le l5)
 have z5 : m g5 = none := O3.none hg5 (w3.fresh hg5)
 by_cases hc : c = 0
 ·rw [if_neg (by rw [hc]; decide)]
  rw [if_pos hc] at hQ
  subst hc
  obtain ⟨q0, q1⟩ := k4 rfl
  refine ⟨_, _, _, cO p5 0, ?_⟩
  rw [w64 (x := p + 1) (by omega) (by omega), u64w (x := (tx.size : Int)) (by omega) (by omega)]
  refine im5.put_w (by omega) (by omega) fun m6 o6 im6 => ⟨tx.size + 1, ?_⟩
  exact pt_loopS t (b := { b with ws := setW b.ws (p + 1) tx.size }) z5 z3 d3 hn (by omega) (by show p + 2 + _ ≤ ((setW b.ws _ _).length : Int); rw [setW_len]; omega) (by show (setW b.ws _ _).length ≤ _; rw [setW_len]; omega) i0 (by show i < (b.rs.length : Int); omega) hQ tx.size 0 (by omega) m6 (O5.trans (Off.of_eq o6)) ((o6 g3 d3).trans h35) im6
 ·rw [if_pos (by simpa using hc)]
  rw [if_neg hc] at hQ
  exact (stT_ok im5 h35 z3 d3 O5 hQ : stT Q g5 g3 c m5)
open Classical in
noncomputable def ptA (a : Ar) (s : ByteArray) (i : Int) : Ar × Int := if okP a ∧ (0 ≤ i ∧ i < a.rs.length) ∧ s.size ≤ 160 then ptR a s i else (a, 1)
def ptB (call : FuncId → Spec) (Q : Value → Mem → Prop) (g1 g3 : Nat) (m30 : Mem) : Prop :=
 (rA m30 g1 fun w0 => (call 108 [(.agg w0.toArray)] m30 fun v56 m57 => (wA v56 fun w2 => (stoA m57 ⟨g3, 0, none⟩ w2 fun m72 => (rA m72 g3 fun w1 => ret Q (.tuple #[(.agg w1.toArray), (.int .i64 (1 : Int))]) m72)))))
theorem ptB_ok (t : Tab) (h108 : look t 108 = s108) {Q : Value → Mem → Prop} {g1 g3 : Nat} {s r : Sl} {a : Ar} {M m : Mem} (p : Ptr M g1 s r a) (hA : ArAt M s r a) (hw : a.wf) (h3 : M g3 = some (.cells zAr 27 (0, 0))) (z3 : m g3 = none) (hl : Mem.le m M) (hQ : ncK m (a, 1) Q) : ptB (look t) Q g1 g3 M := by
 unfold ptB
 refine ⟨_, _, _, cO p 0, _, cO p 1, _, cO p 2, _, cO p 3, _, cO p 4, _, cO p 5, _, cO p 6, _, cO p 7, _, cO p 8, _, _, _, cO p 9, via h108 ⟨s, r, a, rfl, hA, hw, fun s' r' D m3 l3 w3 f3 => ⟨_, _, _, _, _, _, _, _, _, _, _, _, _, _, rfl, ?_⟩⟩⟩
 obtain ⟨wa, wn, wc⟩ := s'
 obtain ⟨ra, rn, rc⟩ := r'
 have d3 : g3 ∉ D := fun h => by have := f3 g3 h; rw [h3] at this; cases this
 refine sto_ar (l3 _ _ h3) fun m4 e4 q4 ne4 => ?_
 have p4 : Ptr m4 g3 ⟨wa, wn, wc⟩ ⟨ra, rn, rc⟩ a := q4
 refine ⟨_, _, _, cO p4 0, _, cO p4 1, _, cO p4 2, _, cO p4 3, _, cO p4 4, _, cO p4 5, _, cO p4 6, _, cO p4 7, _, cO p4 8, _, _, _, cO p4 9, ?_⟩
 exact ret_intro (Mem.le_refl _) (hQ _ _ D m4 (le_other (Mem.le_trans hl l3) z3 ne4) (w3.ext fun q hq => ne4 q fun e => d3 (e ▸ hq)) fun b hb => le_none hl (f3 b hb))
def s53 : Spec := fun args m Q => ∃ (s r : Sl) (a : Ar) (tx : ByteArray) (i : Int), args = [vA s r a, .string tx, .int .i64 i] ∧ ArAt m s r a ∧ a.wf ∧ ncK m (ptA a tx i) Q
theorem f53 (t : Tab) (h108 : look t 108 = s108) (h20 : look t 20 = s20) (h136 : look t 136 = s136) (h137 : look t 137 = s137) : Mt t s53 kp53 Tryz.f53 := by
 rintro args m Q ⟨s, r, a, tx, i, rfl, hA, hw, hQ⟩
 show FA _ _ _ _ [aG s r a, .string tx, .int .i64 i] m Q
 rw [e53]
 refine newA_intro fun g1 m1 hg1 e1 hb1 hle1 => newA_intro fun g3 m2 hg3 e2 hb3 hle2 => ?_
 have l2 := Mem.le_trans hle1 hle2
 have p1 : Ptr m2 g1 s r a := hle2 _ _ hb1
 have z3 := le_none hle1 hg3
 have hA2 := hA.le l2
 have bad : ptA a tx i = (a, 1) → ptB (look t) Q g1 g3 m2 := fun e => by
  rw [e] at hQ
  exact ptB_ok t h108 p1 hA2 hw hb3 z3 l2 hQ
 refine ⟨_, _, _, cO p1 0, _, cO p1 1, _, cO p1 2, _, cO p1 3, _, cO p1 4, _, cO p1 5, _, cO p1 6, _, cO p1 7, _, cO p1 8, _, _, _, cO p1 9, via h20 ⟨s, r, a, rfl, hA2, hw, _, rfl, ?_⟩⟩
 by_cases hk : okP a
 ·rw [pB_yes hk, if_neg (by decide)]
  refine ⟨_, _, _, cO p1 0, _, cO p1 1, _, cO p1 2, _, cO p1 3, _, cO p1 4, _, cO p1 5, _, cO p1 6, _, cO p1 7, _, cO p1 8, _, _, _, cO p1 9, via h136 ⟨s, r, a, i, rfl, hA2, hw, _, rfl, ?_⟩⟩
  by_cases hi : 0 ≤ i ∧ i < a.rs.length
  ·rw [decide_eq_true hi, if_neg (by decide)]
   by_cases hn : tx.size ≤ 160
   ·rw [if_neg (by simp; omega)]
    have eA : ptA a tx i = ptR a tx i := if_pos ⟨hk, hi, hn⟩
    rw [eA] at hQ
    refine ⟨_, _, _, cO p1 0, _, cO p1 1, _, cO p1 2, _, cO p1 3, _, cO p1 4, _, cO p1 5, _, cO p1 6, _, cO p1 7, _, cO p1 8, _, _, _, cO p1 9, via h108 ⟨s, r, a, rfl, hA2, hw, fun s' r' D m3 l3 w3 f3 => ⟨_, _, _, _, _, _, _, _, _, _, _, _, _, _, rfl, ?_⟩⟩⟩
    have d3 : g3 ∉ D := fun h => by have := f3 g3 h; rw [hb3] at this; cases this
    refine via h137 ⟨s', r', a, D, tx, i, rfl, w3, okC_of hw hk, hn, hi, fun m4 o4 w4 => ⟨_, _, _, _, _, _, _, _, _, _, _, _, _, _, _, rfl, ?_⟩⟩
    obtain ⟨wa, wn, wc⟩ := s'
    obtain ⟨ra, rn, rc⟩ := r'
    have hD : ∀ b ∈ D, m b = none := fun b hb => le_none l2 (f3 b hb)
    refine sto_ar ((o4 g3 d3).trans (l3 _ _ hb3)) fun m5 e5 q5 ne5 => ?_
    have p5 : Ptr m5 g3 ⟨wa, wn, wc⟩ ⟨ra, rn, rc⟩ (ptR a tx i).1 := q5
    refine ⟨_, _, _, cO p5 0, _, cO p5 1, _, cO p5 2, _, cO p5 3, _, cO p5 4, _, cO p5 5, _, cO p5 6, _, cO p5 7, _, cO p5 8, _, _, _, cO p5 9, ?_⟩
    refine ret_intro (Mem.le_refl _) (hQ _ _ D m5 (fun b o ho => ?_) (w4.ext fun q hq => ne5 q fun e => d3 (e ▸ hq)) hD)
    rw [ne5 b (fun e => by rw [e, z3] at ho; cases ho), o4 b fun hb => by rw [hD b hb] at ho; cases ho]
    exact l3 _ _ (l2 _ _ ho)
   ·rw [if_pos (by simp; omega)]
    exact bad (if_neg fun h => hn h.2.2)
  ·rw [decide_eq_false hi, if_pos (by decide)]
   exact bad (if_neg fun h => hi h.2.1)
 ·rw [pB_no hk, if_pos (by decide)]
  exact bad (if_neg fun h => hk h.1)
theorem liH {m : Mem} {a : Option Addr} {l : List Int} {i : Int} {n : Nat} {K : Addr → Prop} (h : Rd m a l) (hn : l.length = n) (h0 : 0 ≤ i) (hi : i < n)
  (hK : ∀ ad, a = some ad → (∀ q : Mem, Rd q a l → q.cell? (ad.add (i.toNat * 1)) = some (.int .i64 (l.getD i.toNat 0))) → K ad) : optA a fun ad => 0 ≤ i ∧ i < (n : Int) ∧ K ad := by
 refine at1 (0 : Int) (fun y : Int => .int .i64 y) (fun _ => rfl) h hn h0 hi fun ad had _ => hK ad had fun q hq => ?_
 have := at1 (K := fun ad => q.cell? (ad.add (i.toNat * 1)) = some (.int .i64 (l.getD i.toNat 0))) (0 : Int) (fun y : Int => .int .i64 y) (fun _ => rfl) hq hn h0 hi fun ad _ c => c q (Mem.le_refl q)
 rw [had] at this
 exact this.2.2
def fnW (cs : List Int) (p : Int) : Nat → Ar → Ar
 | 0, b => b
 | i + 1, b => putV (fnW cs p i b) (p + 2 + 2 * (i : Int)) (b.rs.getD (cs.getD i 0).toNat (0, 0))
theorem fnW_rs (cs : List Int) (p : Int) (b : Ar) : ∀ i : Nat, (fnW cs p i b).rs = b.rs
 | 0 => rfl
 | i + 1 => fnW_rs cs p b i
theorem fnW_len (cs : List Int) (p : Int) (b : Ar) : ∀ i : Nat, (fnW cs p i b).ws.length = b.ws.length
 | 0 => rfl
 | i + 1 => by
  show (setW (setW _ _ _) _ _).length = _
  rw [setW_len, setW_len]
  exact fnW_len cs p b i
def nfR (a : Ar) (pr : Int) (cs : List Int) (i : Int) : Ar × Int :=
 if (askA 4 (1 + 2 * (cs.length : Int)) a).2.2 = 0 then
  ({ fnW cs (askA 4 (1 + 2 * (cs.length : Int)) a).2.1 cs.length { (askA 4 (1 + 2 * (cs.length : Int)) a).1 with ws := setW (askA 4 (1 + 2 * (cs.length : Int)) a).1.ws ((askA 4 (1 + 2 * (cs.length : Int)) a).2.1 + 1) (uW pr) } with rs := (askA 4 (1 + 2 * (cs.length : Int)) a).1.rs.set i.toNat (5, (askA 4 (1 + 2 * (cs.length : Int)) a).2.1) }, (askA 4 (1 + 2 * (cs.length : Int)) a).2.2)
 else ((askA 4 (1 + 2 * (cs.length : Int)) a).1, (askA 4 (1 + 2 * (cs.length : Int)) a).2.2)
def cellOk (a : Ar) (c : Int) : Prop := (0 ≤ c ∧ c < a.rs.length) ∧ (a.rs.getD c.toNat (0, 0)).1 = 9
def nfP (a : Ar) (pr : Int) (cs : List Int) (i : Int) : Prop := okP a ∧ (0 ≤ i ∧ i < a.rs.length) ∧ (0 ≤ pr ∧ pr ≤ 255) ∧ cs.length ≤ 12 ∧ a.ser < 1000000000 ∧ ∀ c ∈ cs, cellOk a c
open Classical in
noncomputable def nfA (a : Ar) (pr : Int) (cs : List Int) (i : Int) : Ar × Int := if nfP a pr cs i then nfR a pr cs i else (a, 1)
theorem nf_size {n : Nat} (h : n ≤ 12) : sizeB 4 (1 + 2 * (n : Int)) = true := by
 unfold sizeB
 rw [if_neg (by decide), if_neg (by decide), if_neg (by decide), if_pos rfl, decide_eq_true_eq]
 omega
theorem cs_get {cs : List Int} {i : Nat} (h : i < cs.length) : cs.getD ((i : Int)).toNat 0 = cs.getD i 0 ∧ cs.getD i 0 ∈ cs := by
 rw [Int.toNat_natCast]
 refine ⟨rfl, ?_⟩
 rw [List.getD_eq_getElem?_getD, List.getElem?_eq_getElem h]
 exact List.getElem_mem h
def s62 : Spec := fun args m Q => ∃ (s r l : Sl) (a : Ar) (pr : Int) (cs : List Int) (i : Int), args = [vA s r a, .int .i64 pr, vs l, .int .i64 i] ∧ ArAt m s r a ∧ a.wf ∧ l.n = cs.length ∧ Rd m l.a cs ∧ cs.length ≤ 2 ^ 20 ∧ ncK m (nfA a pr cs i) Q
theorem nf_loopS (t : Tab) (h147 : look t 147 = s147) {Q : Value → Mem → Prop} {g g3 lc : Nat} {la : Option Addr} {s r : Sl} {D : List Nat} {m : Mem} {b2 : Ar} {p into : Int} {cs : List Int} (z1 : m g = none) (z3 : m g3 = none) (d3 : g3 ∉ D) (n31 : g3 ≠ g) (hD : ∀ b ∈ D, m b = none) (hR : Rd m la cs) (hcs : ∀ c ∈ cs, 0 ≤ c ∧ c < b2.rs.length) (hn : cs.length ≤ 12) (p0 : 0 ≤ p) (p1 : p + 2 + 2 * (cs.length : Int) ≤ b2.ws.length) (p2 : b2.ws.length ≤ 8000) (i0 : 0 ≤ into) (i1 : into < b2.rs.length)
  (hQ : ncK m ({ fnW cs p cs.length b2 with rs := b2.rs.set into.toNat (5, p) }, 0) Q) :
  ∀ (d j : Nat), j + d = cs.length → ∀ M, Off D m M → M g3 = some (.cells zAr 27 (0, 0)) → Im M g s r (fnW cs p j b2) D → L62_14 (look t) (d + 1) Q la cs.length lc into g3 g p (j : Int) M := by
 have leO : ∀ M, Off D m M → Mem.le m M := fun M hO b o ho => hO b o (fun hb => by rw [hD b hb] at ho; cases ho) ho
 intro d
 induction d with
 | zero =>
  intro j hj M hO h3 im
  rw [l62_14]
  refine ⟨M, Mem.le_refl _, ?_⟩
  rw [if_neg (by simp; omega)]
  have ej : j = cs.length := by omega
  subst ej
  refine ⟨_, _, _, cO im.p 9, im.put_r (v := (5, p)) i0 (by rw [fnW_rs]; exact i1) fun m1 o1 im1 => ?_⟩
  rw [fnW_rs] at im1
  exact (ret_nc im1 ((o1 g3 d3).trans h3) z3 d3 (hO.trans (Off.of_eq o1)) hD hQ : stT Q g g3 0 m1)
 | succ d ih =>
  intro j hj M hO h3 im
  have hlt : j < cs.length := by omega
  obtain ⟨ec, hm⟩ := cs_get hlt
  have hb := hcs _ hm
  have hAt := im.w.at
  have hk := hAt.k
  have hl := fnW_len cs p b2 j
  have hrs := fnW_rs cs p b2 j
  rw [l62_14]
  refine ⟨M, Mem.le_refl _, ?_⟩
  rw [if_pos (by simp; omega)]
  refine ⟨fun q => q g = M g ∧ Rd q r.a (fnW cs p j b2).rs ∧ Mem.le m q, ⟨rfl, hAt.r, leO M hO⟩, _, _, _, fun q hq => cO (hq.1.trans im.p) 0, _, fun q hq => cO (hq.1.trans im.p) 1, _, fun q hq => cO (hq.1.trans im.p) 2, _, fun q hq => cO (hq.1.trans im.p) 3, _, fun q hq => cO (hq.1.trans im.p) 4, _, fun q hq => cO (hq.1.trans im.p) 5, _, fun q hq => cO (hq.1.trans im.p) 6, _, fun q hq => cO (hq.1.trans im.p) 7, _, fun q hq => cO (hq.1.trans im.p) 8, _, _, _, fun q hq => cO (hq.1.trans im.p) 9, _, _, _, fun q hq => cO (hq.1.trans im.p) 9, ?_⟩
  refine liH (hR.le (leO M hO)) rfl (by omega) (by omega) fun ad had hd => ⟨_, fun q hq => hd q (hR.le hq.2.2), ?_⟩
  rw [ec]
  refine rgetH hAt.r hk hb.1 (by rw [hrs] at hk; omega) fun ad had c1 c2 => ⟨_, fun q hq => c1 q hq.2.1, _, fun q hq => c2 q hq.2.1, ?_⟩
  rw [w64 (x := p + 2) (by omega) (by omega), w64 (x := 2 * (j : Int)) (by omega) (by omega), w64 (x := p + 2 + 2 * (j : Int)) (by omega) (by omega), wsucc (n := j + 1) (by omega) (by omega)]
  refine via h147 ⟨s, r, _, D, _, ((fnW cs p j b2).rs.getD (cs.getD j 0).toNat (0, 0)), rfl, im.w, by omega, by omega, by omega, fun m1 o1 w1 => ⟨_, _, _, _, _, _, _, _, _, _, _, _, _, _, rfl, ⟨o1 g im.g, w1.at.r, leO m1 (hO.trans (Off.of_eq o1))⟩, ?_⟩⟩
  have q1 : Ptr m1 g s r (fnW cs p j b2) := (o1 g im.g).trans im.p
  refine put_all q1 w1 im.g fun m2 o2 im2 => ?_
  refine ih (j + 1) (by omega) m2 ((hO.trans (Off.of_eq o1)).fresh z1 o2) ?_ ?_
  ·rw [o2 g3 n31, o1 g3 d3]; exact h3
  ·rw [fnW_rs] at im2
   exact im2
theorem f62 (t : Tab) (h108 : look t 108 = s108) (h20 : look t 20 = s20) (h136 : look t 136 = s136) (h103 : look t 103 = s103) (h146 : look t 146 = s146) (h147 : look t 147 = s147) : Mt t s62 kp62 Tryz.f62 := by
 rintro args m Q ⟨s, r, ⟨la, ln, lc⟩, a, pr, cs, i, rfl, hA, hw, hln, hR, hcl, hQ⟩
 have hln : ln = cs.length := hln
 have hR : Rd m la cs := hR
 subst hln
 show FA _ _ _ _ [aG s r a, .int .i64 pr, .slice la cs.length lc, .int .i64 i] m Q
 rw [e62]
 refine newA_intro fun g1 m1 hg1 e1 hb1 hle1 => newA_intro fun g3 m2 hg3 e2 hb3 hle2 => ?_
 have l2 := Mem.le_trans hle1 hle2
 have p1 : Ptr m2 g1 s r a := hle2 _ _ hb1
 have z3 := le_none hle1 hg3
 refine ⟨_, _, _, cO p1 0, _, cO p1 1, _, cO p1 2, _, cO p1 3, _, cO p1 4, _, cO p1 5, _, cO p1 6, _, cO p1 7, _, cO p1 8, _, _, _, cO p1 9, via h108 ⟨s, r, a, rfl, hA.le l2, hw, fun s' r' D m3 l3 w3 f3 => ⟨_, _, _, _, _, _, _, _, _, _, _, _, _, _, rfl, ?_⟩⟩⟩
 have hD : ∀ b ∈ D, m b = none := fun b hb => le_none l2 (f3 b hb)
 have d3 : g3 ∉ D := fun h => by have := f3 g3 h; rw [hb3] at this; cases this
 refine newA_intro fun g5 m4 hg5 e4 hb5 hle4 => ?_
 obtain ⟨wa, wn, wc⟩ := s'
 obtain ⟨ra, rn, rc⟩ := r'
 refine sto_ar hb5 fun m5 e5 q5 ne5 => ?_
 have p5 : Ptr m5 g5 ⟨wa, wn, wc⟩ ⟨ra, rn, rc⟩ a := q5
 have l5 : Mem.le m3 m5 := le_other hle4 hg5 ne5
 have im5 : Im m5 g5 ⟨wa, wn, wc⟩ ⟨ra, rn, rc⟩ a D := ⟨p5, w3.le l5, w3.fresh hg5⟩
 have L5 := Mem.le_trans (Mem.le_trans l2 l3) l5
 have p15 : Ptr m5 g1 s r a := l5 _ _ (l3 _ _ p1)
 have h35 := l5 _ _ (l3 _ _ hb3)
 have hA5 := hA.le L5
 have hk5 := hA5.k
 have bad : ¬ nfP a pr cs i → stT Q g5 g3 1 m5 := fun h => by
  have eA : nfA a pr cs i = (a, 1) := if_neg h
  rw [eA] at hQ
  exact ret_nc im5 h35 z3 d3 (Off.of_le L5) hD hQ
 have badL : ∀ (d j : Nat), ¬ nfP a pr cs i → L62_4 (look t) (d + 1) Q pr la cs.length lc i g1 g3 g5 false (j : Int) m5 := fun d j h => by
  rw [l62_4]
  refine ⟨m5, Mem.le_refl _, ?_⟩
  by_cases c : (j : Int) < cs.length
  ·rw [if_pos (by simpa using c), if_neg (by decide), if_pos (by decide)]
   exact bad h
  ·rw [if_neg (by simpa using c), if_pos (by decide)]
   exact bad h
 refine ⟨_, _, _, cO p15 0, _, cO p15 1, _, cO p15 2, _, cO p15 3, _, cO p15 4, _, cO p15 5, _, cO p15 6, _, cO p15 7, _, cO p15 8, _, _, _, cO p15 9, via h20 ⟨s, r, a, rfl, hA5, hw, _, rfl, ?_⟩⟩
 by_cases hk : okP a
 case neg => rw [pB_no hk, if_neg (by decide)]; exact ⟨1, badL 0 0 fun h => hk h.1⟩
 rw [pB_yes hk, if_pos rfl]
 refine ⟨_, _, _, cO p15 0, _, cO p15 1, _, cO p15 2, _, cO p15 3, _, cO p15 4, _, cO p15 5, _, cO p15 6, _, cO p15 7, _, cO p15 8, _, _, _, cO p15 9, via h136 ⟨s, r, a, i, rfl, hA5, hw, _, rfl, ?_⟩⟩
 by_cases hi : 0 ≤ i ∧ i < a.rs.length
 case neg => rw [decide_eq_false hi, if_neg (by decide)]; exact ⟨1, badL 0 0 fun h => hi h.2.1⟩
 rw [decide_eq_true hi, if_pos rfl]
 refine via h103 ⟨_, _, _, rfl, _, rfl, ?_⟩
 by_cases hp : 0 ≤ pr ∧ pr ≤ 255
 case neg => rw [decide_eq_false hp, if_neg (by decide)]; exact ⟨1, badL 0 0 fun h => hp h.2.2.1⟩
 rw [decide_eq_true hp, if_pos rfl]
 by_cases hn : cs.length ≤ 12
 case neg => rw [if_neg (by simp; omega)]; exact ⟨1, badL 0 0 fun h => hn h.2.2.2.1⟩
 rw [if_pos (by simp; omega)]
 refine ⟨_, cO p15 8, cs.length + 1, ?_⟩
 by_cases hs : a.ser < 1000000000
 case neg => rw [decide_eq_false hs]; exact badL cs.length 0 fun h => hs h.2.2.2.2.1
 rw [decide_eq_true hs]
 suffices key : ∀ (d j : Nat), j + d = cs.length → (∀ j' : Nat, j' < j → cellOk a (cs.getD j' 0)) → L62_4 (look t) (d + 1) Q pr la cs.length lc i g1 g3 g5 true (j : Int) m5 from key cs.length 0 (by omega) fun _ h => by omega
 intro d
 induction d with
 | zero =>
  intro j hj hall
  rw [l62_4]
  refine ⟨m5, Mem.le_refl _, ?_⟩
  rw [if_neg (by simp; omega), if_neg (by decide)]
  have hcs : ∀ c ∈ cs, cellOk a c := fun c hc => by
   obtain ⟨x, hx, e⟩ := List.mem_iff_getElem.1 hc
   have := hall x (by omega)
   rw [List.getD_eq_getElem?_getD, List.getElem?_eq_getElem hx] at this
   rw [← e]
   exact this
  have eA : nfA a pr cs i = nfR a pr cs i := if_pos ⟨hk, hi, hp, hn, hs, hcs⟩
  rw [eA] at hQ
  have hG := okC_of hw hk
  have hsz := nf_size hn
  obtain ⟨k1, k2, k3, k4⟩ := ask_ok hG hsz
  refine ⟨_, _, _, cO p5 0, _, cO p5 1, _, cO p5 2, _, cO p5 3, _, cO p5 4, _, cO p5 5, _, cO p5 6, _, cO p5 7, _, cO p5 8, _, _, _, cO p5 9, ?_⟩
  rw [w64 (x := 2 * (cs.length : Int)) (by omega) (by omega), w64 (x := 1 + 2 * (cs.length : Int)) (by omega) (by omega)]
  refine via h146 ⟨⟨wa, wn, wc⟩, ⟨ra, rn, rc⟩, a, D, 4, _, rfl, im5.w, hG, hsz, fun m6 o6 w6 => ⟨_, _, _, _, _, _, _, _, _, _, _, _, _, _, _, _, rfl, ?_⟩⟩
  unfold nfR at hQ
  generalize askA 4 (1 + 2 * (cs.length : Int)) a = q at *
  obtain ⟨b, p, c⟩ := q
  simp only at k1 k2 k4 hQ w6 ⊢
  refine newA_intro fun g7 m7 hg7 e7 hb7 hle7 => ?_
  refine sto_ar hb7 fun m8 e8 q8 ne8 => ?_
  have p8 : Ptr m8 g7 ⟨wa, wn, wc⟩ ⟨ra, rn, rc⟩ b := q8
  have l8 : Mem.le m6 m8 := le_other hle7 hg7 ne8
  have im8 : Im m8 g7 ⟨wa, wn, wc⟩ ⟨ra, rn, rc⟩ b D := ⟨p8, w6.le l8, w6.fresh hg7⟩
  have h38 := l8 _ _ ((o6 g3 d3).trans h35)
  have O8 : Off D m m8 := ((Off.of_le L5).trans (Off.of_eq o6)).trans (Off.of_le l8)
  have n37 : g3 ≠ g7 := fun e => by have h1 := (o6 g3 d3).trans h35; rw [e, hg7] at h1; cases h1
  have z7 : m g7 = none := by
   cases e : m g7 with
   | none => rfl
   | some o => have := (o6 g7 (w6.fresh hg7)).trans (L5 _ _ e); rw [hg7] at this; cases this
  by_cases hc : c = 0
  ·rw [if_neg (by rw [hc]; decide)]
   rw [if_pos hc] at hQ
   subst hc
   obtain ⟨q0, q1⟩ := k4 rfl
   refine ⟨_, _, _, cO p8 0, ?_⟩
   rw [w64 (x := p + 1) (by omega) (by omega)]
   refine im8.put_w (by omega) (by omega) fun m9 o9 im9 => ⟨cs.length + 1, ?_⟩
   exact nf_loopS t h147 (b2 := { b with ws := setW b.ws (p + 1) (uW pr) }) z7 z3 d3 n37 hD hR (fun c hc => by have := (hcs c hc).1; show 0 ≤ c ∧ c < (b.rs.length : Int); omega) hn (by omega) (by show _ ≤ ((setW b.ws _ _).length : Int); rw [setW_len]; omega) (by show (setW b.ws _ _).length ≤ _; rw [setW_len]; omega) hi.1 (by show i < (b.rs.length : Int); omega) hQ cs.length 0 (by omega) m9 (O8.trans (Off.of_eq o9)) ((o9 g3 d3).trans h38) im9
  ·rw [if_pos (by simpa using hc)]
   rw [if_neg hc] at hQ
   exact (ret_nc im8 h38 z3 d3 O8 hD hQ : stT Q g7 g3 c m8)
 | succ d ih =>
  intro j hj hall
  have hlt : j < cs.length := by omega
  obtain ⟨ec, hm⟩ := cs_get hlt
  rw [l62_4]
  refine ⟨m5, Mem.le_refl _, ?_⟩
  rw [if_pos (by simp; omega), if_pos rfl]
  refine ⟨Mem.le m5, Mem.le_refl _, _, _, _, held (cO p15 0), _, held (cO p15 1), _, held (cO p15 2), _, held (cO p15 3), _, held (cO p15 4), _, held (cO p15 5), _, held (cO p15 6), _, held (cO p15 7), _, held (cO p15 8), _, _, _, held (cO p15 9), ?_⟩
  refine liH (hR.le L5) rfl (by omega) (by omega) fun ad had hd => ⟨_, fun q hq => hd q ((hR.le L5).le hq), ?_⟩
  rw [ec]
  refine via h136 ⟨s, r, a, _, rfl, hA5, hw, _, rfl, Mem.le_refl _, ?_⟩
  rw [wsucc (n := j + 1) (by omega) (by omega)]
  by_cases hr : 0 ≤ cs.getD j 0 ∧ cs.getD j 0 < a.rs.length
  case neg => rw [decide_eq_false hr, if_neg (by decide)]; exact badL d (j + 1) fun h => hr (h.2.2.2.2.2 _ hm).1
  rw [decide_eq_true hr, if_pos rfl]
  refine ⟨_, _, _, held (cO p15 9), ?_⟩
  refine liH (hR.le L5) rfl (by omega) (by omega) fun ad had hd => ⟨_, fun q hq => hd q ((hR.le L5).le hq), ?_⟩
  rw [ec]
  refine rgetH hA5.r hk5 hr.1 (by omega) fun ad had c1 c2 => ⟨_, fun q hq => c1 q (hA5.r.le hq), ?_⟩
  by_cases ht : (a.rs.getD (cs.getD j 0).toNat (0, 0)).1 = 9
  ·have eb : ((a.rs.getD (cs.getD j 0).toNat (0, 0)).1 == (9 : Int)) = true := by rw [ht]; rfl
   rw [eb]
   refine ih (j + 1) (by omega) fun j' hj' => ?_
   by_cases e : j' = j
   ·rw [e]; exact ⟨hr, ht⟩
   ·exact hall j' (by omega)
  ·have eb : ((a.rs.getD (cs.getD j 0).toNat (0, 0)).1 == (9 : Int)) = false := by simpa using ht
   rw [eb]
   exact badL d (j + 1) fun h => ht (h.2.2.2.2.2 _ hm).2
theorem root_text {a : Ar} (hw : a.wf) (h : okP a) {v : Vl} (hv : v ∈ a.rs) (h3 : v.1 = 3) : TextAt a v.2 := by
 obtain ⟨mk, h⟩ := h
 have hT := tile_ok hw h.N h.t
 obtain ⟨h1, h2, hl⟩ := h.r v hv
 have hr : isRefB v = true := by unfold isRefB kindT; rw [h3]; rfl
 have p := ref_pos h1 hr
 obtain ⟨l1, l2⟩ := frm_1 hl hr
 have g1 : gi mk v.2 = 1 := by
  rcases l2 with l | l
  ·exact l.1
  ·exact absurd rfl l.2
 obtain ⟨_, _, lk⟩ := leads_ok hl hr
 have := ok_fwd (gw_in hw.w v.2) (hT.h v.2 (by omega) l1 (.inl g1)).1
 have ew : whereW a.ws v.2 = v.2 := by unfold whereW; rw [this]; rfl
 rw [ew] at lk
 exact text_at hw hT h.o (by omega) l1 (.inl g1) (by rw [lk]; unfold kindT; rw [h3]; rfl)
def isT (a : Ar) (x : Int) : Prop := (0 ≤ x ∧ x < a.rs.length) ∧ (a.rs.getD x.toNat (0, 0)).1 = 3
def txA (a : Ar) (x : Int) : ByteArray := textS a.ws (a.rs.getD x.toNat (0, 0)).2
theorem isT.text {a : Ar} {x : Int} (h : isT a x) (hw : a.wf) (hk : okP a) : TextAt a (a.rs.getD x.toNat (0, 0)).2 := by
 refine root_text hw hk ?_ h.2
 have := h.1
 rw [List.getD_eq_getElem?_getD, List.getElem?_eq_getElem (by omega)]
 exact List.getElem_mem _
theorem isT.len {a : Ar} {x : Int} (h : isT a x) (hw : a.wf) (hk : okP a) : (txA a x).size ≤ 160 := by
 have := text_len (h.text hw hk)
 show (textL a.ws _).toArray.size ≤ 160
 simpa using this
def s141 : Spec := fun args m Q => ∃ (s r : Sl) (a : Ar) (x : Int), args = [vA s r a, .int .i64 x] ∧ ArAt m s r a ∧ a.wf ∧ Q (.bool (pB (isT a x))) m
theorem f141 (t : Tab) (h136 : look t 136 = s136) : Mt t s141 kp141 Tryz.f141 := by
 rintro args m Q ⟨s, r, a, x, rfl, hA, hw, hQ⟩
 show FA _ _ _ _ [aG s r a, .int .i64 x] m Q
 rw [e141]
 refine newA_intro fun g1 m2 hg1 e2 hb1 hle2 => ?_
 have p1 : Ptr m2 g1 s r a := hb1
 have hA2 := hA.le hle2
 refine ⟨_, _, _, cO p1 0, _, cO p1 1, _, cO p1 2, _, cO p1 3, _, cO p1 4, _, cO p1 5, _, cO p1 6, _, cO p1 7, _, cO p1 8, _, _, _, cO p1 9, via h136 ⟨s, r, a, x, rfl, hA2, hw, _, rfl, ?_⟩⟩
 by_cases hx : 0 ≤ x ∧ x < a.rs.length
 ·rw [decide_eq_true hx, if_pos rfl]
  have hk := hA2.k
  refine ⟨_, _, _, cO p1 9, rget hA2.r hk hx.1 (by omega) fun ad had c1 c2 => ⟨_, c1, ret_bool hle2 hQ ?_⟩⟩
  by_cases h3 : (a.rs.getD x.toNat (0, 0)).1 = 3
  ·rw [pB_yes ⟨hx, h3⟩, h3]; rfl
  ·rw [pB_no fun h => h3 h.2]
   simpa using h3
 ·rw [decide_eq_false hx, if_neg (by decide)]
  exact ret_bool hle2 hQ (pB_no fun h => hx h.1).symm
open Classical in
noncomputable def jtA (a : Ar) (x y i : Int) : Ar × Int := if okP a ∧ isT a x ∧ isT a y ∧ 0 ≤ i ∧ i < a.rs.length then ptA a (txA a x ++ txA a y) i else (a, 1)
def s58 : Spec := fun args m Q => ∃ (s r : Sl) (a : Ar) (x y i : Int), args = [vA s r a, .int .i64 x, .int .i64 y, .int .i64 i] ∧ ArAt m s r a ∧ a.wf ∧ ncK m (jtA a x y i) Q
theorem f58 (t : Tab) (h108 : look t 108 = s108) (h20 : look t 20 = s20) (h136 : look t 136 = s136) (h141 : look t 141 = s141) (h142 : look t 142 = s142) (h53 : look t 53 = s53) : Mt t s58 kp58 Tryz.f58 := by
 rintro args m Q ⟨s, r, a, x, y, i, rfl, hA, hw, hQ⟩
 show FA _ _ _ _ [aG s r a, .int .i64 x, .int .i64 y, .int .i64 i] m Q
 rw [e58]
 refine newA_intro fun g1 m1 hg1 e1 hb1 hle1 => newA_intro fun g3 m2 hg3 e2 hb3 hle2 => ?_
 have l2 := Mem.le_trans hle1 hle2
 have p1 : Ptr m2 g1 s r a := hle2 _ _ hb1
 have z3 := le_none hle1 hg3
 have hA2 := hA.le l2
 have hkk := hA2.k
 have bad : jtA a x y i = (a, 1) → ptB (look t) Q g1 g3 m2 := fun e => by
  rw [e] at hQ
  exact ptB_ok t h108 p1 hA2 hw hb3 z3 l2 hQ
 refine ⟨_, _, _, cO p1 0, _, cO p1 1, _, cO p1 2, _, cO p1 3, _, cO p1 4, _, cO p1 5, _, cO p1 6, _, cO p1 7, _, cO p1 8, _, _, _, cO p1 9, via h20 ⟨s, r, a, rfl, hA2, hw, _, rfl, ?_⟩⟩
 by_cases hk : okP a
 case neg => rw [pB_no hk, if_pos (by decide)]; exact bad (if_neg fun h => hk h.1)
 rw [pB_yes hk, if_neg (by decide)]
 refine ⟨_, _, _, cO p1 0, _, cO p1 1, _, cO p1 2, _, cO p1 3, _, cO p1 4, _, cO p1 5, _, cO p1 6, _, cO p1 7, _, cO p1 8, _, _, _, cO p1 9, via h141 ⟨s, r, a, x, rfl, hA2, hw, _, rfl, ?_⟩⟩
 by_cases hx : isT a x
 case neg => rw [pB_no hx, if_pos (by decide)]; exact bad (if_neg fun h => hx h.2.1)
 rw [pB_yes hx, if_neg (by decide)]
 refine ⟨_, _, _, cO p1 0, _, cO p1 1, _, cO p1 2, _, cO p1 3, _, cO p1 4, _, cO p1 5, _, cO p1 6, _, cO p1 7, _, cO p1 8, _, _, _, cO p1 9, via h141 ⟨s, r, a, y, rfl, hA2, hw, _, rfl, ?_⟩⟩
 by_cases hy : isT a y
 case neg => rw [pB_no hy, if_pos (by decide)]; exact bad (if_neg fun h => hy h.2.2.1)
 rw [pB_yes hy, if_neg (by decide)]
 refine ⟨_, _, _, cO p1 0, _, cO p1 1, _, cO p1 2, _, cO p1 3, _, cO p1 4, _, cO p1 5, _, cO p1 6, _, cO p1 7, _, cO p1 8, _, _, _, cO p1 9, via h136 ⟨s, r, a, i, rfl, hA2, hw, _, rfl, ?_⟩⟩
 by_cases hi : 0 ≤ i ∧ i < a.rs.length
 case neg => rw [decide_eq_false hi, if_pos (by decide)]; exact bad (if_neg fun h => hi h.2.2.2)
 rw [decide_eq_true hi, if_neg (by decide)]
 have eA : jtA a x y i = ptA a (txA a x ++ txA a y) i := if_pos ⟨hk, hx, hy, hi⟩
 rw [eA] at hQ
 have lx := hx.len hw hk
 have ly := hy.len hw hk
 have n13 : g1 ≠ g3 := ne_of_none hg3 hb1
 refine ⟨fun q => q g1 = m2 g1 ∧ Mem.le m q, ⟨rfl, l2⟩, _, _, _, fun q hq => cO (hq.1.trans p1) 0, _, fun q hq => cO (hq.1.trans p1) 1, _, fun q hq => cO (hq.1.trans p1) 2, _, fun q hq => cO (hq.1.trans p1) 3, _, fun q hq => cO (hq.1.trans p1) 4, _, fun q hq => cO (hq.1.trans p1) 5, _, fun q hq => cO (hq.1.trans p1) 6, _, fun q hq => cO (hq.1.trans p1) 7, _, fun q hq => cO (hq.1.trans p1) 8, _, _, _, fun q hq => cO (hq.1.trans p1) 9, _, _, _, fun q hq => cO (hq.1.trans p1) 0, _, fun q hq => cO (hq.1.trans p1) 1, _, fun q hq => cO (hq.1.trans p1) 2, _, fun q hq => cO (hq.1.trans p1) 3, _, fun q hq => cO (hq.1.trans p1) 4, _, fun q hq => cO (hq.1.trans p1) 5, _, fun q hq => cO (hq.1.trans p1) 6, _, fun q hq => cO (hq.1.trans p1) 7, _, fun q hq => cO (hq.1.trans p1) 8, _, _, _, fun q hq => cO (hq.1.trans p1) 9, _, _, _, fun q hq => cO (hq.1.trans p1) 9, ?_⟩
 refine rgetH hA2.r hkk hx.1.1 (by have := hx.1.2; omega) fun ad had c1 c2 => ⟨_, fun q hq => c2 q (hA.r.le hq.2), _, _, _, fun q hq => cO (hq.1.trans p1) 0, _, fun q hq => cO (hq.1.trans p1) 1, _, fun q hq => cO (hq.1.trans p1) 2, _, fun q hq => cO (hq.1.trans p1) 3, _, fun q hq => cO (hq.1.trans p1) 4, _, fun q hq => cO (hq.1.trans p1) 5, _, fun q hq => cO (hq.1.trans p1) 6, _, fun q hq => cO (hq.1.trans p1) 7, _, fun q hq => cO (hq.1.trans p1) 8, _, _, _, fun q hq => cO (hq.1.trans p1) 9, _, _, _, fun q hq => cO (hq.1.trans p1) 9, ?_⟩
 refine rgetH hA2.r hkk hy.1.1 (by have := hy.1.2; omega) fun ad had c1 c2 => ⟨_, fun q hq => c2 q (hA.r.le hq.2), ?_⟩
 refine via h142 ⟨s, r, a, _, rfl, hA2, hw, hx.text hw hk, _, rfl, ⟨rfl, l2⟩, ?_⟩
 refine via h142 ⟨s, r, a, _, rfl, hA2, hw, hy.text hw hk, _, rfl, ⟨rfl, l2⟩, ?_⟩
 refine ⟨by show (((txA a x).size + (txA a y).size : Nat) : Int) ≤ _; omega, ?_⟩
 refine via h53 ⟨s, r, a, txA a x ++ txA a y, i, rfl, hA2, hw, fun s' r' D m3 l3 w3 f3 => ⟨_, _, _, _, _, _, _, _, _, _, _, _, _, _, _, rfl, ⟨(l3 _ _ p1).trans p1.symm, Mem.le_trans l2 l3⟩, ?_⟩⟩
 have d3 : g3 ∉ D := fun h => by have := f3 g3 h; rw [hb3] at this; cases this
 obtain ⟨wa, wn, wc⟩ := s'
 obtain ⟨ra, rn, rc⟩ := r'
 refine sto_ar (l3 _ _ hb3) fun m4 e4 q4 ne4 => ?_
 have p4 : Ptr m4 g3 ⟨wa, wn, wc⟩ ⟨ra, rn, rc⟩ (ptA a (txA a x ++ txA a y) i).1 := q4
 have l4 : Mem.le m m4 := le_other (Mem.le_trans l2 l3) z3 ne4
 refine ⟨⟨(ne4 g1 n13).trans ((l3 _ _ p1).trans p1.symm), l4⟩, _, _, _, cO p4 0, _, cO p4 1, _, cO p4 2, _, cO p4 3, _, cO p4 4, _, cO p4 5, _, cO p4 6, _, cO p4 7, _, cO p4 8, _, _, _, cO p4 9, ?_⟩
 exact ret_intro (Mem.le_refl _) (hQ _ _ D m4 l4 (w3.ext fun q hq => ne4 q fun e => d3 (e ▸ hq)) fun b hb => le_none l2 (f3 b hb))
theorem setW_comm {ws : List U64} {i j x y : Int} (i0 : 0 ≤ i) (j0 : 0 ≤ j) (h : i ≠ j) : setW (setW ws i x) j y = setW (setW ws j y) i x := by
 unfold setW
 exact List.set_comm _ _ (by omega)
def rnW (p n t l : Int) (w : List U64) (k v : Vl) : List U64 := setW (setW (setW (layW p n w k v) (t + 1) (uW l)) (t + 2) (uW 8)) (t + 2 + 1) (uW p)
def s213 : Spec := fun args m Q => ∃ (s r : Sl) (a : Ar) (b i : Int), args = [vA s r a, .int .i64 b, .int .i64 i] ∧ ArAt m s r a ∧ a.wf ∧ 0 ≤ b ∧ 0 ≤ i ∧ b + 3 + 4 * i + 1 < a.ws.length ∧ Q (vVl (readV a.ws (b + 3 + 4 * i)).1) m
theorem f213 (t : Tab) (h112 : look t 112 = s112) : Mt t s213 kp213 Tryz.f213 := by
 intro args m Q hh
 obtain ⟨s, r, a, b, i, ha, hA, hw, b0, i0, hb, hQ⟩ := hh
 have hn := hw.n
 have ha : args = [aG s r a, .int .i64 b, .int .i64 i] := ha
 rw [ha, e213]
 refine newA_intro fun g1 m2 hg1 e2 hb1 hle2 => newA_intro fun g3 m4 hg3 e4 hb3 hle4 => ?_
 have h1 := hle4 _ _ hb1
 have l4 := Mem.le_trans hle2 hle4
 have w3 : IntKind.i64.wrap (IntKind.i64.wrap (b + 3) + IntKind.i64.wrap (4 * i)) = b + 3 + 4 * i := by rw [w64 (x := b + 3) (by omega) (by omega), w64 (x := 4 * i) (by omega) (by omega), w64 (by omega) (by omega)]
 refine ⟨_, _, _, cO h1 0, via h112 ⟨s, a.ws, b + 3 + 4 * i, by rw [w3]; rfl, hA.n, (hA.le l4).w, hw.w, hn, by omega, by omega, _, _, _, rfl, ?_⟩⟩
 refine newA_intro fun g5 m5 hg5 e5 hb5 hle5 => sto (c := #[.int .i64 0, .int .i64 0]) (t := 75) hb5 rfl (by simp) fun m6 e6 h6 hne6 => ?_
 have h6 : m6 g5 = some (.cells #[.int .i64 (readV a.ws (b + 3 + 4 * i)).1.1, .int .i64 (readV a.ws (b + 3 + 4 * i)).1.2] 75 (0, 0)) := h6
 have n35 : g3 ≠ g5 := ne_of_none hg5 hb3
 have l6 : Mem.le m4 m6 := le_other hle5 hg5 hne6
 refine ⟨_, cO h6 0, _, cO h6 1, sto (c := #[.int .i64 0, .int .i64 0]) (t := 75) (l6 _ _ hb3) rfl (by simp) fun m7 e7 h7 hne7 => ?_⟩
 have h7 : m7 g3 = some (.cells #[.int .i64 (readV a.ws (b + 3 + 4 * i)).1.1, .int .i64 (readV a.ws (b + 3 + 4 * i)).1.2] 75 (0, 0)) := h7
 exact ⟨_, cO h7 0, _, cO h7 1, ret_intro (le_other (Mem.le_trans l4 l6) (le_none hle2 hg3) hne7) hQ⟩
def s212 : Spec := fun args m Q => ∃ (s r : Sl) (a : Ar) (p : Int), args = [vA s r a, .int .i64 p] ∧ ArAt m s r a ∧ a.wf ∧ TabB a p ∧ Q (.tuple #[.int .i64 (blkOf a.ws p).1, .int .i64 (blkOf a.ws p).2]) m
theorem f212 (t : Tab) (h112 : look t 112 = s112) (h113 : look t 113 = s113) (h90 : look t 90 = s90) : Mt t s212 kp212 Tryz.f212 := by
 intro args m Q hh
 obtain ⟨s, r, a, p, ha, hA, hw, T, hQ⟩ := hh
 have hn := hw.n
 have p0 := T.p0
 have p1 := T.p1
 have ha : args = [aG s r a, .int .i64 p] := ha
 rw [ha, e212]
 have w2 : IntKind.i64.wrap (p + 2) = p + 2 := w64 (by omega) (by omega)
 have er : readV a.ws (p + 2) = (valW a.ws (p + 2), true) := by unfold readV; rw [T.v]; rfl
 refine newA_intro fun g1 m1 hg1 e1 hb1 le1 => ⟨_, _, _, cO hb1 0, via h112 ⟨s, a.ws, p + 2, by rw [w2]; rfl, hA.n, (hA.le le1).w, hw.w, hn, by omega, by omega, _, _, _, rfl, ?_⟩⟩
 rw [er]
 refine newA_intro fun g2 m2 hg2 e2 hb2 le2 => sto (c := #[.int .i64 0, .int .i64 0]) (t := 75) hb2 rfl (by simp) fun m3 e3 q3 ne3 => ?_
 have q3 : m3 g2 = some (.cells #[.int .i64 (valW a.ws (p + 2)).1, .int .i64 (valW a.ws (p + 2)).2] 75 (0, 0)) := q3
 have l3 : Mem.le m1 m3 := le_other le2 hg2 ne3
 have h1 := l3 _ _ hb1
 have A3 := hA.le (Mem.le_trans le1 l3)
 refine ⟨_, cO q3 0, ?_⟩
 rcases T.b with ⟨b1, b2⟩ | ⟨b1, b2, b3, b4, b5, b6, b7, b8, b9, b10, b11, b12⟩
 ·rw [if_pos (by show ((valW a.ws (p + 2)).1 == 0) = true; rw [b2]; rfl)]
  rw [b1] at hQ
  exact ret_intro (Mem.le_trans le1 l3) hQ
 ·rw [if_neg (by show ¬ ((valW a.ws (p + 2)).1 == 0) = true; rw [b1]; decide)]
  have bb := b5.b0
  have bn := b5.bn
  have n1 := b5.n1
  have n2 := b5.n2
  refine ⟨_, _, _, cO h1 0, _, cO h1 1, _, cO h1 2, _, cO h1 3, _, cO h1 4, _, cO h1 5, _, cO h1 6, _, cO h1 7, _, cO h1 8, _, _, _, cO h1 9, _, cO q3 1, via h113 ⟨s, r, a, (valW a.ws (p + 2)).2, rfl, ⟨A3, hw, by omega, b10⟩, _, rfl, ?_⟩⟩
  rw [← b8]
  refine ⟨_, _, _, cO h1 0, _, cO h1 1, _, cO h1 2, _, cO h1 3, _, cO h1 4, _, cO h1 5, _, cO h1 6, _, cO h1 7, _, cO h1 8, _, _, _, cO h1 9, via h90 ⟨s, r, a, (blkOf a.ws p).1, rfl, ⟨A3, hw, bb, by omega⟩, _, _, _, rfl, by decide, ?_⟩⟩
  have e4 : IntKind.i64.wrap (Int.tdiv (lookW a.ws (blkOf a.ws p).1).2.1 4) = (blkOf a.ws p).2 := by
   show IntKind.i64.wrap (Int.tdiv (szW a.ws (blkOf a.ws p).1) 4) = _
   rw [Int.tdiv_eq_ediv_of_nonneg (by omega), b6, w64 (by omega) (by omega)]
   omega
  rw [e4]
  exact ret_intro (Mem.le_trans le1 l3) hQ
def s152 : Spec := fun args m Q => ∃ (s r : Sl) (a : Ar) (D : List Nat) (i : Int), args = [vA s r a, .int .i64 i] ∧ Wo m s r a D ∧ a.wf ∧ 0 ≤ i ∧ i + 1 < a.ws.length ∧ valOkB (valW a.ws i) = true ∧ (a.cyc = true → RefIn a (valW a.ws i)) ∧
 ∀ m', (∀ b, b ∉ D → m' b = m b) → Wo m' s r (ldA a i) D → Q (.tuple #[vA s r (ldA a i), vVl (ldV a i)]) m'
theorem f152 (t : Tab) (h112 : look t 112 = s112) (h196 : look t 196 = s196) (h147 : look t 147 = s147) : Mt t s152 kp152 Tryz.f152 := by
 intro args m Q hh
 obtain ⟨s, r, a, D, i, ha, hW, hw, i0, i1, hv, hR, hQ⟩ := hh
 have hn := hw.n
 have ha : args = [aG s r a, .int .i64 i] := ha
 rw [ha, e152]
 have er : readV a.ws i = (valW a.ws i, true) := by unfold readV; rw [hv]; rfl
 obtain ⟨wa, wn, wc⟩ := s
 obtain ⟨ra, rn, rc⟩ := r
 refine newA_intro fun g1 m1 hg1 e1 hb1 hle1 => newA_intro fun g3 m2 hg3 e2 hb3 hle2 => newA_intro fun g5 m3 hg5 e3 hb5 hle3 => ?_
 have l2 := Mem.le_trans hle1 hle2
 have l3 := Mem.le_trans l2 hle3
 have p1 : m3 g1 = some (.cells (cA ⟨wa, wn, wc⟩ ⟨ra, rn, rc⟩ a) 27 (0, 0)) := hle3 _ _ (hle2 _ _ hb1)
 have im := hW.loc hg1 p1 l3
 have h3 := hle3 _ _ hb3
 have n13 : g1 ≠ g3 := ne_of_none hg3 hb1
 have n15 : g1 ≠ g5 := ne_of_none hg5 (hle2 _ _ hb1)
 have n35 : g3 ≠ g5 := ne_of_none hg5 hb3
 have z3 := le_none hle1 hg3
 have z5 := le_none l2 hg5
 have d3 := hW.fresh z3
 have d5 := hW.fresh z5
 have A3 := im.w.at
 refine ⟨_, _, _, cO p1 0, via h112 ⟨⟨wa, wn, wc⟩, a.ws, i, rfl, A3.n, A3.w, hw.w, hn, i0, i1, _, _, _, rfl, ?_⟩⟩
 rw [er]
 refine newA_intro fun g7 m4 hg7 e4 hb7 hle4 => sto (c := #[.int .i64 0, .int .i64 0]) (t := 75) hb7 rfl (by simp) fun m5 e5 q5 ne5 => ?_
 have q5 : m5 g7 = some (.cells #[.int .i64 (valW a.ws i).1, .int .i64 (valW a.ws i).2] 75 (0, 0)) := q5
 have l5 : Mem.le m3 m5 := le_other hle4 hg7 ne5
 have im5 := im.le l5
 have h35 := l5 _ _ h3
 have h55 := l5 _ _ hb5
 have L5 := Mem.le_trans l3 l5
 have z7 := le_none l3 hg7
 have n17 : g1 ≠ g7 := ne_of_none hg7 p1
 have n37 : g3 ≠ g7 := ne_of_none hg7 h3
 have n57 : g5 ≠ g7 := ne_of_none hg7 hb5
 have d7 := hW.fresh z7
 refine ⟨_, cO im5.p 4, ?_⟩
 unfold ldA ldV at hQ
 cases hc : a.cyc with
 | false =>
  rw [if_neg (by decide)]
  rw [hc] at hQ
  simp only [Bool.false_eq_true, if_false] at hQ
  exact (fwdT_ok im5 q5 h35 h55 n13 (Ne.symm n37) n35 z3 z5 d3 d5 (Off.of_le L5) hQ : fwdT Q g1 g7 g3 g5 m5)
 | true =>
  rw [if_pos rfl]
  rw [hc] at hQ
  simp only [if_true] at hQ
  have R := hR hc
  refine ⟨_, _, _, cO im5.p 0, _, cO im5.p 1, _, cO im5.p 2, _, cO im5.p 3, _, cO im5.p 4, _, cO im5.p 5, _, cO im5.p 6, _, cO im5.p 7, _, cO im5.p 8, _, _, _, cO im5.p 9, _, cO q5 0, _, cO q5 1, via h196 ⟨⟨wa, wn, wc⟩, ⟨ra, rn, rc⟩, a, D, valW a.ws i, rfl, im5.w, R, fun m6 o6 w6 => ⟨_, _, _, _, _, _, _, _, _, _, _, _, _, _, _, _, rfl, ?_⟩⟩⟩
  obtain ⟨T1, T2, hC, v1, v2⟩ := R
  obtain ⟨Ta, F⟩ := fwd_ok hC v1 v2
  have el := F.f.len
  generalize fwdA a (valW a.ws i) = fr at *
  obtain ⟨b, w⟩ := fr
  simp only at F el w6 hQ ⊢
  refine newA_intro fun g8 m7 hg8 e7 hb8 hle7 => newA_intro fun g9 m8 hg9 e8 hb9 hle8 => ?_
  refine sto_ar (hle8 _ _ hb8) fun m9 e9 q9 ne9 => ?_
  have n89 : g8 ≠ g9 := ne_of_none hg9 hb8
  refine sto (c := #[.int .i64 0, .int .i64 0]) (t := 75) ((ne9 g9 (Ne.symm n89)).trans hb9) rfl (by simp) fun m10 e10 q10 ne10 => ?_
  have q10 : m10 g9 = some (.cells #[.int .i64 w.1, .int .i64 w.2] 75 (0, 0)) := q10
  have p10 : Ptr m10 g8 ⟨wa, wn, wc⟩ ⟨ra, rn, rc⟩ b := (ne10 g8 n89).trans q9
  have l10 : Mem.le m6 m10 := le_other (le_other (Mem.le_trans hle7 hle8) hg8 ne9) (le_none hle7 hg9) ne10
  have w10 := w6.le l10
  have g8D : g8 ∉ D := w6.fresh hg8
  have g9D : g9 ∉ D := (w6.le hle7).fresh hg9
  have k6 : ∀ {g : Nat} {o : Obj}, g ∉ D → m5 g = some o → m10 g = some o := fun hd e => l10 _ _ ((o6 _ hd).trans e)
  refine ⟨_, _, _, cO p10 0, _, cO p10 1, _, cO p10 2, _, cO p10 3, _, cO p10 4, _, cO p10 5, _, cO p10 6, _, cO p10 7, _, cO p10 8, _, _, _, cO p10 9, _, cO q10 0, _, cO q10 1, via h147 ⟨⟨wa, wn, wc⟩, ⟨ra, rn, rc⟩, b, D, i, w, rfl, w10, i0, by omega, by omega, fun m11 o11 w11 => ⟨_, _, _, _, _, _, _, _, _, _, _, _, _, _, rfl, ?_⟩⟩⟩
  have k11 : ∀ {g : Nat} {o : Obj}, g ∉ D → m5 g = some o → m11 g = some o := fun hd e => (o11 _ hd).trans (k6 hd e)
  refine put_all (k11 im.g im5.p) w11 im.g fun m12 o12 im12 => ?_
  have q12 : m12 g9 = some (.cells #[.int .i64 w.1, .int .i64 w.2] 75 (0, 0)) := by
   have n19 : g9 ≠ g1 := fun e => by have := k6 im.g im5.p; rw [← e, q10] at this; cases this
   rw [o12 g9 n19, o11 g9 g9D]; exact q10
  have h712 : m12 g7 = some (.cells #[.int .i64 (valW a.ws i).1, .int .i64 (valW a.ws i).2] 75 (0, 0)) := by rw [o12 g7 (Ne.symm n17)]; exact k11 d7 q5
  refine ⟨_, cO q12 0, _, cO q12 1, sto (c := #[.int .i64 (valW a.ws i).1, .int .i64 (valW a.ws i).2]) (t := 75) h712 rfl (by simp) fun m13 e13 q13 ne13 => ?_⟩
  have q13 : m13 g7 = some (.cells #[.int .i64 w.1, .int .i64 w.2] 75 (0, 0)) := q13
  have im13 : Im m13 g1 ⟨wa, wn, wc⟩ ⟨ra, rn, rc⟩ (putV b i w) D := im12.ext fun q hq => ne13 q fun e => by
   rcases List.mem_cons.1 hq with h | h
   ·exact n17 (h.symm.trans e)
   ·exact d7 (e ▸ h)
  have O13 : Off D m m13 := by
   refine Off.fresh (Off.fresh ((((Off.of_le L5).trans (Off.of_eq o6)).trans (Off.of_le l10)).trans (Off.of_eq o11)) hg1 o12) z7 ne13
  exact (fwdT_ok im13 q13 (by rw [ne13 g3 n37, o12 g3 (Ne.symm n13)]; exact k11 d3 h35) (by rw [ne13 g5 n57, o12 g5 (Ne.symm n15)]; exact k11 d5 h55) n13 (Ne.symm n37) n35 z3 z5 d3 d5 O13 hQ : fwdT Q g1 g7 g3 g5 m13)
def lgT (call : FuncId → Spec) (n19 : Nat) (Q : Value → Mem → Prop) (x2 x3 : Int) (x4g x8g : Nat) (x10 x11 x12 x14 x15 x17 x18 : Int) (g475 g477 : Nat) (m539 : Mem) : Prop :=
 shK_2 call Q m539 g475 n19 x2 x3 x4g x8g x10 x11 x12 x14 x15 x17 x18 g477
def lgI (call : FuncId → Spec) (n19 : Nat) (Q : Value → Mem → Prop) (x2 x3 : Int) (x4g x8g : Nat) (x10 x11 x12 x14 x15 x17 x18 : Int) (g475 g477 : Nat) (m480 : Mem) : Prop :=
 (if (decide (x18 < x11)) = true then (∃ S481 : Mem → Prop, S481 m480 ∧ (hA S481 x4g fun w0 => (hA S481 x4g fun w1 => (call 178 [(.agg w0.toArray), (.int .i64 x10), (.int .i64 x18)] m480 fun v530 m531 => (∃ y532 : Int, (∃ y533 : Int, (v530 = (.agg #[(.int .i64 y532), (.int .i64 y533)]) ∧ (S481 m531 ∧ (call 213 [(.agg w1.toArray), (.int .i64 x10), (.int .i64 x18)] m531 fun v534 m535 => (∃ y536 : Int, (∃ y537 : Int, (v534 = (.agg #[(.int .i64 y536), (.int .i64 y537)]) ∧ (S481 m535 ∧ (stoA m535 ⟨g475, 0, none⟩ [(.int .i64 y532), (.int .i64 y533)] fun m538 => (S481 m538 ∧ (stoA m538 ⟨g477, 0, none⟩ [(.int .i64 y536), (.int .i64 y537)] fun m539 => (∃ y540 : Int, (ci m539 g475 0 y540 ∧ (if (y540 == (0 : Int)) = true then L245_19 call n19 Q x2 x3 x4g x8g x10 x11 x12 x14 x15 x17 ((IntKind.i64.wrap (x18 + (1 : Int)))) m539 else (∃ y542 : Int, (ci m539 g477 0 y542 ∧ (if (y542 == (0 : Int)) = true then L245_19 call n19 Q x2 x3 x4g x8g x10 x11 x12 x14 x15 x17 ((IntKind.i64.wrap (x18 + (1 : Int)))) m539 else (rA m539 x4g fun w2 => (∃ y568 : Int, (ci m539 g475 0 y568 ∧ (∃ y570 : Int, (ci m539 g475 1 y570 ∧ (call 179 [(.agg w2.toArray), (.int .i64 x15), (.int .i64 x14), (.agg #[(.int .i64 y568), (.int .i64 y570)])] m539 fun v572 m573 => (∃ y574 : Int, (∃ b575 : Bool, (v572 = (.tuple #[(.int .i64 y574), (.bool b575)]) ∧ (rA m573 x4g fun w3 => (∃ y600 : Int, (ci m573 g475 0 y600 ∧ (∃ y602 : Int, (ci m573 g475 1 y602 ∧ (call 147 [(.agg w3.toArray), (.int .i64 (IntKind.i64.wrap ((IntKind.i64.wrap (x15 + (1 : Int))) + (IntKind.i64.wrap ((4 : Int) * y574))))), (.agg #[(.int .i64 y600), (.int .i64 y602)])] m573 fun v604 m605 => (wA v604 fun w8 => (stoA m605 ⟨x4g, 0, none⟩ w8 fun m620 => (rA m620 x4g fun w4 => (∃ y645 : Int, (ci m620 g477 0 y645 ∧ (∃ y647 : Int, (ci m620 g477 1 y647 ∧ (call 147 [(.agg w4.toArray), (.int .i64 (IntKind.i64.wrap ((IntKind.i64.wrap (x15 + (3 : Int))) + (IntKind.i64.wrap ((4 : Int) * y574))))), (.agg #[(.int .i64 y645), (.int .i64 y647)])] m620 fun v649 m650 => (wA v649 fun w9 => (stoA m650 ⟨x4g, 0, none⟩ w9 fun m665 => L245_19 call n19 Q x2 x3 x4g x8g x10 x11 x12 x14 x15 x17 ((IntKind.i64.wrap (x18 + (1 : Int)))) m665))))))))))))))))))))))))))))))))))))))))))))))) else (∃ y666 : Int, (ci m480 g475 0 y666 ∧ (if (y666 == (0 : Int)) = true then L245_19 call n19 Q x2 x3 x4g x8g x10 x11 x12 x14 x15 x17 ((IntKind.i64.wrap (x18 + (1 : Int)))) m480 else (∃ y668 : Int, (ci m480 g477 0 y668 ∧ (if (y668 == (0 : Int)) = true then L245_19 call n19 Q x2 x3 x4g x8g x10 x11 x12 x14 x15 x17 ((IntKind.i64.wrap (x18 + (1 : Int)))) m480 else (rA m480 x4g fun w5 => (∃ y694 : Int, (ci m480 g475 0 y694 ∧ (∃ y696 : Int, (ci m480 g475 1 y696 ∧ (call 179 [(.agg w5.toArray), (.int .i64 x15), (.int .i64 x14), (.agg #[(.int .i64 y694), (.int .i64 y696)])] m480 fun v698 m699 => (∃ y700 : Int, (∃ b701 : Bool, (v698 = (.tuple #[(.int .i64 y700), (.bool b701)]) ∧ (rA m699 x4g fun w6 => (∃ y726 : Int, (ci m699 g475 0 y726 ∧ (∃ y728 : Int, (ci m699 g475 1 y728 ∧ (call 147 [(.agg w6.toArray), (.int .i64 (IntKind.i64.wrap ((IntKind.i64.wrap (x15 + (1 : Int))) + (IntKind.i64.wrap ((4 : Int) * y700))))), (.agg #[(.int .i64 y726), (.int .i64 y728)])] m699 fun v730 m731 => (wA v730 fun w10 => (stoA m731 ⟨x4g, 0, none⟩ w10 fun m746 => (rA m746 x4g fun w7 => (∃ y771 : Int, (ci m746 g477 0 y771 ∧ (∃ y773 : Int, (ci m746 g477 1 y773 ∧ (call 147 [(.agg w7.toArray), (.int .i64 (IntKind.i64.wrap ((IntKind.i64.wrap (x15 + (3 : Int))) + (IntKind.i64.wrap ((4 : Int) * y700))))), (.agg #[(.int .i64 y771), (.int .i64 y773)])] m746 fun v775 m776 => (wA v775 fun w11 => (stoA m776 ⟨x4g, 0, none⟩ w11 fun m791 => L245_19 call n19 Q x2 x3 x4g x8g x10 x11 x12 x14 x15 x17 ((IntKind.i64.wrap (x18 + (1 : Int)))) m791))))))))))))))))))))))))))))))))
def lgA (call : FuncId → Spec) (Q : Value → Mem → Prop) (x1 x2 x3 : Int) (x4g x8g : Nat) (x12 x14 : Int) (m100 : Mem) : Prop :=
 shK_1 call Q m100 x4g x14 x8g x1 x2 x3 x12
def lgE (call : FuncId → Spec) (Q : Value → Mem → Prop) (x4g x8g : Nat) (x12 x15 x17 : Int) (m455 : Mem) : Prop :=
 (∃ (ra1109 : Option Addr) (rn1110 rc1111 : Nat), (cs m455 x4g 0 ra1109 rn1110 rc1111 ∧ (optA ra1109 fun d1113 => (0 ≤ (IntKind.i64.wrap (x17 + (1 : Int))) ∧ (IntKind.i64.wrap (x17 + (1 : Int))) < ((rn1110 : Nat) : Int) ∧ (stoA m455 (d1113.add (Int.toNat (IntKind.i64.wrap (x17 + (1 : Int))) * 1)) [(.int .u64 (IntKind.u64.wrap x12))] fun m1114 => (rA m1114 x4g fun w0 => (call 147 [(.agg w0.toArray), (.int .i64 (IntKind.i64.wrap (x17 + (2 : Int)))), (.agg #[(.int .i64 (8 : Int)), (.int .i64 x15)])] m1114 fun v1139 m1140 => (wA v1139 fun w3 => (stoA m1140 ⟨x4g, 0, none⟩ w3 fun m1155 => (rA m1155 x4g fun w1 => (stoA m1155 ⟨x8g, 0, none⟩ w1 fun m1180 => (rA m1180 x8g fun w2 => ret Q (.tuple #[(.agg w2.toArray), (.int .i64 (0 : Int))]) m1180))))))))))))
def s155 : Spec := fun args m Q => ∃ (s r : Sl) (a : Ar) (x : Int), args = [vA s r a, .int .i64 x] ∧ ArAt m s r a ∧ a.wf ∧ Q (.bool (pB ((0 ≤ x ∧ x < a.rs.length) ∧ (rtA a x).1 = 4))) m
theorem f155 (t : Tab) (h136 : look t 136 = s136) : Mt t s155 kp155 Tryz.f155 := by
 intro args m Q hh
 obtain ⟨s, r, a, x, ha, hA, hw, hQ⟩ := hh
 have ha : args = [aG s r a, .int .i64 x] := ha
 rw [ha, e155]
 refine newA_intro fun g1 m2 hg1 e2 hb1 hle2 => ?_
 have p1 : Ptr m2 g1 s r a := hb1
 have hA2 := hA.le hle2
 refine ⟨_, _, _, cO p1 0, _, cO p1 1, _, cO p1 2, _, cO p1 3, _, cO p1 4, _, cO p1 5, _, cO p1 6, _, cO p1 7, _, cO p1 8, _, _, _, cO p1 9, via h136 ⟨s, r, a, x, rfl, hA2, hw, _, rfl, ?_⟩⟩
 by_cases hx : 0 ≤ x ∧ x < a.rs.length
 ·rw [decide_eq_true hx, if_pos rfl]
  have hk := hA2.k
  refine ⟨_, _, _, cO p1 9, rget hA2.r hk hx.1 (by omega) fun ad had c1 c2 => ⟨_, c1, ret_bool hle2 hQ ?_⟩⟩
  show ((rtA a x).1 == 4) = _
  by_cases h3 : (rtA a x).1 = 4
  ·rw [pB_yes ⟨hx, h3⟩, h3]; rfl
  ·rw [pB_no fun h => h3 h.2]
   simpa using h3
 ·rw [decide_eq_false hx, if_neg (by decide)]
  exact ret_bool hle2 hQ (pB_no fun h => hx h.1).symm
def s244 : Spec := fun args m Q => ∃ (s r : Sl) (a : Ar) (D : List Nat) (ri ki fi : Int), args = [vA s r a, .int .i64 ri] ∧ Wo m s r a D ∧ SkOk a ri ki fi ∧
 ∀ m', (∀ b, b ∉ D → m' b = m b) → Wo m' s r (ldA a ((rtA a ri).2 + 2)) D → Q (.tuple #[vA s r (ldA a ((rtA a ri).2 + 2)), .int .i64 (blkOf (ldA a ((rtA a ri).2 + 2)).ws (rtA (ldA a ((rtA a ri).2 + 2)) ri).2).1, .int .i64 (blkOf (ldA a ((rtA a ri).2 + 2)).ws (rtA (ldA a ((rtA a ri).2 + 2)) ri).2).2]) m'
theorem f244 (t : Tab) (h152 : look t 152 = s152) (h212 : look t 212 = s212) : Mt t s244 kp244 Tryz.f244 := by
 intro args m Q hh
 obtain ⟨s, r, a, D, ri, ki, fi, ha, hW, h, hQ⟩ := hh
 have ha : args = [aG s r a, .int .i64 ri] := ha
 rw [ha, e244]
 obtain ⟨wa, wn, wc⟩ := s
 obtain ⟨ra, rn, rc⟩ := r
 have T := h.tab
 obtain ⟨hb, L, ert⟩ := h.load
 have hw := okC_wf h.ok
 have t0 := T.p0
 have t1 := T.p1
 have hn := hw.n
 have w2 : IntKind.i64.wrap ((rtA a ri).2 + 2) = (rtA a ri).2 + 2 := w64 (by omega) (by omega)
 refine newA_intro fun g1 m1 hg1 e1 hb1 hle1 => newA_intro fun g3 m2 hg3 e2 hb3 hle2 => ?_
 have l2 := Mem.le_trans hle1 hle2
 have p1 : m2 g1 = some (.cells (cA ⟨wa, wn, wc⟩ ⟨ra, rn, rc⟩ a) 27 (0, 0)) := hle2 _ _ hb1
 have im := hW.loc hg1 p1 l2
 have n13 : g1 ≠ g3 := ne_of_none hg3 hb1
 have z3 := le_none hle1 hg3
 have d3 := hW.fresh z3
 have A2 := im.w.at
 have k2 := A2.k
 refine ⟨fun q => q g1 = m2 g1 ∧ Rd q ra a.rs, ⟨rfl, A2.r⟩, _, _, _, fun q hq => cO (hq.1.trans im.p) 0, _, fun q hq => cO (hq.1.trans im.p) 1, _, fun q hq => cO (hq.1.trans im.p) 2, _, fun q hq => cO (hq.1.trans im.p) 3, _, fun q hq => cO (hq.1.trans im.p) 4, _, fun q hq => cO (hq.1.trans im.p) 5, _, fun q hq => cO (hq.1.trans im.p) 6, _, fun q hq => cO (hq.1.trans im.p) 7, _, fun q hq => cO (hq.1.trans im.p) 8, _, _, _, fun q hq => cO (hq.1.trans im.p) 9, _, _, _, fun q hq => cO (hq.1.trans im.p) 9, rgetH A2.r k2 h.r0 (by have := h.r1; omega) fun ad had c1 c2 => ⟨_, fun q hq => c2 q hq.2, ?_⟩⟩
 refine via h152 ⟨⟨wa, wn, wc⟩, ⟨ra, rn, rc⟩, a, D, (rtA a ri).2 + 2, by rw [← w2]; rfl, im.w, hw, by omega, by omega, T.v, h.refIn h.ok, fun m3 o3 w3 => ⟨_, _, _, _, _, _, _, _, _, _, _, _, _, _, _, _, rfl, ⟨o3 g1 im.g, by have := w3.at.r; rw [L.f.rs] at this; exact this⟩, ?_⟩⟩
 obtain ⟨b, eb⟩ : ∃ b, b = ldA a ((rtA a ri).2 + 2) := ⟨_, rfl⟩
 rw [← eb] at hb ert w3 hQ ⊢
 refine put_all ((o3 g1 im.g).trans im.p) w3 im.g fun m4 o4 im4 => ?_
 have A4 := im4.w.at
 have k4 := A4.k
 have hwb := okC_wf hb.ok
 refine ⟨Mem.le m4, Mem.le_refl _, _, _, _, held (cO im4.p 0), _, held (cO im4.p 1), _, held (cO im4.p 2), _, held (cO im4.p 3), _, held (cO im4.p 4), _, held (cO im4.p 5), _, held (cO im4.p 6), _, held (cO im4.p 7), _, held (cO im4.p 8), _, _, _, held (cO im4.p 9), _, _, _, held (cO im4.p 9), rgetH A4.r k4 hb.r0 (by have := hb.r1; omega) fun ad had c1 c2 => ⟨_, fun q hq => c2 q (A4.r.le hq), ?_⟩⟩
 refine via h212 ⟨⟨wa, wn, wc⟩, ⟨ra, rn, rc⟩, b, (rtA b ri).2, rfl, A4, hwb, hb.tab, _, _, rfl, ?_⟩
 have h34 : m4 g3 = some (.cells zAr 27 (0, 0)) := by rw [o4 g3 (Ne.symm n13), o3 g3 d3]; exact hb3
 refine ⟨_, _, _, cO im4.p 0, _, cO im4.p 1, _, cO im4.p 2, _, cO im4.p 3, _, cO im4.p 4, _, cO im4.p 5, _, cO im4.p 6, _, cO im4.p 7, _, cO im4.p 8, _, _, _, cO im4.p 9, sto_ar h34 fun m5 e5 q5 ne5 => ?_⟩
 have p5 : Ptr m5 g3 ⟨wa, wn, wc⟩ ⟨ra, rn, rc⟩ b := q5
 refine ⟨_, _, _, cO p5 0, _, cO p5 1, _, cO p5 2, _, cO p5 3, _, cO p5 4, _, cO p5 5, _, cO p5 6, _, cO p5 7, _, cO p5 8, _, _, _, cO p5 9, ?_⟩
 refine ret_off ((((Off.of_le l2).trans (Off.of_eq o3)).fresh hg1 o4).fresh z3 ne5) (hQ _ (fun b hb => mix_off hb) (Wo.mix (im4.w.ext fun q hq => ne5 q fun e => d3 (e ▸ hq))))
theorem lgT_ok (t : Tab) (h179 : look t 179 = s179) (h147 : look t 147 = s147) {Q : Value → Mem → Prop} {n19 : Nat} {ki fi b no l p n tb i cnt : Int} {g1 g3 gk gv : Nat} {s r : Sl} {c : Ar} {D : List Nat} {w : List U64} {k v : Vl} {M m0 : Mem} (gr : Grd c p n) (hF : Fill c p n w cnt) (hr : k.1 ≠ 0 → v.1 ≠ 0 → cnt < n ∧ KeyS c k)
  (im : Im M g1 s r { c with ws := w } D) (hO : Off D m0 M) (z1 : m0 g1 = none) (hk : M gk = some (.cells #[.int .i64 k.1, .int .i64 k.2] 75 (0, 0))) (hv : M gv = some (.cells #[.int .i64 v.1, .int .i64 v.2] 75 (0, 0))) (dv : gv ∉ D) (nv : gv ≠ g1)
  (hN : ∀ M', Off D m0 M' → Im M' g1 s r { c with ws := if k.1 = 0 ∨ v.1 = 0 then w else layW p n w k v } D → (∀ q, q ≠ g1 → q ∉ D → M' q = M q) → L245_19 (look t) n19 Q ki fi g1 g3 b no l n p tb (IntKind.i64.wrap (i + 1)) M') : lgT (look t) n19 Q ki fi g1 g3 b no l n p tb i gk gv M := by
 obtain ⟨wa, wn, wc⟩ := s
 obtain ⟨ra, rn, rc⟩ := r
 unfold lgT
 refine ⟨_, cO hk 0, ?_⟩
 by_cases c1 : k.1 = 0
 ·rw [if_pos (by simpa using c1)]
  rw [if_pos (.inl c1)] at hN
  exact hN M hO im fun q _ _ => rfl
 rw [if_neg (by simpa using c1)]
 refine ⟨_, cO hv 0, ?_⟩
 by_cases c2 : v.1 = 0
 ·rw [if_pos (by simpa using c2)]
  rw [if_pos (.inr c2)] at hN
  exact hN M hO im fun q _ _ => rfl
 rw [if_neg (by simpa using c2)]
 rw [if_neg (by simp [c1, c2])] at hN
 obtain ⟨hc, hK⟩ := hr c1 c2
 have f := hF.find gr hc hK
 have hl := hF.len
 have hcn := (okC_wf gr.ok).n
 have p0 := gr.nw.p0
 have p1 := gr.nw.p1
 have n1 := gr.n1
 refine ⟨_, _, _, cO im.p 0, _, cO im.p 1, _, cO im.p 2, _, cO im.p 3, _, cO im.p 4, _, cO im.p 5, _, cO im.p 6, _, cO im.p 7, _, cO im.p 8, _, _, _, cO im.p 9, _, cO hk 0, _, cO hk 1, via h179 ⟨⟨wa, wn, wc⟩, ⟨ra, rn, rc⟩, { c with ws := w }, p, n, k, rfl, im.w.at, hF.wf gr, .inr ⟨hF.blk gr, .inr (hF.keyOk gr hK)⟩, _, _, rfl, ?_⟩⟩
 have hN : ∀ M', Off D m0 M' → Im M' g1 ⟨wa, wn, wc⟩ ⟨ra, rn, rc⟩ (putV (putV { c with ws := w } (p + 1 + 4 * (findA w p n k).1) k) (p + 3 + 4 * (findA w p n k).1) v) D → (∀ q, q ≠ g1 → q ∉ D → M' q = M q) → L245_19 (look t) n19 Q ki fi g1 g3 b no l n p tb (IntKind.i64.wrap (i + 1)) M' := hN
 show ∃ _, _
 obtain ⟨e, ee⟩ : ∃ e, e = (findA w p n k).1 := ⟨_, rfl⟩
 rw [← ee] at f hN
 have w1 : IntKind.i64.wrap (IntKind.i64.wrap (p + 1) + IntKind.i64.wrap (4 * e)) = p + 1 + 4 * e := by rw [w64 (x := p + 1) (by omega) (by omega), w64 (x := 4 * e) (by omega) (by omega), w64 (by omega) (by omega)]
 have w3 : IntKind.i64.wrap (IntKind.i64.wrap (p + 3) + IntKind.i64.wrap (4 * e)) = p + 3 + 4 * e := by rw [w64 (x := p + 3) (by omega) (by omega), w64 (x := 4 * e) (by omega) (by omega), w64 (by omega) (by omega)]
 refine ⟨_, _, _, cO im.p 0, _, cO im.p 1, _, cO im.p 2, _, cO im.p 3, _, cO im.p 4, _, cO im.p 5, _, cO im.p 6, _, cO im.p 7, _, cO im.p 8, _, _, _, cO im.p 9, _, cO hk 0, _, cO hk 1, via h147 ⟨⟨wa, wn, wc⟩, ⟨ra, rn, rc⟩, { c with ws := w }, D, p + 1 + 4 * e, k, by rw [← w1, ee]; rfl, im.w, by omega, by show p + 1 + 4 * e + 1 < (w.length : Int); omega, by show w.length ≤ _; omega, fun m1 o1 w1' => ⟨_, _, _, _, _, _, _, _, _, _, _, _, _, _, rfl, ?_⟩⟩⟩
 refine put_all ((o1 g1 im.g).trans im.p) w1' im.g fun m2 o2 im2 => ?_
 have hv2 : m2 gv = some (.cells #[.int .i64 v.1, .int .i64 v.2] 75 (0, 0)) := by rw [o2 gv nv, o1 gv dv]; exact hv
 refine ⟨_, _, _, cO im2.p 0, _, cO im2.p 1, _, cO im2.p 2, _, cO im2.p 3, _, cO im2.p 4, _, cO im2.p 5, _, cO im2.p 6, _, cO im2.p 7, _, cO im2.p 8, _, _, _, cO im2.p 9, _, cO hv2 0, _, cO hv2 1, via h147 ⟨⟨wa, wn, wc⟩, ⟨ra, rn, rc⟩, putV { c with ws := w } (p + 1 + 4 * e) k, D, p + 3 + 4 * e, v, by rw [← w3, ee]; rfl, im2.w, by omega, by rw [put_len]; show p + 3 + 4 * e + 1 < (w.length : Int); omega, by rw [put_len]; show w.length ≤ _; omega, fun m3 o3 w3' => ⟨_, _, _, _, _, _, _, _, _, _, _, _, _, _, rfl, ?_⟩⟩⟩
 refine put_all ((o3 g1 im.g).trans im2.p) w3' im.g fun m4 o4 im4 => ?_
 exact hN m4 ((((hO.trans (Off.of_eq o1)).fresh z1 o2).trans (Off.of_eq o3)).fresh z1 o4) im4 fun q hq hd => by rw [o4 q hq, o3 q hd, o2 q hq, o1 q hd]
theorem lgS_ok (t : Tab) {Q : Value → Mem → Prop} {n19 : Nat} {ki fi b no l p n tb i : Int} {g1 g3 : Nat} {s r : Sl} {c : Ar} {D : List Nat} {M : Mem} (im : Im M g1 s r c D) (k0 : 0 ≤ ki) (k1 : ki < c.rs.length) (f0 : 0 ≤ fi) (f1 : fi < c.rs.length) (hi : i ≤ no)
  (H : ∀ (gk gv : Nat) (M' : Mem), Mem.le M M' → M gk = none → M gv = none → gk ≠ gv → M' gk = some (.cells #[.int .i64 (rtA c ki).1, .int .i64 (rtA c ki).2] 75 (0, 0)) → M' gv = some (.cells #[.int .i64 (rtA c fi).1, .int .i64 (rtA c fi).2] 75 (0, 0)) → lgI (look t) n19 Q ki fi g1 g3 b no l n p tb i gk gv M') :
  L245_19 (look t) (n19 + 1) Q ki fi g1 g3 b no l n p tb i M := by
 rw [l245_19]
 refine ⟨M, Mem.le_refl _, ?_⟩
 rw [if_pos (by simp; omega)]
 have A := im.w.at
 have k := A.k
 refine ⟨Mem.le M, Mem.le_refl _, _, _, _, held (cO im.p 9), rgetH A.r k k0 (by omega) fun ad had c1 c2 => ⟨_, fun q hq => c1 q (A.r.le hq), _, fun q hq => c2 q (A.r.le hq), _, _, _, held (cO im.p 9), ?_⟩⟩
 refine rgetH A.r k f0 (by omega) fun ad had c1 c2 => ⟨_, fun q hq => c1 q (A.r.le hq), _, fun q hq => c2 q (A.r.le hq), ?_, ?_⟩
 ·refine newA_intro fun gk m1 hgk e1 hb1 le1 => ⟨le1, newA_intro fun gv m2 hgv e2 hb2 le2 => ⟨Mem.le_trans le1 le2, ?_⟩⟩
  have nkv : gk ≠ gv := ne_of_none hgv hb1
  refine sto (c := #[.int .i64 0, .int .i64 0]) (t := 75) (le2 _ _ hb1) rfl (by simp) fun m3 e3 q3 ne3 => ⟨le_other (Mem.le_trans le1 le2) hgk ne3, sto (c := #[.int .i64 0, .int .i64 0]) (t := 75) ((ne3 gv (Ne.symm nkv)).trans hb2) rfl (by simp) fun m4 e4 q4 ne4 => ?_⟩
  have q3 : m3 gk = some (.cells #[.int .i64 (rtA c ki).1, .int .i64 (rtA c ki).2] 75 (0, 0)) := q3
  have q4 : m4 gv = some (.cells #[.int .i64 (rtA c fi).1, .int .i64 (rtA c fi).2] 75 (0, 0)) := q4
  exact H gk gv m4 (le_other (le_other (Mem.le_trans le1 le2) hgk ne3) (le_none le1 hgv) ne4) hgk (le_none le1 hgv) nkv (by rw [ne4 gk nkv]; exact q3) q4
 ·refine newA_intro fun gv m1 hgv e1 hb1 le1 => ⟨le1, newA_intro fun gk m2 hgk e2 hb2 le2 => ⟨Mem.le_trans le1 le2, ?_⟩⟩
  have nkv : gk ≠ gv := Ne.symm (ne_of_none hgk hb1)
  refine sto (c := #[.int .i64 0, .int .i64 0]) (t := 75) hb2 rfl (by simp) fun m3 e3 q3 ne3 => ⟨le_other (Mem.le_trans le1 le2) (le_none le1 hgk) ne3, sto (c := #[.int .i64 0, .int .i64 0]) (t := 75) ((ne3 gv (Ne.symm nkv)).trans (le2 _ _ hb1)) rfl (by simp) fun m4 e4 q4 ne4 => ?_⟩
  have q3 : m3 gk = some (.cells #[.int .i64 (rtA c ki).1, .int .i64 (rtA c ki).2] 75 (0, 0)) := q3
  have q4 : m4 gv = some (.cells #[.int .i64 (rtA c fi).1, .int .i64 (rtA c fi).2] 75 (0, 0)) := q4
  exact H gk gv m4 (le_other (le_other (Mem.le_trans le1 le2) (le_none le1 hgk) ne3) hgv ne4) (le_none le1 hgk) hgv nkv (by rw [ne4 gk nkv]; exact q3) q4
theorem lgE_ok (t : Tab) (h147 : look t 147 = s147) {Q : Value → Mem → Prop} {l p tb : Int} {g1 g3 : Nat} {s r : Sl} {c : Ar} {D : List Nat} {w : List U64} {M m0 : Mem} (hl : w.length = c.ws.length) (hcn : c.ws.length ≤ 2 ^ 20) (t0 : 1 ≤ tb) (t1 : tb + 4 ≤ c.ws.length)
  (im : Im M g1 s r { c with ws := w } D) (hO : Off D m0 M) (z1 : m0 g1 = none) (z3 : m0 g3 = none) (d3 : g3 ∉ D) (n31 : g3 ≠ g1) (h3 : M g3 = some (.cells zAr 27 (0, 0)))
  (hQ : ∀ m', (∀ b, b ∉ D → m' b = m0 b) → Wo m' s r { c with ws := setW (setW (setW w (tb + 1) (uW l)) (tb + 2) (uW 8)) (tb + 2 + 1) (uW p) } D → Q (.tuple #[vA s r { c with ws := setW (setW (setW w (tb + 1) (uW l)) (tb + 2) (uW 8)) (tb + 2 + 1) (uW p) }, .int .i64 0]) m') : lgE (look t) Q g1 g3 l p tb M := by
 obtain ⟨wa, wn, wc⟩ := s
 obtain ⟨ra, rn, rc⟩ := r
 unfold lgE
 have w1 : IntKind.i64.wrap (tb + 1) = tb + 1 := w64 (by omega) (by omega)
 have w2 : IntKind.i64.wrap (tb + 2) = tb + 2 := w64 (by omega) (by omega)
 rw [w1]
 refine ⟨_, _, _, cO im.p 0, im.put_w (by omega) (by show tb + 1 < (w.length : Int); omega) fun m1 o1 im1 => ⟨_, _, _, cO im1.p 0, _, cO im1.p 1, _, cO im1.p 2, _, cO im1.p 3, _, cO im1.p 4, _, cO im1.p 5, _, cO im1.p 6, _, cO im1.p 7, _, cO im1.p 8, _, _, _, cO im1.p 9, ?_⟩⟩
 have l1 : (setW w (tb + 1) (uW l)).length = c.ws.length := by rw [setW_len, hl]
 refine via h147 ⟨⟨wa, wn, wc⟩, ⟨ra, rn, rc⟩, { c with ws := setW w (tb + 1) (uW l) }, D, tb + 2, (8, p), by rw [w2]; rfl, im1.w, by omega, by show tb + 2 + 1 < ((setW w (tb + 1) (uW l)).length : Int); omega, by show (setW w (tb + 1) (uW l)).length ≤ _; omega, fun m2 o2 w2' => ⟨_, _, _, _, _, _, _, _, _, _, _, _, _, _, rfl, ?_⟩⟩
 refine put_all ((o2 g1 im1.g).trans im1.p) w2' im.g fun m3 o3 im3 => ?_
 have h33 : m3 g3 = some (.cells zAr 27 (0, 0)) := by rw [o3 g3 n31, o2 g3 d3, o1 g3 d3]; exact h3
 exact (stT_ok im3 h33 z3 d3 (((hO.trans (Off.of_eq o1)).trans (Off.of_eq o2)).fresh z1 o3) hQ : stT Q g1 g3 0 m3)
theorem lg_ok (t : Tab) (h178 : look t 178 = s178) (h213 : look t 213 = s213) (h179 : look t 179 = s179) (h147 : look t 147 = s147) {Q : Value → Mem → Prop} {ri ki fi b no l p n tb : Int} {g1 g3 : Nat} {s r : Sl} {c : Ar} {D : List Nat} {m0 : Mem} {W : List U64} (hs : SkOk c ri ki fi) (gr : Grd c p n) (O : Old c b no) (b0 : 0 ≤ b) (hf0 : (rtA c fi).1 ≠ 0)
  (t0 : 1 ≤ tb) (t1 : tb + 4 ≤ c.ws.length) (z1 : m0 g1 = none) (z3 : m0 g3 = none) (d3 : g3 ∉ D) (n31 : g3 ≠ g1)
  (hQ : ∀ m', (∀ b, b ∉ D → m' b = m0 b) → Wo m' s r { c with ws := rnW p n tb l W (rtA c ki) (rtA c fi) } D → Q (.tuple #[vA s r { c with ws := rnW p n tb l W (rtA c ki) (rtA c fi) }, .int .i64 0]) m') :
  ∀ (d i : Nat), (i : Int) + d = no → ∀ (w : List U64) (cnt : Int), Fill c p n w cnt → cnt + aliveF c.ws b d i + 1 ≤ n → fillF p n b d i w = W → ∀ M : Mem, Off D m0 M → Im M g1 s r { c with ws := w } D → M g3 = some (.cells zAr 27 (0, 0)) →
   L245_19 (look t) (d + 1 + 1) Q ki fi g1 g3 b no l n p tb (i : Int) M := by
 have hcw := okC_wf gr.ok
 have hcn := hcw.n
 have n1 := O.n1
 intro d
 induction d with
 | zero =>
  intro i hi w cnt hF hr hW M hO im h3
  refine lgS_ok t im hs.k0 hs.k1 hs.f0 hs.f1 (by omega) fun gk gv M' le zk zv nkv hk hv => ?_
  have im' := im.le le
  have nk1 : gk ≠ g1 := fun e => by have := im.p; rw [← e, Ptr, zk] at this; cases this
  have nv1 : gv ≠ g1 := fun e => by have := im.p; rw [← e, Ptr, zv] at this; cases this
  have hW : w = W := hW
  subst hW
  unfold lgI
  rw [if_neg (by simp; omega)]
  have hr' : cnt + 0 + 1 ≤ n := hr
  refine lgT_ok t h179 h147 gr hF (fun _ _ => ⟨by omega, hs.key⟩) im' (hO.trans (Off.of_le le)) z1 hk hv (im.w.fresh zv) nv1 fun M2 hO2 im2 keep => ?_
  rw [if_neg fun e => e.elim hs.kn hf0] at im2
  have ei : IntKind.i64.wrap ((i : Int) + 1) = (i : Int) + 1 := w64 (by omega) (by omega)
  have h32 : M2 g3 = some (.cells zAr 27 (0, 0)) := by rw [keep g3 n31 d3]; exact le _ _ h3
  rw [ei, l245_19]
  refine ⟨M2, Mem.le_refl _, ?_⟩
  rw [if_neg (by simp; omega)]
  show lgE (look t) Q g1 g3 l p tb M2
  exact lgE_ok t h147 (by rw [lay_len, hF.len]) hcn t0 t1 im2 hO2 z1 z3 d3 n31 h32 hQ
 | succ d ih =>
  intro i hi w cnt hF hr hW M hO im h3
  refine lgS_ok t im hs.k0 hs.k1 hs.f0 hs.f1 (by omega) fun gk gv M' le zk zv nkv hk hv => ?_
  have im' := im.le le
  have nk1 : gk ≠ g1 := fun e => by have := im.p; rw [← e, Ptr, zk] at this; cases this
  have nv1 : gv ≠ g1 := fun e => by have := im.p; rw [← e, Ptr, zv] at this; cases this
  have dk := im.w.fresh zk
  have dv := im.w.fresh zv
  have ar := aliveF_range c.ws b (d + 1) i
  obtain ⟨cnt', F', e', al⟩ := O.step hF gr (f := d) (i := (i : Int)) (by omega) (by omega) (by omega)
  obtain ⟨v1, v2⟩ := O.fill hF gr (i := (i : Int)) (by omega) (by omega)
  obtain ⟨s1, s2, s3⟩ := O.src gr.ok gr.s (i := (i : Int)) (by omega) (by omega)
  have hwf := hF.wf gr
  have hwl := hF.len
  have hb4 : b + 4 * no < c.ws.length := by
   obtain ⟨q1, q2, q3, q4⟩ := O.b.resolve_left (by omega)
   have := gr.ok.at q1
   omega
  have rk : readV w (b + 1 + 4 * (i : Int)) = (valW w (b + 1 + 4 * (i : Int)), true) := by unfold readV; rw [v1, (gr.ok.src s1).1]; rfl
  have rv : readV w (b + 3 + 4 * (i : Int)) = (valW w (b + 3 + 4 * (i : Int)), true) := by unfold readV; rw [v2, (gr.ok.src s2).1]; rfl
  unfold lgI
  rw [if_pos (by simp; omega)]
  refine ⟨fun q => q g1 = M' g1, rfl, _, _, _, fun q hq => cO (hq.trans im'.p) 0, _, fun q hq => cO (hq.trans im'.p) 1, _, fun q hq => cO (hq.trans im'.p) 2, _, fun q hq => cO (hq.trans im'.p) 3, _, fun q hq => cO (hq.trans im'.p) 4, _, fun q hq => cO (hq.trans im'.p) 5, _, fun q hq => cO (hq.trans im'.p) 6, _, fun q hq => cO (hq.trans im'.p) 7, _, fun q hq => cO (hq.trans im'.p) 8, _, _, _, fun q hq => cO (hq.trans im'.p) 9, _, _, _, fun q hq => cO (hq.trans im'.p) 0, _, fun q hq => cO (hq.trans im'.p) 1, _, fun q hq => cO (hq.trans im'.p) 2, _, fun q hq => cO (hq.trans im'.p) 3, _, fun q hq => cO (hq.trans im'.p) 4, _, fun q hq => cO (hq.trans im'.p) 5, _, fun q hq => cO (hq.trans im'.p) 6, _, fun q hq => cO (hq.trans im'.p) 7, _, fun q hq => cO (hq.trans im'.p) 8, _, _, _, fun q hq => cO (hq.trans im'.p) 9, ?_⟩
  refine via h178 ⟨s, r, { c with ws := w }, b, (i : Int), rfl, im'.w.at, hwf, b0, by omega, by show b + 1 + 4 * (i : Int) + 1 < (w.length : Int); omega, _, _, rfl, rfl, ?_⟩
  refine via h213 ⟨s, r, { c with ws := w }, b, (i : Int), rfl, im'.w.at, hwf, b0, by omega, by show b + 3 + 4 * (i : Int) + 1 < (w.length : Int); omega, _, _, rfl, rfl, ?_⟩
  show stoA M' ⟨gk, 0, none⟩ [.int .i64 (readV w (b + 1 + 4 * (i : Int))).1.1, .int .i64 (readV w (b + 1 + 4 * (i : Int))).1.2] fun m1 => m1 g1 = M' g1 ∧ stoA m1 ⟨gv, 0, none⟩ [.int .i64 (readV w (b + 3 + 4 * (i : Int))).1.1, .int .i64 (readV w (b + 3 + 4 * (i : Int))).1.2] fun m2 => lgT (look t) (d + 1 + 1) Q ki fi g1 g3 b no l n p tb (i : Int) gk gv m2
  rw [rk, rv]
  refine sto (c := #[.int .i64 (rtA c ki).1, .int .i64 (rtA c ki).2]) (t := 75) hk rfl (by simp) fun m1 e1 q1 ne1 => ⟨ne1 g1 (Ne.symm nk1), sto (c := #[.int .i64 (rtA c fi).1, .int .i64 (rtA c fi).2]) (t := 75) ((ne1 gv (Ne.symm nkv)).trans hv) rfl (by simp) fun m2 e2 q2 ne2 => ?_⟩
  have q1 : m1 gk = some (.cells #[.int .i64 (valW w (b + 1 + 4 * (i : Int))).1, .int .i64 (valW w (b + 1 + 4 * (i : Int))).2] 75 (0, 0)) := q1
  have q2 : m2 gv = some (.cells #[.int .i64 (valW w (b + 3 + 4 * (i : Int))).1, .int .i64 (valW w (b + 3 + 4 * (i : Int))).2] 75 (0, 0)) := q2
  have im2 : Im m2 g1 s r { c with ws := w } D := (im'.ext fun q hq => ne1 q fun e => by
   rcases List.mem_cons.1 hq with h | h
   ·exact nk1 (e.symm.trans h)
   ·exact dk (e ▸ h)).ext fun q hq => ne2 q fun e => by
   rcases List.mem_cons.1 hq with h | h
   ·exact nv1 (e.symm.trans h)
   ·exact dv (e ▸ h)
  have h32 : m2 g3 = some (.cells zAr 27 (0, 0)) := by
   have n3k : g3 ≠ gk := fun e => by rw [e, zk] at h3; cases h3
   have n3v : g3 ≠ gv := fun e => by rw [e, zv] at h3; cases h3
   rw [ne2 g3 n3v, ne1 g3 n3k]
   exact le _ _ h3
  have z0 : ∀ {g : Nat}, M g = none → g ∉ D → m0 g = none := fun hg hd => hO.none hg hd
  have hO2 : Off D m0 m2 := ((hO.trans (Off.of_le le)).fresh (z0 zk dk) ne1).fresh (z0 zv dv) ne2
  have ea : aliveB w b (i : Int) = true ↔ ¬ ((valW w (b + 1 + 4 * (i : Int))).1 = 0 ∨ (valW w (b + 3 + 4 * (i : Int))).1 = 0) := by
   unfold aliveB
   simp only [Bool.and_eq_true, bne_iff_ne, ne_eq, not_or]
  refine lgT_ok t h179 h147 gr hF (fun a1 a2 => al (ea.2 (by simp [a1, a2]))) im2 hO2 z1 (by rw [ne2 gk nkv]; exact q1) q2 dv nv1 fun M3 hO3 im3 keep => ?_
  have ei : IntKind.i64.wrap ((i : Int) + 1) = ((i + 1 : Nat) : Int) := wsucc (n := i + 1) (by omega) (by omega)
  have ew : (if (valW w (b + 1 + 4 * (i : Int))).1 = 0 ∨ (valW w (b + 3 + 4 * (i : Int))).1 = 0 then w else layW p n w (valW w (b + 1 + 4 * (i : Int))) (valW w (b + 3 + 4 * (i : Int)))) = (if aliveB w b (i : Int) = true then layW p n w (valW w (b + 1 + 4 * (i : Int))) (valW w (b + 3 + 4 * (i : Int))) else w) := by
   by_cases c1 : aliveB w b (i : Int) = true
   ·rw [if_pos c1, if_neg (ea.1 c1)]
   ·rw [if_neg c1, if_pos (Classical.not_not.1 fun c2 => c1 (ea.2 c2))]
  rw [ew] at im3
  rw [ei]
  exact ih (i + 1) (by omega) _ cnt' F' (by rw [show ((i + 1 : Nat) : Int) = (i : Int) + 1 by omega]; omega) (by rw [show ((i + 1 : Nat) : Int) = (i : Int) + 1 by omega]; exact hW) M3 hO3 im3 (by rw [keep g3 n31 d3]; exact h32)
theorem lgA_ok (t : Tab) (h178 : look t 178 = s178) (h213 : look t 213 = s213) (h179 : look t 179 = s179) (h147 : look t 147 = s147) (h146 : look t 146 = s146) (h212 : look t 212 = s212) {Q : Value → Mem → Prop} {ri ki fi l : Int} {g1 g3 : Nat} {s r : Sl} {b : Ar} {D : List Nat} {M m0 : Mem} (h : SkOk b ri ki fi) (hf0 : (rtA b fi).1 ≠ 0)
  (hl : l = 1 + aliveF b.ws (blkOf b.ws (rtA b ri).2).1 (blkOf b.ws (rtA b ri).2).2.toNat 0) (hg : ¬ growN l > 64) (im : Im M g1 s r b D) (hO : Off D m0 M) (z1 : m0 g1 = none) (z3 : m0 g3 = none) (d3 : g3 ∉ D) (n31 : g3 ≠ g1) (h3 : M g3 = some (.cells zAr 27 (0, 0)))
  (hQ : ∀ m', (∀ b, b ∉ D → m' b = m0 b) → Wo m' s r (gkR b ri ki fi).1 D → Q (.tuple #[vA s r (gkR b ri ki fi).1, .int .i64 (gkR b ri ki fi).2]) m') : lgA (look t) Q ri ki fi g1 g3 l (growN l) M := by
 obtain ⟨wa, wn, wc⟩ := s
 obtain ⟨ra, rn, rc⟩ := r
 have ar := aliveF_range b.ws (blkOf b.ws (rtA b ri).2).1 (blkOf b.ws (rtA b ri).2).2.toNat 0
 obtain ⟨g1', g2', g3', g4'⟩ := growN_ok l (by omega) (by omega)
 obtain ⟨k1, k2⟩ := h.grow hl (by omega)
 have w4 : IntKind.i64.wrap (4 * growN l) = 4 * growN l := w64 (by omega) (by omega)
 have eg : gkR b ri ki fi = if growN l > 64 then (b, 1) else if (askA 3 (4 * growN l) b).2.2 = 0 then (rnA (askA 3 (4 * growN l) b).1 (askA 3 (4 * growN l) b).2.1 (growN l) ri ki fi l, 0) else ((askA 3 (4 * growN l) b).1, (askA 3 (4 * growN l) b).2.2) := by rw [hl]; rfl
 rw [eg, if_neg hg] at hQ
 unfold lgA
 refine ⟨_, _, _, cO im.p 0, _, cO im.p 1, _, cO im.p 2, _, cO im.p 3, _, cO im.p 4, _, cO im.p 5, _, cO im.p 6, _, cO im.p 7, _, cO im.p 8, _, _, _, cO im.p 9, via h146 ⟨⟨wa, wn, wc⟩, ⟨ra, rn, rc⟩, b, D, 3, 4 * growN l, by rw [w4]; rfl, im.w, h.ok, g3', fun m1 o1 w1 => ⟨_, _, _, _, _, _, _, _, _, _, _, _, _, _, _, _, rfl, ?_⟩⟩⟩
 have sm := (h.same k1.ok (ask_sm h.ok g3' (fun e => absurd e (by decide))).2.1).2.2
 generalize askA 3 (4 * growN l) b = q at *
 obtain ⟨c, p, code⟩ := q
 simp only at k1 k2 hQ w1 sm ⊢
 refine put_all ((o1 g1 im.g).trans im.p) w1 im.g fun m2 o2 im2 => ?_
 have h32 : m2 g3 = some (.cells zAr 27 (0, 0)) := by rw [o2 g3 n31, o1 g3 d3]; exact h3
 have O2 : Off D m0 m2 := (hO.trans (Off.of_eq o1)).fresh z1 o2
 rcases k2 with ⟨rfl, gr, hl'⟩ | rfl
 ·rw [if_neg (by decide)]
  rw [if_pos rfl] at hQ
  have A2 := im2.w.at
  have kk := A2.k
  have T := k1.tab
  refine ⟨_, _, _, cO im2.p 9, rget A2.r kk k1.r0 (by have := k1.r1; omega) fun ad had c1 c2 => ⟨_, c2, _, _, _, cO im2.p 0, _, cO im2.p 1, _, cO im2.p 2, _, cO im2.p 3, _, cO im2.p 4, _, cO im2.p 5, _, cO im2.p 6, _, cO im2.p 7, _, cO im2.p 8, _, _, _, cO im2.p 9, ?_⟩⟩
  refine via h212 ⟨⟨wa, wn, wc⟩, ⟨ra, rn, rc⟩, c, (rtA c ri).2, rfl, A2, okC_wf k1.ok, T, _, _, rfl, (blkOf c.ws (rtA c ri).2).2.toNat + 1 + 1, ?_⟩
  have O := k1.old
  have b0 : 0 ≤ (blkOf c.ws (rtA c ri).2).1 := by
   rcases T.b with ⟨e, _⟩ | ⟨_, _, _, _, b5, _⟩
   ·rw [e]; exact Int.le_refl _
   ·exact b5.b0
  have on := O.n0
  exact lg_ok t h178 h213 h179 h147 (ri := ri) k1 gr O b0 (by rw [sm]; exact hf0) T.p0 T.p1 z1 z3 d3 n31 hQ (blkOf c.ws (rtA c ri).2).2.toNat 0 (by omega) c.ws 0 gr.init (by show 0 + aliveF c.ws _ _ ((0 : Nat) : Int) + 1 ≤ _; rw [show ((0 : Nat) : Int) = 0 from rfl]; omega) rfl m2 O2 im2 h32
 ·rw [if_pos (by decide)]
  rw [if_neg (by decide)] at hQ
  exact (stT_ok im2 h32 z3 d3 O2 hQ : stT Q g1 g3 2 m2)
def s245 : Spec := fun args m Q => ∃ (s r : Sl) (b : Ar) (D : List Nat) (ri ki fi : Int), args = [vA s r b, .int .i64 ri, .int .i64 ki, .int .i64 fi] ∧ Wo m s r b D ∧ SkOk b ri ki fi ∧ (rtA b fi).1 ≠ 0 ∧
 ∀ m', (∀ b, b ∉ D → m' b = m b) → Wo m' s r (gkR b ri ki fi).1 D → Q (.tuple #[vA s r (gkR b ri ki fi).1, .int .i64 (gkR b ri ki fi).2]) m'
theorem f245 (t : Tab) (h178 : look t 178 = s178) (h213 : look t 213 = s213) (h179 : look t 179 = s179) (h147 : look t 147 = s147) (h146 : look t 146 = s146) (h212 : look t 212 = s212) : Mt t s245 kp245 Tryz.f245 := by
 intro args m Q hh
 obtain ⟨s, r, a, D, ri, ki, fi, ha, hW, h, hf0, hQ⟩ := hh
 have ha : args = [aG s r a, .int .i64 ri, .int .i64 ki, .int .i64 fi] := ha
 rw [ha, e245]
 have T := h.tab
 have O := h.old
 have hw := okC_wf h.ok
 have o0 := O.n0
 have o1 := O.n1
 refine newA_intro fun g1 m1 hg1 e1 hb1 hle1 => newA_intro fun g3 m2 hg3 e2 hb3 hle2 => ?_
 have l2 := Mem.le_trans hle1 hle2
 have p1 : m2 g1 = some (.cells (cA s r a) 27 (0, 0)) := hle2 _ _ hb1
 have im := hW.loc hg1 p1 l2
 have n31 : g3 ≠ g1 := Ne.symm (ne_of_none hg3 hb1)
 have z3 := le_none hle1 hg3
 have d3 := hW.fresh z3
 have A2 := im.w.at
 have k2 := A2.k
 obtain ⟨l, hl⟩ : ∃ l, l = 1 + aliveF a.ws (blkOf a.ws (rtA a ri).2).1 (blkOf a.ws (rtA a ri).2).2.toNat 0 := ⟨_, rfl⟩
 have ar := aliveF_range a.ws (blkOf a.ws (rtA a ri).2).1 (blkOf a.ws (rtA a ri).2).2.toNat 0
 have ga := growN_all l
 refine ⟨Mem.le m2, Mem.le_refl _, _, _, _, held (cO im.p 0), _, held (cO im.p 1), _, held (cO im.p 2), _, held (cO im.p 3), _, held (cO im.p 4), _, held (cO im.p 5), _, held (cO im.p 6), _, held (cO im.p 7), _, held (cO im.p 8), _, _, _, held (cO im.p 9), _, _, _, held (cO im.p 9), rgetH A2.r k2 h.r0 (by have := h.r1; omega) fun ad had c1 c2 => ⟨_, fun q hq => c2 q (A2.r.le hq), ?_⟩⟩
 refine via h212 ⟨s, r, a, (rtA a ri).2, rfl, A2, hw, T, _, _, rfl, Mem.le_refl _, (blkOf a.ws (rtA a ri).2).2.toNat + 1, ?_⟩
 have bad : ∀ M, Off D m M → Im M g1 s r a D → M g3 = some (.cells zAr 27 (0, 0)) → growN l > 64 → stT Q g1 g3 1 M := fun M hO imM h3 hg => by
  have eg : gkR a ri ki fi = if growN l > 64 then (a, 1) else if (askA 3 (4 * growN l) a).2.2 = 0 then (rnA (askA 3 (4 * growN l) a).1 (askA 3 (4 * growN l) a).2.1 (growN l) ri ki fi l, 0) else ((askA 3 (4 * growN l) a).1, (askA 3 (4 * growN l) a).2.2) := by rw [hl]; rfl
  rw [eg, if_pos hg] at hQ
  exact stT_ok imM h3 z3 d3 hO hQ
 have size : ∀ (d : Nat) (x : Int), (d = 4 ∧ x = 4 ∨ d = 3 ∧ x = 8 ∨ d = 2 ∧ x = 16 ∨ d = 1 ∧ x = 32 ∨ d = 0 ∧ x = 64) → x ≤ growN l → ∀ M : Mem, Off D m M → Im M g1 s r a D → M g3 = some (.cells zAr 27 (0, 0)) → L245_9 (look t) (d + 1) Q ri ki fi g1 g3 l x M := by
  have w4 : IntKind.i64.wrap (4 * l) = 4 * l := w64 (by omega) (by omega)
  intro d
  induction d with
  | zero =>
   intro x hx hxl M hO imM h3
   have ex : x = 64 := by omega
   subst ex
   rw [l245_9]
   refine ⟨M, Mem.le_refl _, ?_⟩
   rw [if_neg (by decide), w4]
   by_cases c : growN l > 64
   ·rw [if_pos (by rw [w64 (by omega) (by omega)]; simp; omega)]
    exact bad M hO imM h3 c
   ·rw [if_neg (by rw [w64 (by omega) (by omega)]; simp; omega)]
    have e6 : (64 : Int) = growN l := by omega
    show lgA (look t) Q ri ki fi g1 g3 l 64 M
    rw [e6]
    exact lgA_ok t h178 h213 h179 h147 h146 h212 h hf0 hl c imM hO hg1 z3 d3 n31 h3 hQ
  | succ d ih =>
   intro x hx hxl M hO imM h3
   rw [l245_9]
   refine ⟨M, Mem.le_refl _, ?_⟩
   rw [if_pos (by simp; omega), w4, w64 (x := 3 * x) (by omega) (by omega)]
   by_cases c : x = growN l
   ·rw [if_neg (by simp; omega), if_neg (by simp; omega)]
    show lgA (look t) Q ri ki fi g1 g3 l x M
    rw [c]
    exact lgA_ok t h178 h213 h179 h147 h146 h212 h hf0 hl (by omega) imM hO hg1 z3 d3 n31 h3 hQ
   ·rw [if_pos (by simp; omega), w64 (x := 2 * x) (by omega) (by omega)]
    exact ih (2 * x) (by omega) (by omega) M hO imM h3
 obtain ⟨no, en⟩ : ∃ no, no = (blkOf a.ws (rtA a ri).2).2 := ⟨_, rfl⟩
 obtain ⟨b, eb⟩ : ∃ b, b = (blkOf a.ws (rtA a ri).2).1 := ⟨_, rfl⟩
 rw [← en, ← eb] at O hl ar ⊢
 rw [← en] at o0 o1
 have b0 : no = 0 ∨ 0 ≤ b ∧ b + 4 * no < a.ws.length := by
  refine O.b.imp id fun k => ?_
  have := h.ok.at k.1
  omega
 suffices live : ∀ (d i : Nat), (i : Int) + d = no → ∀ x : Int, 1 ≤ x → x + aliveF a.ws b d i = l → ∀ M : Mem, Mem.le m2 M → L245_4 (look t) (d + 1) Q ri ki fi g1 g3 b no x (i : Int) M from
  live no.toNat 0 (by omega) 1 (by decide) (by rw [hl]; rfl) m2 (Mem.le_refl _)
 intro d
 induction d with
 | zero =>
  intro i hi x x1 hx M hM
  rw [l245_4]
  refine ⟨M, Mem.le_refl _, ?_⟩
  rw [if_neg (by simp; omega)]
  have ex : x = l := by rw [← hx]; show x = x + 0; omega
  subst ex
  exact ⟨5, size 4 4 (.inl ⟨rfl, rfl⟩) (by omega) M (Off.of_le (Mem.le_trans l2 hM)) (im.le hM) (hM _ _ hb3)⟩
 | succ d ih =>
  intro i hi x x1 hx M hM
  obtain ⟨b00, bl⟩ := b0.resolve_left (by omega)
  have ar' := aliveF_range a.ws b (d + 1) i
  have imM := im.le hM
  have AM := imM.w.at
  have hn := hw.n
  obtain ⟨s1, s2, s3⟩ := O.src h.ok h.s (i := (i : Int)) (by omega) (by omega)
  have rk : readV a.ws (b + 1 + 4 * (i : Int)) = (valW a.ws (b + 1 + 4 * (i : Int)), true) := by unfold readV; rw [(h.ok.src s1).1]; rfl
  have rv : readV a.ws (b + 3 + 4 * (i : Int)) = (valW a.ws (b + 3 + 4 * (i : Int)), true) := by unfold readV; rw [(h.ok.src s2).1]; rfl
  have ei : IntKind.i64.wrap ((i : Int) + 1) = ((i + 1 : Nat) : Int) := wsucc (n := i + 1) (by omega) (by omega)
  have ci : ((i + 1 : Nat) : Int) = (i : Int) + 1 := by omega
  have er : aliveF a.ws b (d + 1) i = (if aliveB a.ws b i = true then 1 else 0) + aliveF a.ws b d ((i : Int) + 1) := rfl
  rw [l245_4]
  refine ⟨M, Mem.le_refl _, ?_⟩
  rw [if_pos (by simp; omega), ei, w64 (x := x + 1) (by omega) (by omega)]
  refine ⟨_, _, _, cO imM.p 0, _, cO imM.p 1, _, cO imM.p 2, _, cO imM.p 3, _, cO imM.p 4, _, cO imM.p 5, _, cO imM.p 6, _, cO imM.p 7, _, cO imM.p 8, _, _, _, cO imM.p 9, via h178 ⟨s, r, a, b, (i : Int), rfl, AM, hw, b00, by omega, by omega, _, _, rfl, ?_⟩⟩
  rw [rk]
  by_cases c1 : (valW a.ws (b + 1 + 4 * (i : Int))).1 = 0
  ·rw [if_neg (by show ¬ ((valW a.ws (b + 1 + 4 * (i : Int))).1 != 0) = true; simp [c1])]
   have : aliveB a.ws b (i : Int) = false := by unfold aliveB; rw [c1]; rfl
   rw [this] at er
   exact ih (i + 1) (by omega) x x1 (by rw [ci]; simp at er; omega) M hM
  ·rw [if_pos (by show ((valW a.ws (b + 1 + 4 * (i : Int))).1 != 0) = true; simp [c1])]
   refine ⟨_, _, _, cO imM.p 0, _, cO imM.p 1, _, cO imM.p 2, _, cO imM.p 3, _, cO imM.p 4, _, cO imM.p 5, _, cO imM.p 6, _, cO imM.p 7, _, cO imM.p 8, _, _, _, cO imM.p 9, via h213 ⟨s, r, a, b, (i : Int), rfl, AM, hw, b00, by omega, by omega, _, _, rfl, ?_⟩⟩
   rw [rv]
   by_cases c2 : (valW a.ws (b + 3 + 4 * (i : Int))).1 = 0
   ·rw [if_neg (by show ¬ ((valW a.ws (b + 3 + 4 * (i : Int))).1 != 0) = true; simp [c2])]
    have : aliveB a.ws b (i : Int) = false := by unfold aliveB; rw [c2]; simp
    rw [this] at er
    exact ih (i + 1) (by omega) x x1 (by rw [ci]; simp at er; omega) M hM
   ·rw [if_pos (by show ((valW a.ws (b + 3 + 4 * (i : Int))).1 != 0) = true; simp [c2])]
    have : aliveB a.ws b (i : Int) = true := by unfold aliveB; simp [c1, c2]
    rw [this] at er
    exact ih (i + 1) (by omega) (x + 1) (by omega) (by rw [ci]; simp at er; omega) M hM
def stR (Q : Value → Mem → Prop) (g3 : Nat) (y291 : Int) (m292 : Mem) : Prop :=
 (rA m292 g3 fun w0 => ret Q (.tuple #[(.agg w0.toArray), (.int .i64 y291)]) m292)
theorem stR_ok {Q : Value → Mem → Prop} {g3 : Nat} {s r : Sl} {b : Ar} {D : List Nat} {M m0 : Mem} {k : Int} (im : Im M g3 s r b D) (hO : Off D m0 M) (hQ : ∀ m', (∀ b, b ∉ D → m' b = m0 b) → Wo m' s r b D → Q (.tuple #[vA s r b, .int .i64 k]) m') : stR Q g3 k M := by
 unfold stR
 exact ⟨_, _, _, cO im.p 0, _, cO im.p 1, _, cO im.p 2, _, cO im.p 3, _, cO im.p 4, _, cO im.p 5, _, cO im.p 6, _, cO im.p 7, _, cO im.p 8, _, _, _, cO im.p 9, ret_off hO (hQ _ (fun b hb => mix_off hb) (Wo.mix im.w))⟩
def s226 : Spec := fun args m Q => ∃ (s r : Sl) (a : Ar) (D : List Nat) (ri ki fi : Int), args = [vA s r a, .int .i64 ri, .int .i64 ki, .int .i64 fi] ∧ Wo m s r a D ∧ SkOk a ri ki fi ∧
 ∀ m', (∀ b, b ∉ D → m' b = m b) → Wo m' s r (skR a ri ki fi).1 D → Q (.tuple #[vA s r (skR a ri ki fi).1, .int .i64 (skR a ri ki fi).2]) m'
theorem f226 (t : Tab) (h244 : look t 244 = s244) (h179 : look t 179 = s179) (h147 : look t 147 = s147) (h175 : look t 175 = s175) (h245 : look t 245 = s245) : Mt t s226 kp226 Tryz.f226 := by
 intro args m Q hh
 obtain ⟨s, r, a, D, ri, ki, fi, ha, hW, h, hQ⟩ := hh
 have ha : args = [aG s r a, .int .i64 ri, .int .i64 ki, .int .i64 fi] := ha
 rw [ha, e226]
 obtain ⟨wa, wn, wc⟩ := s
 obtain ⟨ra, rn, rc⟩ := r
 obtain ⟨hb, L, ert⟩ := h.load
 refine newA_intro fun g1 m1 hg1 e1 hb1 hle1 => newA_intro fun g3 m2 hg3 e2 hb3 hle2 => ?_
 have l2 := Mem.le_trans hle1 hle2
 have p1 : m2 g1 = some (.cells (cA ⟨wa, wn, wc⟩ ⟨ra, rn, rc⟩ a) 27 (0, 0)) := hle2 _ _ hb1
 have im := hW.loc hg1 p1 l2
 have n13 : g1 ≠ g3 := ne_of_none hg3 hb1
 have n31 := Ne.symm n13
 have z3 := le_none hle1 hg3
 have d3 := hW.fresh z3
 refine ⟨_, _, _, cO im.p 0, _, cO im.p 1, _, cO im.p 2, _, cO im.p 3, _, cO im.p 4, _, cO im.p 5, _, cO im.p 6, _, cO im.p 7, _, cO im.p 8, _, _, _, cO im.p 9, via h244 ⟨⟨wa, wn, wc⟩, ⟨ra, rn, rc⟩, a, D, ri, ki, fi, rfl, im.w, h, fun m3 o3 w3 => ⟨_, _, _, _, _, _, _, _, _, _, _, _, _, _, _, _, rfl, ?_⟩⟩⟩
 have hQ : ∀ m', (∀ b, b ∉ D → m' b = m b) → Wo m' ⟨wa, wn, wc⟩ ⟨ra, rn, rc⟩ (skB (ldA a ((rtA a ri).2 + 2)) ri ki fi).1 D → Q (.tuple #[vA ⟨wa, wn, wc⟩ ⟨ra, rn, rc⟩ (skB (ldA a ((rtA a ri).2 + 2)) ri ki fi).1, .int .i64 (skB (ldA a ((rtA a ri).2 + 2)) ri ki fi).2]) m' := hQ
 obtain ⟨b, eb⟩ : ∃ b, b = ldA a ((rtA a ri).2 + 2) := ⟨_, rfl⟩
 rw [← eb] at hb w3 hQ ⊢
 refine put_all ((o3 g1 im.g).trans im.p) w3 im.g fun m4 o4 im4 => ?_
 have O4 : Off D m m4 := ((Off.of_le l2).trans (Off.of_eq o3)).fresh hg1 o4
 have h34 : m4 g3 = some (.cells zAr 27 (0, 0)) := by rw [o4 g3 n31, o3 g3 d3]; exact hb3
 have A4 := im4.w.at
 have k4 := A4.k
 have hwb := okC_wf hb.ok
 have hn := hwb.n
 have T := hb.tab
 have Ob := hb.old
 have o0 := Ob.n0
 have o1 := Ob.n1
 have us := hb.u _ hb.root.2 hb.kd
 have t0 := T.p0
 have t1 := T.p1
 have h0 := hash_nn hwb hb.keyOk
 have eS : skB b ri ki fi = (if (findA b.ws (blkOf b.ws (rtA b ri).2).1 (blkOf b.ws (rtA b ri).2).2 (rtA b ki)).2 = true then (putV b ((blkOf b.ws (rtA b ri).2).1 + 3 + 4 * (findA b.ws (blkOf b.ws (rtA b ri).2).1 (blkOf b.ws (rtA b ri).2).2 (rtA b ki)).1) (rtA b fi), 0)
  else if (rtA b fi).1 = 0 then (b, 0)
  else if 4 * (gw b.ws ((rtA b ri).2 + 1) + 1) > 3 * (blkOf b.ws (rtA b ri).2).2 then gkR b ri ki fi
  else ({ b with ws := setW (layW (blkOf b.ws (rtA b ri).2).1 (blkOf b.ws (rtA b ri).2).2 b.ws (rtA b ki) (rtA b fi)) ((rtA b ri).2 + 1) (uW (gw b.ws ((rtA b ri).2 + 1) + 1)) }, 0)) := rfl
 have hFd : (blkOf b.ws (rtA b ri).2).2 = 0 ∨ BlkOk b (blkOf b.ws (rtA b ri).2).1 (blkOf b.ws (rtA b ri).2).2 ∧ ((rtA b ki).1 = 0 ∨ KeyOk b (rtA b ki)) := by
  rcases T.b with ⟨e, _⟩ | ⟨_, _, _, _, b5, _⟩
  ·rw [e]; exact .inl rfl
  ·exact .inr ⟨b5, .inr hb.keyOk⟩
 have bnd : 0 < (blkOf b.ws (rtA b ri).2).2 → 1 ≤ (blkOf b.ws (rtA b ri).2).1 ∧ (blkOf b.ws (rtA b ri).2).1 + 4 * (blkOf b.ws (rtA b ri).2).2 < b.ws.length ∧ ((rtA b ri).2 + 4 ≤ (blkOf b.ws (rtA b ri).2).1 ∨ (blkOf b.ws (rtA b ri).2).1 + 4 * (blkOf b.ws (rtA b ri).2).2 + 1 ≤ (rtA b ri).2) := fun hp => by
  obtain ⟨q1, q2, q3, q4⟩ := Ob.b.resolve_left (by omega)
  have := hb.ok.at q1
  have nap := hb.ok.apart hb.root.2 q1 (fun e => by have h2 := hb.kd; rw [e, q2] at h2; cases h2)
  rw [T.sz, q3] at nap
  omega
 obtain ⟨tb, etb⟩ : ∃ tb, tb = (rtA b ri).2 := ⟨_, rfl⟩
 have etb' : (b.rs.getD ri.toNat (0, 0)).2 = tb := by rw [etb]; rfl
 rw [← etb] at T Ob o0 o1 us t0 t1 eS hFd bnd ⊢
 obtain ⟨n, en⟩ : ∃ n, n = (blkOf b.ws tb).2 := ⟨_, rfl⟩
 obtain ⟨bk, ebk⟩ : ∃ bk, bk = (blkOf b.ws tb).1 := ⟨_, rfl⟩
 rw [← en, ← ebk] at us eS hFd bnd
 rw [← en] at o0 o1
 rw [← en, ← ebk]
 refine ⟨Mem.le m4, Mem.le_refl _, _, _, _, held (cO im4.p 0), _, held (cO im4.p 1), _, held (cO im4.p 2), _, held (cO im4.p 3), _, held (cO im4.p 4), _, held (cO im4.p 5), _, held (cO im4.p 6), _, held (cO im4.p 7), _, held (cO im4.p 8), _, _, _, held (cO im4.p 9), _, _, _, held (cO im4.p 9), rgetH A4.r k4 hb.k0 (by have := hb.k1; omega) fun ad had c1 c2 => ⟨_, fun q hq => c1 q (A4.r.le hq), _, fun q hq => c2 q (A4.r.le hq), ?_⟩⟩
 refine via h179 ⟨⟨wa, wn, wc⟩, ⟨ra, rn, rc⟩, b, bk, n, rtA b ki, rfl, A4, hwb, hFd, _, _, rfl, Mem.le_refl _, ?_⟩
 have hF := find_yes (ws := b.ws) (n := n) (b := bk) o0 h0
 have hR := find_room (n := n) (b := bk) (ws := b.ws) (key := rtA b ki)
 have w3' : ∀ e : Int, 0 ≤ e → e < n → IntKind.i64.wrap (IntKind.i64.wrap (bk + 3) + IntKind.i64.wrap (4 * e)) = bk + 3 + 4 * e := fun e e0 e1 => by have := bnd (by omega); rw [w64 (x := bk + 3) (by omega) (by omega), w64 (x := 4 * e) (by omega) (by omega), w64 (by omega) (by omega)]
 have w1' : ∀ e : Int, 0 ≤ e → e < n → IntKind.i64.wrap (IntKind.i64.wrap (bk + 1) + IntKind.i64.wrap (4 * e)) = bk + 1 + 4 * e := fun e e0 e1 => by have := bnd (by omega); rw [w64 (x := bk + 1) (by omega) (by omega), w64 (x := 4 * e) (by omega) (by omega), w64 (by omega) (by omega)]
 show if (findA b.ws bk n (rtA b ki)).2 = true then _ else _
 by_cases ce : (findA b.ws bk n (rtA b ki)).2 = true
 ·rw [if_pos ce]
  rw [if_pos ce] at eS
  obtain ⟨f2, f0, f1⟩ := hF ce
  obtain ⟨e, ee⟩ : ∃ e, e = (findA b.ws bk n (rtA b ki)).1 := ⟨_, rfl⟩
  rw [← ee] at f0 f1 eS
  have bd := bnd f2
  rw [eS] at hQ
  refine ⟨fun q => q g1 = m4 g1 ∧ Rd q ra b.rs, ⟨rfl, A4.r⟩, _, _, _, fun q hq => cO (hq.1.trans im4.p) 0, _, fun q hq => cO (hq.1.trans im4.p) 1, _, fun q hq => cO (hq.1.trans im4.p) 2, _, fun q hq => cO (hq.1.trans im4.p) 3, _, fun q hq => cO (hq.1.trans im4.p) 4, _, fun q hq => cO (hq.1.trans im4.p) 5, _, fun q hq => cO (hq.1.trans im4.p) 6, _, fun q hq => cO (hq.1.trans im4.p) 7, _, fun q hq => cO (hq.1.trans im4.p) 8, _, _, _, fun q hq => cO (hq.1.trans im4.p) 9, _, _, _, fun q hq => cO (hq.1.trans im4.p) 9, rgetH A4.r k4 hb.f0 (by have := hb.f1; omega) fun ad had c1 c2 => ⟨_, fun q hq => c1 q hq.2, _, fun q hq => c2 q hq.2, ?_⟩⟩
  refine via h147 ⟨⟨wa, wn, wc⟩, ⟨ra, rn, rc⟩, b, D, bk + 3 + 4 * e, rtA b fi, by rw [← w3' e f0 f1, ee]; rfl, im4.w, by omega, by omega, hn, fun m5 o5 w5 => ⟨_, _, _, _, _, _, _, _, _, _, _, _, _, _, rfl, ⟨o5 g1 im4.g, w5.at.r⟩, ?_⟩⟩
  refine sto_ar ((o5 g3 d3).trans h34) fun m6 e6 q6 ne6 => ⟨⟨(ne6 g1 n13).trans (o5 g1 im4.g), (w5.ext fun q hq => ne6 q fun e => d3 (e ▸ hq)).at.r⟩, ?_⟩
  have p6 : Ptr m6 g3 ⟨wa, wn, wc⟩ ⟨ra, rn, rc⟩ (putV b (bk + 3 + 4 * e) (rtA b fi)) := q6
  exact (stR_ok ⟨p6, w5.ext fun q hq => ne6 q fun e => d3 (e ▸ hq), d3⟩ ((O4.trans (Off.of_eq o5)).fresh z3 ne6) hQ : stR Q g3 0 m6)
 rw [if_neg ce]
 rw [if_neg ce] at eS
 refine ⟨_, _, _, cO im4.p 9, rget A4.r k4 hb.f0 (by have := hb.f1; omega) fun ad had c1 c2 => ⟨_, c1, ?_⟩⟩
 by_cases c0 : (rtA b fi).1 = 0
 ·rw [if_pos (by show ((rtA b fi).1 == 0) = true; simpa using c0)]
  rw [if_pos c0] at eS
  rw [eS] at hQ
  exact (stT_ok im4 h34 z3 d3 O4 hQ : stT Q g1 g3 0 m4)
 rw [if_neg (by show ¬ ((rtA b fi).1 == 0) = true; simpa using c0)]
 rw [if_neg c0] at eS
 refine ⟨_, _, _, cO im4.p 9, rget A4.r k4 hb.r0 (by have := hb.r1; omega) fun ad had c1 c2 => ⟨_, c2, _, _, _, cO im4.p 0, _, cO im4.p 1, _, cO im4.p 2, _, cO im4.p 3, _, cO im4.p 4, _, cO im4.p 5, _, cO im4.p 6, _, cO im4.p 7, _, cO im4.p 8, _, _, _, cO im4.p 9, ?_⟩⟩
 rw [etb']
 obtain ⟨u, eu⟩ : ∃ u, u = gw b.ws (tb + 1) := ⟨_, rfl⟩
 rw [← eu] at us eS
 have ur := usedW_range b.ws bk n.toNat
 obtain ⟨us1, us2⟩ := us
 have wu : wordW b.ws tb 1 = u := by unfold wordW; rw [← eu]; exact w64 (by omega) (by omega)
 refine via h175 ⟨⟨wa, wn, wc⟩, ⟨ra, rn, rc⟩, b, tb, 1, rfl, A4, hwb, by omega, by omega, by omega, _, rfl, ?_⟩
 rw [wu, w64 (x := u + 1) (by omega) (by omega), w64 (x := 4 * (u + 1)) (by omega) (by omega), w64 (x := 3 * n) (by omega) (by omega)]
 by_cases cr : 4 * (u + 1) > 3 * n
 ·rw [if_pos (by simpa using cr)]
  rw [if_pos cr] at eS
  rw [eS] at hQ
  refine ⟨_, _, _, cO im4.p 0, _, cO im4.p 1, _, cO im4.p 2, _, cO im4.p 3, _, cO im4.p 4, _, cO im4.p 5, _, cO im4.p 6, _, cO im4.p 7, _, cO im4.p 8, _, _, _, cO im4.p 9, via h245 ⟨⟨wa, wn, wc⟩, ⟨ra, rn, rc⟩, b, D, ri, ki, fi, rfl, im4.w, hb, c0, fun m5 o5 w5 => ⟨_, _, _, _, _, _, _, _, _, _, _, _, _, _, _, rfl, ?_⟩⟩⟩
  refine sto_ar ((o5 g3 d3).trans h34) fun m6 e6 q6 ne6 => ?_
  have p6 : Ptr m6 g3 ⟨wa, wn, wc⟩ ⟨ra, rn, rc⟩ (gkR b ri ki fi).1 := q6
  exact (stR_ok ⟨p6, w5.ext fun q hq => ne6 q fun e => d3 (e ▸ hq), d3⟩ ((O4.trans (Off.of_eq o5)).fresh z3 ne6) hQ : stR Q g3 (gkR b ri ki fi).2 m6)
 ·rw [if_neg (by simpa using cr)]
  rw [if_neg cr] at eS
  obtain ⟨f0, f1⟩ := hR (by omega) h0 hb.kn (by rw [← us1]; omega)
  have bd := bnd (by omega)
  unfold layW at eS
  obtain ⟨e, ee⟩ : ∃ e, e = (findA b.ws bk n (rtA b ki)).1 := ⟨_, rfl⟩
  rw [← ee] at f0 f1 eS
  have w1 : IntKind.i64.wrap (tb + 1) = tb + 1 := w64 (by omega) (by omega)
  rw [if_neg (by rw [← ee]; simp; omega), w1]
  refine ⟨_, _, _, cO im4.p 0, im4.put_w (by omega) (by omega) fun m5 o5 im5 => ?_⟩
  have A5 := im5.w.at
  have k5 := A5.k
  have eC : { b with ws := setW (setW (setW (setW (setW b.ws (bk + 1 + 4 * e) (uW (rtA b ki).1)) (bk + 1 + 4 * e + 1) (uW (rtA b ki).2)) (bk + 3 + 4 * e) (uW (rtA b fi).1)) (bk + 3 + 4 * e + 1) (uW (rtA b fi).2)) (tb + 1) (uW (u + 1)) } = putV (putV { b with ws := setW b.ws (tb + 1) (IntKind.u64.wrap (u + 1)) } (bk + 1 + 4 * e) (rtA b ki)) (bk + 3 + 4 * e) (rtA b fi) := by
   unfold putV
   simp only
   rw [setW_comm (i := bk + 3 + 4 * e + 1) (by omega) (by omega) (by omega), setW_comm (i := bk + 3 + 4 * e) (j := tb + 1) (by omega) (by omega) (by omega), setW_comm (i := bk + 1 + 4 * e + 1) (j := tb + 1) (by omega) (by omega) (by omega), setW_comm (i := bk + 1 + 4 * e) (j := tb + 1) (by omega) (by omega) (by omega)]
   rfl
  rw [eC] at eS
  rw [eS] at hQ
  obtain ⟨b', eb'⟩ : ∃ b', b' = { b with ws := setW b.ws (tb + 1) (IntKind.u64.wrap (u + 1)) } := ⟨_, rfl⟩
  have br : b'.rs = b.rs := by rw [eb']
  have bl : b'.ws.length = b.ws.length := by rw [eb']; exact setW_len _ _ _
  rw [← eb'] at hQ im5 A5 k5
  have R5 : Rd m5 ra b.rs := by have := A5.r; rw [br] at this; exact this
  have kr : b.rs.length = rn := by rw [← br]; exact k5
  refine ⟨fun q => q g1 = m5 g1 ∧ Rd q ra b.rs, ⟨rfl, R5⟩, _, _, _, fun q hq => cO (hq.1.trans im5.p) 0, _, fun q hq => cO (hq.1.trans im5.p) 1, _, fun q hq => cO (hq.1.trans im5.p) 2, _, fun q hq => cO (hq.1.trans im5.p) 3, _, fun q hq => cO (hq.1.trans im5.p) 4, _, fun q hq => cO (hq.1.trans im5.p) 5, _, fun q hq => cO (hq.1.trans im5.p) 6, _, fun q hq => cO (hq.1.trans im5.p) 7, _, fun q hq => cO (hq.1.trans im5.p) 8, _, _, _, fun q hq => cO (hq.1.trans im5.p) 9, _, _, _, fun q hq => cO (hq.1.trans im5.p) 9, rgetH R5 kr hb.k0 (by have := hb.k1; omega) fun ad had c1 c2 => ⟨_, fun q hq => c1 q hq.2, _, fun q hq => c2 q hq.2, ?_⟩⟩
  refine via h147 ⟨⟨wa, wn, wc⟩, ⟨ra, rn, rc⟩, b', D, bk + 1 + 4 * e, rtA b ki, by rw [← w1' e f0 f1, ee, eb']; rfl, im5.w, by omega, by omega, by omega, fun m6 o6 w6 => ⟨_, _, _, _, _, _, _, _, _, _, _, _, _, _, rfl, ⟨o6 g1 im5.g, by have := w6.at.r; exact br ▸ this⟩, ?_⟩⟩
  refine put_all ((o6 g1 im5.g).trans im5.p) w6 im5.g fun m7 o7 im7 => ?_
  have R7 : Rd m7 ra b.rs := by have := im7.w.at.r; exact br ▸ this
  refine ⟨fun q => q g1 = m7 g1 ∧ Rd q ra b.rs, ⟨rfl, R7⟩, _, _, _, fun q hq => cO (hq.1.trans im7.p) 0, _, fun q hq => cO (hq.1.trans im7.p) 1, _, fun q hq => cO (hq.1.trans im7.p) 2, _, fun q hq => cO (hq.1.trans im7.p) 3, _, fun q hq => cO (hq.1.trans im7.p) 4, _, fun q hq => cO (hq.1.trans im7.p) 5, _, fun q hq => cO (hq.1.trans im7.p) 6, _, fun q hq => cO (hq.1.trans im7.p) 7, _, fun q hq => cO (hq.1.trans im7.p) 8, _, _, _, fun q hq => cO (hq.1.trans im7.p) 9, _, _, _, fun q hq => cO (hq.1.trans im7.p) 9, rgetH R7 kr hb.f0 (by have := hb.f1; omega) fun ad had c1 c2 => ⟨_, fun q hq => c1 q hq.2, _, fun q hq => c2 q hq.2, ?_⟩⟩
  refine via h147 ⟨⟨wa, wn, wc⟩, ⟨ra, rn, rc⟩, putV b' (bk + 1 + 4 * e) (rtA b ki), D, bk + 3 + 4 * e, rtA b fi, by rw [← w3' e f0 f1, ee]; rfl, im7.w, by omega, by rw [put_len]; omega, by rw [put_len]; omega, fun m8 o8 w8 => ⟨_, _, _, _, _, _, _, _, _, _, _, _, _, _, rfl, ⟨o8 g1 im7.g, by have := w8.at.r; exact br ▸ this⟩, ?_⟩⟩
  have h38 : m8 g3 = some (.cells zAr 27 (0, 0)) := by rw [o8 g3 d3, o7 g3 n31, o6 g3 d3, o5 g3 d3]; exact h34
  refine sto_ar h38 fun m9 e9 q9 ne9 => ⟨⟨(ne9 g1 n13).trans (o8 g1 im7.g), by have := (w8.ext fun q hq => ne9 q fun e => d3 (e ▸ hq)).at.r; exact br ▸ this⟩, ?_⟩
  have p9 : Ptr m9 g3 ⟨wa, wn, wc⟩ ⟨ra, rn, rc⟩ (putV (putV b' (bk + 1 + 4 * e) (rtA b ki)) (bk + 3 + 4 * e) (rtA b fi)) := q9
  have O9 : Off D m m9 := (((((O4.trans (Off.of_eq o5)).trans (Off.of_eq o6)).fresh hg1 o7).trans (Off.of_eq o8)).fresh z3 ne9)
  exact (stR_ok ⟨p9, w8.ext fun q hq => ne9 q fun e => d3 (e ▸ hq), d3⟩ O9 hQ : stR Q g3 0 m9)
def ksB (call : FuncId → Spec) (Q : Value → Mem → Prop) (g1 g3 : Nat) (m563 : Mem) : Prop :=
 (rA m563 g1 fun w0 => (call 108 [(.agg w0.toArray)] m563 fun v588 m589 => (wA v588 fun w2 => (stoA m589 ⟨g3, 0, none⟩ w2 fun m604 => (rA m604 g3 fun w1 => ret Q (.tuple #[(.agg w1.toArray), (.int .i64 (1 : Int))]) m604)))))
theorem ksB_ok (t : Tab) (h108 : look t 108 = s108) {Q : Value → Mem → Prop} {g1 g3 : Nat} {s r : Sl} {a : Ar} {M m : Mem} (p : Ptr M g1 s r a) (hA : ArAt M s r a) (hw : a.wf) (h3 : M g3 = some (.cells zAr 27 (0, 0))) (z3 : m g3 = none) {D0 : List Nat} (hD0 : ∀ b ∈ D0, m b = none) (hO : Off D0 m M) (hd3 : g3 ∉ D0)
  (hQ : ncK m (a, 1) Q) : ksB (look t) Q g1 g3 M := by
 unfold ksB
 refine ⟨_, _, _, cO p 0, _, cO p 1, _, cO p 2, _, cO p 3, _, cO p 4, _, cO p 5, _, cO p 6, _, cO p 7, _, cO p 8, _, _, _, cO p 9, via h108 ⟨s, r, a, rfl, hA, hw, fun s' r' D m3 l3 w3 f3 => ⟨_, _, _, _, _, _, _, _, _, _, _, _, _, _, rfl, ?_⟩⟩⟩
 obtain ⟨wa, wn, wc⟩ := s'
 obtain ⟨ra, rn, rc⟩ := r'
 have d3 : g3 ∉ D := fun h => by have := f3 g3 h; rw [h3] at this; cases this
 refine sto_ar (l3 _ _ h3) fun m4 e4 q4 ne4 => ?_
 have p4 : Ptr m4 g3 ⟨wa, wn, wc⟩ ⟨ra, rn, rc⟩ a := q4
 refine ⟨_, _, _, cO p4 0, _, cO p4 1, _, cO p4 2, _, cO p4 3, _, cO p4 4, _, cO p4 5, _, cO p4 6, _, cO p4 7, _, cO p4 8, _, _, _, cO p4 9, ?_⟩
 have hD : ∀ b ∈ D, m b = none := fun b hb => by
  cases e : m b with
  | none => rfl
  | some o =>
   by_cases h0 : b ∈ D0
   ·rw [hD0 b h0] at e; cases e
   ·have := hO b o h0 e; rw [f3 b hb] at this; cases this
 have O4 : Off (D0 ++ D) m m4 := fun x o hx e => by
  have hx0 : x ∉ D0 := fun h => hx (by simp [h])
  have x3 : x ≠ g3 := fun h => by rw [h, z3] at e; cases e
  rw [ne4 x x3]
  exact l3 _ _ (hO x o hx0 e)
 refine ⟨mixM D m m4, ?_, hQ ⟨wa, wn, wc⟩ ⟨ra, rn, rc⟩ D (mixM D m m4) (le_new (fun b hb => mix_off hb) hD) ((w3.ext fun q hq => ne4 q fun e => d3 (e ▸ hq)).ext fun b hb => mix_in hb) hD⟩
 intro b o e
 by_cases hb : b ∈ D
 ·rwa [mix_in hb] at e
 ·rw [mix_off hb] at e
  have hb0 : b ∉ D0 := fun h => by rw [hD0 b h] at e; cases e
  exact O4 b o (by simp [hb, hb0]) e
def s208 : Spec := fun args m Q => ∃ (s r : Sl) (a : Ar) (ri ki fi : Int), args = [vA s r a, .int .i64 ri, .int .i64 ki, .int .i64 fi] ∧ ArAt m s r a ∧ a.wf ∧ ncK m (skA a ri ki fi) Q
theorem f208 (t : Tab) (h108 : look t 108 = s108) (h20 : look t 20 = s20) (h136 : look t 136 = s136) (h155 : look t 155 = s155) (h226 : look t 226 = s226) : Mt t s208 kp208 Tryz.f208 := by
 intro args m Q hh
 obtain ⟨s, r, a, ri, ki, fi, ha, hA, hw, hQ⟩ := hh
 have ha : args = [aG s r a, .int .i64 ri, .int .i64 ki, .int .i64 fi] := ha
 rw [ha, e208]
 refine newA_intro fun g1 m1 hg1 e1 hb1 hle1 => newA_intro fun g3 m2 hg3 e2 hb3 hle2 => ?_
 have l2 := Mem.le_trans hle1 hle2
 have p1 : Ptr m2 g1 s r a := hle2 _ _ hb1
 have n13 : g1 ≠ g3 := ne_of_none hg3 hb1
 have z3 := le_none hle1 hg3
 refine ⟨_, _, _, cO p1 0, _, cO p1 1, _, cO p1 2, _, cO p1 3, _, cO p1 4, _, cO p1 5, _, cO p1 6, _, cO p1 7, _, cO p1 8, _, _, _, cO p1 9, via h108 ⟨s, r, a, rfl, hA.le l2, hw, fun s' r' D m3 l3 w3 f3 => ⟨_, _, _, _, _, _, _, _, _, _, _, _, _, _, rfl, ?_⟩⟩⟩
 have hD : ∀ b ∈ D, m b = none := fun b hb => le_none l2 (f3 b hb)
 have d3 : g3 ∉ D := fun h => by have := f3 g3 h; rw [hb3] at this; cases this
 have d1 : g1 ∉ D := fun h => by have := f3 g1 h; rw [p1] at this; cases this
 refine newA_intro fun g5 m4 hg5 e4 hb5 hle4 => ?_
 obtain ⟨wa, wn, wc⟩ := s'
 obtain ⟨ra, rn, rc⟩ := r'
 refine sto_ar hb5 fun m5 e5 q5 ne5 => ?_
 have p5 : Ptr m5 g5 ⟨wa, wn, wc⟩ ⟨ra, rn, rc⟩ a := q5
 have l5 : Mem.le m3 m5 := le_other hle4 hg5 ne5
 have im5 : Im m5 g5 ⟨wa, wn, wc⟩ ⟨ra, rn, rc⟩ a D := ⟨p5, w3.le l5, w3.fresh hg5⟩
 have L5 := Mem.le_trans (Mem.le_trans l2 l3) l5
 have p15 : Ptr m5 g1 s r a := l5 _ _ (l3 _ _ p1)
 have h35 := l5 _ _ (l3 _ _ hb3)
 have A5 := hA.le L5
 have k5 := A5.k
 have bad : skA a ri ki fi = (a, 1) → stT Q g5 g3 1 m5 := fun eA => by
  rw [eA] at hQ
  exact ret_nc im5 h35 z3 d3 (Off.of_le L5) hD hQ
 refine ⟨_, _, _, cO p15 0, _, cO p15 1, _, cO p15 2, _, cO p15 3, _, cO p15 4, _, cO p15 5, _, cO p15 6, _, cO p15 7, _, cO p15 8, _, _, _, cO p15 9, via h20 ⟨s, r, a, rfl, A5, hw, _, rfl, ?_⟩⟩
 by_cases hk : okP a
 case neg =>
  rw [pB_no hk, if_pos (by decide)]
  exact bad (if_neg fun h => hk h.1)
 rw [pB_yes hk, if_neg (by decide)]
 refine ⟨_, _, _, cO p15 0, _, cO p15 1, _, cO p15 2, _, cO p15 3, _, cO p15 4, _, cO p15 5, _, cO p15 6, _, cO p15 7, _, cO p15 8, _, _, _, cO p15 9, via h155 ⟨s, r, a, ri, rfl, A5, hw, _, rfl, ?_⟩⟩
 by_cases h4 : (0 ≤ ri ∧ ri < a.rs.length) ∧ (rtA a ri).1 = 4
 case neg =>
  rw [pB_no h4, if_pos (by decide)]
  exact bad (if_neg fun h => h4 h.2.1)
 rw [pB_yes h4, if_neg (by decide)]
 refine ⟨_, _, _, cO p15 0, _, cO p15 1, _, cO p15 2, _, cO p15 3, _, cO p15 4, _, cO p15 5, _, cO p15 6, _, cO p15 7, _, cO p15 8, _, _, _, cO p15 9, via h136 ⟨s, r, a, ki, rfl, A5, hw, _, rfl, ?_⟩⟩
 by_cases hki : 0 ≤ ki ∧ ki < a.rs.length
 case neg =>
  rw [decide_eq_false hki, if_pos (by decide)]
  exact bad (if_neg fun h => hki h.2.2.1)
 rw [decide_eq_true hki, if_neg (by decide)]
 refine ⟨_, _, _, cO p15 0, _, cO p15 1, _, cO p15 2, _, cO p15 3, _, cO p15 4, _, cO p15 5, _, cO p15 6, _, cO p15 7, _, cO p15 8, _, _, _, cO p15 9, via h136 ⟨s, r, a, fi, rfl, A5, hw, _, rfl, ?_⟩⟩
 by_cases hf : 0 ≤ fi ∧ fi < a.rs.length
 case neg =>
  rw [decide_eq_false hf, if_pos (by decide)]
  exact bad (if_neg fun h => hf h.2.2.2.1)
 rw [decide_eq_true hf, if_neg (by decide)]
 refine ⟨_, _, _, cO p15 9, rget A5.r k5 hki.1 (by omega) fun ad had c1 c2 => ⟨_, c1, ?_⟩⟩
 by_cases hk0 : (rtA a ki).1 = 0
 ·rw [if_pos (by show ((rtA a ki).1 == 0) = true; simp [hk0])]
  exact bad (if_neg fun h => h.2.2.2.2.1 hk0)
 rw [if_neg (by show ¬ ((rtA a ki).1 == 0) = true; simp [hk0])]
 refine ⟨_, _, _, cO p15 9, rget A5.r k5 hki.1 (by omega) fun ad had c1 c2 => ⟨_, c1, ?_⟩⟩
 by_cases hk9 : (rtA a ki).1 = 9
 ·rw [if_pos (by show ((rtA a ki).1 == 9) = true; simp [hk9])]
  exact bad (if_neg fun h => h.2.2.2.2.2.1 hk9)
 rw [if_neg (by show ¬ ((rtA a ki).1 == 9) = true; simp [hk9])]
 refine ⟨_, _, _, cO p15 9, rget A5.r k5 hf.1 (by omega) fun ad had c1 c2 => ⟨_, c1, ?_⟩⟩
 by_cases hf9 : (rtA a fi).1 = 9
 ·rw [if_pos (by show ((rtA a fi).1 == 9) = true; simp [hf9])]
  exact bad (if_neg fun h => h.2.2.2.2.2.2 hf9)
 rw [if_neg (by show ¬ ((rtA a fi).1 == 9) = true; simp [hf9])]
 have hP : skP a ri ki fi := ⟨hk, h4, hki, hf, hk0, hk9, hf9⟩
 have eA : skA a ri ki fi = if (skR a ri ki fi).2 = 1 then (a, 1) else skR a ri ki fi := if_pos hP
 rw [eA] at hQ
 refine ⟨_, _, _, cO p5 0, _, cO p5 1, _, cO p5 2, _, cO p5 3, _, cO p5 4, _, cO p5 5, _, cO p5 6, _, cO p5 7, _, cO p5 8, _, _, _, cO p5 9, via h226 ⟨⟨wa, wn, wc⟩, ⟨ra, rn, rc⟩, a, D, ri, ki, fi, rfl, im5.w, skOk_of hw hP, fun m6 o6 w6 => ⟨_, _, _, _, _, _, _, _, _, _, _, _, _, _, _, rfl, ?_⟩⟩⟩
 generalize skR a ri ki fi = q at *
 refine newA_intro fun g7 m7 hg7 e7 hb7 hle7 => ?_
 refine sto_ar hb7 fun m8 e8 q8 ne8 => ?_
 have p8 : Ptr m8 g7 ⟨wa, wn, wc⟩ ⟨ra, rn, rc⟩ q.1 := q8
 have l8 : Mem.le m6 m8 := le_other hle7 hg7 ne8
 have im8 : Im m8 g7 ⟨wa, wn, wc⟩ ⟨ra, rn, rc⟩ q.1 D := ⟨p8, w6.le l8, w6.fresh hg7⟩
 have h38 := l8 _ _ ((o6 g3 d3).trans h35)
 have O8 : Off D m m8 := ((Off.of_le L5).trans (Off.of_eq o6)).trans (Off.of_le l8)
 by_cases c1 : q.2 = 1
 ·rw [if_pos (by simpa using c1)]
  rw [if_pos c1] at hQ
  have p18 : Ptr m8 g1 s r a := l8 _ _ ((o6 g1 d1).trans p15)
  have A8 : ArAt m8 s r a := hA.le fun b o e => O8 b o (fun h => by rw [hD b h] at e; cases e) e
  exact (ksB_ok t h108 p18 A8 hw h38 z3 hD O8 d3 hQ : ksB (look t) Q g1 g3 m8)
 ·rw [if_neg (by simpa using c1)]
  rw [if_neg c1] at hQ
  exact (ret_nc im8 h38 z3 d3 O8 hD hQ : stT Q g7 g3 q.2 m8)
def mkT (ws : List U64) (k : Int) : List Int → List Int → List Int
 | [], mk => mk
 | p :: T, mk => mkT ws k T (setI mk p (if okW (gw ws p) = true then k else 3))
theorem mkT_len (ws : List U64) (k : Int) : ∀ (T mk : List Int), (mkT ws k T mk).length = mk.length
 | [], _ => rfl
 | p :: T, mk => by unfold mkT; rw [mkT_len ws k T, setI_len]
theorem gi_mkT {ws : List U64} {k : Int} : ∀ (T mk : List Int), (∀ p ∈ T, 0 ≤ p ∧ p < mk.length) → ∀ q : Int, 0 ≤ q → gi (mkT ws k T mk) q = if q ∈ T then (if okW (gw ws q) = true then k else 3) else gi mk q
 | [], mk, _, q, _ => by unfold mkT; simp
 | p :: T, mk, h, q, q0 => by
  have hp := h p (by simp)
  unfold mkT
  rw [gi_mkT T _ (fun r hr => by rw [setI_len]; exact h r (by simp [hr])) q q0, gi_set hp.1 hp.2 q0]
  by_cases c : q ∈ T
  ·rw [if_pos c, if_pos (show q ∈ p :: T from List.mem_cons_of_mem _ c)]
  ·rw [if_neg c]
   by_cases e : q = p
   ·subst e
    rw [if_pos rfl, if_pos (show q ∈ q :: T from List.mem_cons_self ..)]
   ·rw [if_neg e, if_neg (show q ∉ p :: T from fun k => (List.mem_cons.1 k).elim e c)]
theorem chain_many {f : Int → Int} : ∀ {T : List Int} {s e : Int}, Chain f s e T → (T.length : Int) ≤ e - s
 | [], s, e, h => by have h : s = e := h; simp; omega
 | p :: T, s, e, ⟨h1, h2, h3, h4⟩ => by
  have := chain_many h4
  simp only [List.length_cons]
  omega
theorem wk_of {a : Ar} {to_ k : Int} : ∀ (T : List Int) (f : Nat) (p : Int) (mk led : List Int) (sum : Int), 0 ≤ p → Chain (szC a.ws) p to_ T → T.length < f → to_ ≤ mk.length → (∀ q ∈ T, okW (gw a.ws q) = true → serW a.ws q < a.ser) →
  (∀ q ∈ T, okW (gw a.ws q) = false → k = 2 ∧ (fwd (gw a.ws q)).2 = true ∧ toW a.ws q < a.ws.length ∧ gi mk (toW a.ws q) = 1 ∧ toW a.ws q ∉ led ∧ (toW a.ws q < p ∨ to_ ≤ toW a.ws q)) →
  (∀ q ∈ T, ∀ r ∈ T, q ≠ r → okW (gw a.ws q) = false → okW (gw a.ws r) = false → toW a.ws q ≠ toW a.ws r) → wk a to_ k f p mk led sum = some (mkT a.ws k T mk, sum + (to_ - p - sumC a.ws T))
 | [], f + 1, p, mk, led, sum, _, h, _, _, _, _, _ => by
  have h : p = to_ := h
  unfold wk
  rw [if_pos h]
  show some (mk, sum) = some (mk, sum + (to_ - p - 0))
  rw [show sum + (to_ - p - 0) = sum by omega]
 | p' :: T, f + 1, p, mk, led, sum, p0, ⟨e, z0, z1, hc⟩, hf, tl, hs, hg, hi => by
  subst e
  have hcl := hc.le
  have nin : ∀ q ∈ T, p' + szC a.ws p' + 1 ≤ q := fun q hq => (hc.mem q hq).1
  unfold wk
  rw [if_neg (by omega)]
  have tob := fun q => fwd_b (gw a.ws q)
  by_cases ho : okW (gw a.ws p') = true
  ·have ez : szC a.ws p' = szW a.ws p' := if_pos ho
   rw [ez] at hc z0 z1 nin hcl
   rw [if_pos ho, if_pos ⟨hs p' (by simp) ho, z1⟩]
   rw [wk_of T f _ _ led sum (by omega) hc (by simpa using hf) (by rw [setI_len]; exact tl) (fun q hq => hs q (by simp [hq])) (fun q hq hn => ?_) fun q hq r hr => hi q (by simp [hq]) r (by simp [hr])]
   ·rw [show mkT a.ws k (p' :: T) mk = mkT a.ws k T (setI mk p' (if okW (gw a.ws p') = true then k else 3)) from rfl, if_pos ho, show sumC a.ws (p' :: T) = (if okW (gw a.ws p') = true then szW a.ws p' + 1 else 0) + sumC a.ws T from rfl, if_pos ho, show sum + (to_ - (p' + szW a.ws p' + 1) - sumC a.ws T) = sum + (to_ - p' - (szW a.ws p' + 1 + sumC a.ws T)) by omega]
   ·obtain ⟨g1, g2, g3, g4, g5, g6⟩ := hg q (by simp [hq]) hn
    have t0 := (tob q).1
    refine ⟨g1, g2, g3, ?_, g5, by unfold toW at *; omega⟩
    rw [gi_set p0 (by omega) (by unfold toW; exact t0), if_neg (by omega)]
    exact g4
  ·have ho' : okW (gw a.ws p') = false := by simpa using ho
   obtain ⟨g1, g2, g3, g4, g5, g6⟩ := hg p' (by simp) ho'
   have ez : szC a.ws p' = szW a.ws (toW a.ws p') := if_neg ho
   rw [ez] at hc z0 z1 nin hcl
   rw [if_neg ho, if_pos ⟨g1, g2, g3, g4, g5, z1⟩]
   rw [wk_of T f _ _ (toW a.ws p' :: led) _ (by omega) hc (by simpa using hf) (by rw [setI_len]; exact tl) (fun q hq => hs q (by simp [hq])) (fun q hq hn => ?_) fun q hq r hr => hi q (by simp [hq]) r (by simp [hr])]
   ·rw [show mkT a.ws k (p' :: T) mk = mkT a.ws k T (setI mk p' (if okW (gw a.ws p') = true then k else 3)) from rfl, if_neg ho, show sumC a.ws (p' :: T) = (if okW (gw a.ws p') = true then szW a.ws p' + 1 else 0) + sumC a.ws T from rfl, if_neg ho, show sum + szW a.ws (toW a.ws p') + 1 + (to_ - (p' + szW a.ws (toW a.ws p') + 1) - sumC a.ws T) = sum + (to_ - p' - (0 + sumC a.ws T)) by omega]
   ·obtain ⟨k1, k2, k3, k4, k5, k6⟩ := hg q (by simp [hq]) hn
    have t0 := (tob q).1
    have hne : q ≠ p' := fun e => by have := nin q hq; omega
    have hd := hi q (by simp [hq]) p' (by simp) hne hn ho'
    refine ⟨k1, k2, k3, ?_, by simp [hd, k5], by omega⟩
    rw [gi_set p0 (by omega) (by unfold toW; exact t0), if_neg (by omega)]
    exact k4
theorem wk_led {a : Ar} {to_ k : Int} : ∀ (f : Nat) (T : List Int) (p : Int) (mk led : List Int) (sum : Int) (r : List Int × Int), Chain (szC a.ws) p to_ T → wk a to_ k f p mk led sum = some r →
  (∀ q ∈ T, okW (gw a.ws q) = false → toW a.ws q ∉ led) ∧ (∀ q ∈ T, ∀ r ∈ T, q ≠ r → okW (gw a.ws q) = false → okW (gw a.ws r) = false → toW a.ws q ≠ toW a.ws r) ∧ ∀ q ∈ T, okW (gw a.ws q) = true → serW a.ws q < a.ser
 | 0, _, _, _, _, _, _, _, h => by cases h
 | f + 1, [], p, mk, led, sum, r, _, _ => ⟨fun q hq => (by cases hq), fun q hq => (by cases hq), fun q hq => (by cases hq)⟩
 | f + 1, p' :: T, p, mk, led, sum, r, ⟨e, z0, z1, hc⟩, h => by
  subst e
  have hcl := hc.le
  unfold wk at h
  rw [if_neg (by omega)] at h
  by_cases ho : okW (gw a.ws p') = true
  ·have ez : szC a.ws p' = szW a.ws p' := if_pos ho
   rw [ez] at hc
   rw [if_pos ho] at h
   split at h
   ·rename_i c
    obtain ⟨i1, i2, i3⟩ := wk_led f T _ _ _ _ _ hc h
    refine ⟨fun q hq hn => ?_, fun q hq r hr hne hn hm => ?_, fun q hq hk => ?_⟩
    ·rcases List.mem_cons.1 hq with e | hq
     ·rw [e, ho] at hn; cases hn
     ·exact i1 q hq hn
    ·rcases List.mem_cons.1 hq with e | hq
     ·rw [e, ho] at hn; cases hn
     ·rcases List.mem_cons.1 hr with e | hr
      ·rw [e, ho] at hm; cases hm
      ·exact i2 q hq r hr hne hn hm
    ·rcases List.mem_cons.1 hq with e | hq
     ·rw [e]; exact c.1
     ·exact i3 q hq hk
   ·cases h
  ·have ho' : okW (gw a.ws p') = false := by simpa using ho
   have ez : szC a.ws p' = szW a.ws (toW a.ws p') := if_neg ho
   rw [ez] at hc
   rw [if_neg ho] at h
   split at h
   ·rename_i c
    obtain ⟨i1, i2, i3⟩ := wk_led f T _ _ _ _ _ hc h
    have j1 : ∀ q ∈ T, okW (gw a.ws q) = false → toW a.ws q ≠ toW a.ws p' ∧ toW a.ws q ∉ led := fun q hq hn => by
     have := i1 q hq hn
     simp only [List.mem_cons, not_or] at this
     exact this
    refine ⟨fun q hq hn => ?_, fun q hq r hr hne hn hm => ?_, fun q hq hk => ?_⟩
    ·rcases List.mem_cons.1 hq with e | hq
     ·rw [e]; exact c.2.2.2.2.1
     ·exact (j1 q hq hn).2
    ·rcases List.mem_cons.1 hq with e | hq
     ·rcases List.mem_cons.1 hr with e' | hr
      ·exact absurd (e.trans e'.symm) hne
      ·rw [e]; exact (j1 r hr hm).1.symm
     ·rcases List.mem_cons.1 hr with e | hr
      ·rw [e]; exact (j1 q hq hn).1
      ·exact i2 q hq r hr hne hn hm
    ·rcases List.mem_cons.1 hq with e | hq
     ·rw [e, ho'] at hk; cases hk
     ·exact i3 q hq hk
   ·cases h
def tabI (ws : List U64) (p : Int) : Prop := tabP ws p []
structure Rt (a : Ar) (T1 T2 : List Int) : Prop where
 c : (a.cyc = false ∧ T2 = [] ∧ I0 a T1) ∨ C1 a T1 T2
 sr : ∀ p, Live a T1 T2 p → serW a.ws p < a.ser
 sd : ∀ p q, Live a T1 T2 p → Live a T1 T2 q → p ≠ q → serW a.ws p ≠ 0 → serW a.ws p ≠ serW a.ws q
 rl : ∀ p, Live a T1 T2 p → ∀ x ∈ slotsL (kdW a.ws p) (szW a.ws p), ruleB (kdW a.ws p) (valW a.ws (p + x)).1 = true ∧ (isRefB (valW a.ws (p + x)) = true → kdW a.ws (whereW a.ws (valW a.ws (p + x)).2) = kindT (valW a.ws (p + x)).1)
 en : ∀ p, Live a T1 T2 p → endP a.ws p (kdW a.ws p) (szW a.ws p)
 ij : ∀ p ∈ T2, ∀ q ∈ T2, p ≠ q → okW (gw a.ws p) = false → okW (gw a.ws q) = false → toW a.ws p ≠ toW a.ws q
 tb : ∀ p, Live a T1 T2 p → kdW a.ws p = 2 → tabI a.ws p
 td : ∀ p q, Live a T1 T2 p → Live a T1 T2 q → p ≠ q → kdW a.ws p = 2 → kdW a.ws q = 2 → (valW a.ws (p + 2)).1 ≠ 0 → (valW a.ws (q + 2)).1 ≠ 0 → whereW a.ws (valW a.ws (p + 2)).2 ≠ whereW a.ws (valW a.ws (q + 2)).2
 rr : ∀ v ∈ a.rs, v.1 ≠ 8 ∧ (isRefB v = true → kdW a.ws (whereW a.ws v.2) = kindT v.1)
theorem tabP_had {ws : List U64} {p : Int} {had : List Int} : tabP ws p had ↔ tabI ws p ∧ ((valW ws (p + 2)).1 ≠ 0 → whereW ws (valW ws (p + 2)).2 ∉ had) := by
 unfold tabI tabP
 by_cases c : (valW ws (p + 2)).1 = 0
 ·rw [if_pos c, if_pos c]
  exact ⟨fun h => ⟨h, fun e => absurd c e⟩, fun h => h.1⟩
 ·rw [if_neg c, if_neg c]
  exact ⟨fun h => ⟨⟨h.1, by simp, h.2.2⟩, fun _ => h.2.1⟩, fun h => ⟨h.1.1, h.2 c, h.1.2.2⟩⟩
theorem tabs_iff {a : Ar} {mk : List Int} : ∀ (d : Nat) (p : Int) (had : List Int), tabsP a mk d p had ↔
  (∀ q : Int, p ≤ q → q < p + d → hdM mk q → kdW a.ws q = 2 → tabI a.ws q ∧ ((valW a.ws (q + 2)).1 ≠ 0 → whereW a.ws (valW a.ws (q + 2)).2 ∉ had)) ∧
  ∀ q r : Int, p ≤ q → q < r → r < p + d → hdM mk q → hdM mk r → kdW a.ws q = 2 → kdW a.ws r = 2 → (valW a.ws (q + 2)).1 ≠ 0 → (valW a.ws (r + 2)).1 ≠ 0 → whereW a.ws (valW a.ws (q + 2)).2 ≠ whereW a.ws (valW a.ws (r + 2)).2
 | 0, p, had => by
  unfold tabsP
  exact ⟨fun _ => ⟨fun q h1 h2 => by omega, fun q r h1 h2 h3 => by omega⟩, fun _ => trivial⟩
 | d + 1, p, had => by
  unfold tabsP
  by_cases c : hdM mk p ∧ kdW a.ws p = 2
  ·rw [if_pos c, tabP_had, tabs_iff d (p + 1)]
   constructor
   ·rintro ⟨⟨h1, h2⟩, h3, h4⟩
    have out : ∀ q : Int, p + 1 ≤ q → q < p + 1 + d → hdM mk q → kdW a.ws q = 2 → (valW a.ws (q + 2)).1 ≠ 0 → whereW a.ws (valW a.ws (q + 2)).2 ∉ had ∧ ((valW a.ws (p + 2)).1 ≠ 0 → whereW a.ws (valW a.ws (p + 2)).2 ≠ whereW a.ws (valW a.ws (q + 2)).2) := fun q q0 q1 hq hk ht => by
     have := (h3 q q0 q1 hq hk).2 ht
     unfold hadN at this
     by_cases c0 : (valW a.ws (p + 2)).1 = 0
     ·rw [if_pos c0] at this
      exact ⟨this, fun e => absurd c0 e⟩
     ·rw [if_neg c0, List.mem_cons, not_or] at this
      exact ⟨this.2, fun _ e => this.1 e.symm⟩
    refine ⟨fun q q0 q1 hq hk => ?_, fun q r q0 q1 r1 hq hr hk hl ht hu => ?_⟩
    ·by_cases e : q = p
     ·rw [e]; exact ⟨h1, h2⟩
     ·exact ⟨(h3 q (by omega) (by omega) hq hk).1, fun ht => (out q (by omega) (by omega) hq hk ht).1⟩
    ·by_cases e : q = p
     ·subst e
      exact (out r (by omega) (by omega) hr hl hu).2 ht
     ·exact h4 q r (by omega) q1 (by omega) hq hr hk hl ht hu
   ·rintro ⟨h1, h2⟩
    obtain ⟨k1, k2⟩ := h1 p (Int.le_refl _) (by omega) c.1 c.2
    refine ⟨⟨k1, k2⟩, fun q q0 q1 hq hk => ?_, fun q r q0 q1 r1 => h2 q r (by omega) q1 (by omega)⟩
    obtain ⟨j1, j2⟩ := h1 q (by omega) (by omega) hq hk
    refine ⟨j1, fun ht => ?_⟩
    unfold hadN
    by_cases c0 : (valW a.ws (p + 2)).1 = 0
    ·rw [if_pos c0]; exact j2 ht
    ·rw [if_neg c0, List.mem_cons, not_or]
     exact ⟨fun e => h2 p q (Int.le_refl _) (by omega) (by omega) c.1 hq c.2 hk c0 ht e.symm, j2 ht⟩
  ·rw [if_neg c, tabs_iff d (p + 1)]
   constructor
   ·rintro ⟨h3, h4⟩
    refine ⟨fun q q0 q1 hq hk => h3 q (by by_cases e : q = p; subst e; exact absurd ⟨hq, hk⟩ c; omega) (by omega) hq hk, fun q r q0 q1 r1 hq hr hk hl => h4 q r (by by_cases e : q = p; subst e; exact absurd ⟨hq, hk⟩ c; omega) q1 (by omega) hq hr hk hl⟩
   ·rintro ⟨h1, h2⟩
    exact ⟨fun q q0 q1 => h1 q (by omega) (by omega), fun q r q0 q1 r1 => h2 q r (by omega) q1 (by omega)⟩
theorem Rt.at {a : Ar} {T1 T2 : List Int} (h : Rt a T1 T2) {p : Int} (hp : Live a T1 T2 p) : okW (gw a.ws p) = true ∧ 1 ≤ p ∧ p + szW a.ws p + 1 ≤ a.ws.length ∧ a.wf := by
 rcases h.c with ⟨c1, c2, c⟩ | c
 ·subst c2
  have hp : p ∈ T1 := hp.resolve_right fun k => by cases k.1
  have := c.c1.mem p hp
  have hh := halves c.N
  exact ⟨c.h1 p hp, by omega, by omega, c.wf⟩
 ·have n := c.c.nums
  refine ⟨c.c.okL hp, ?_⟩
  rcases hp with hp | ⟨hp, ho⟩
  ·have := c.c.in1 hp
   exact ⟨by omega, by omega, c.c.wf⟩
  ·have := c.c.in2 hp
   have ez : szC a.ws p = szW a.ws p := if_pos ho
   exact ⟨by omega, by omega, c.c.wf⟩
theorem rt_of {a : Ar} (hw : a.wf) (h : okP a) : ∃ T1 T2, Rt a T1 T2 := by
 obtain ⟨mk, h⟩ := h
 have hT := tile_ok hw h.N h.t
 have hn := hT.n
 have fin : ∀ (T1 T2 : List Int), ((a.cyc = false ∧ T2 = [] ∧ I0 a T1) ∨ C1 a T1 T2) → (∀ q, Live a T1 T2 q → 0 ≤ q ∧ q < mk.length ∧ hdM mk q) → (∀ p ∈ T2, ∀ q ∈ T2, p ≠ q → okW (gw a.ws p) = false → okW (gw a.ws q) = false → toW a.ws p ≠ toW a.ws q) → Rt a T1 T2 := by
  intro T1 T2 hc hl hi
  have tt := (tabs_iff a.ws.length 0 []).1 h.b
  refine ⟨hc, fun p hp => ?_, fun p q hp hq hne hz => ?_, fun p hp x hx => ?_, fun p hp => ?_, hi, fun p hp hk => ?_, fun p q hp hq hne hk hl' ht hu => ?_, fun v hv => ?_⟩
  ·obtain ⟨p0, p1, p2⟩ := hl p hp
   exact (hT.h p p0 p1 p2).2.1
  ·obtain ⟨p0, p1, p2⟩ := hl p hp
   obtain ⟨q0, q1, q2⟩ := hl q hq
   rcases Int.lt_or_gt_of_ne hne with k | k
   ·exact h.s p q p0 k q1 p2 q2 hz
   ·intro e
    exact h.s q p q0 k p1 q2 p2 (by rw [← e]; exact hz) e.symm
  ·obtain ⟨p0, p1, p2⟩ := hl p hp
   obtain ⟨s1, s2, s3⟩ := (h.o p p0 p1 p2).1 x hx
   exact ⟨s3, fun hr => (leads_ok s2 hr).2.2⟩
  ·obtain ⟨p0, p1, p2⟩ := hl p hp
   exact (h.o p p0 p1 p2).2
  ·obtain ⟨p0, p1, p2⟩ := hl p hp
   exact (tt.1 p p0 (by omega) p2 hk).1
  ·obtain ⟨p0, p1, p2⟩ := hl p hp
   obtain ⟨q0, q1, q2⟩ := hl q hq
   rcases Int.lt_or_gt_of_ne hne with k | k
   ·exact tt.2 p q p0 k (by omega) p2 q2 hk hl' ht hu
   ·exact (tt.2 q p q0 k (by omega) q2 p2 hl' hk hu ht).symm
  ·obtain ⟨r1, r2, r3⟩ := h.r v hv
   exact ⟨r2, fun hr => (leads_ok r3 hr).2.2⟩
 rcases ok_cyc2 hw h with ⟨T1, c, m1⟩ | ⟨T1, T2, c, m1, m2⟩
 ·refine ⟨T1, [], fin T1 [] (.inl ⟨c.cy, rfl, c⟩) (fun q hq => ?_) (fun p hp => (by cases hp))⟩
  have hq : q ∈ T1 := hq.resolve_right fun k => by cases k.1
  have := c.c1.mem q hq
  have hh := halves c.N
  exact ⟨by omega, by omega, .inl ((m1 q).1 hq).2⟩
 ·have n := c.c.nums
  refine ⟨T1, T2, fin T1 T2 (.inr c) (fun q hq => ?_) ?_⟩
  ·rcases hq with hq | ⟨hq, ho⟩
   ·have := c.c.in1 hq
    exact ⟨by omega, by omega, .inl ((m1 q).1 hq).2⟩
   ·have := c.c.in2 hq
    have := (c.c.c2.mem q hq).2.1
    refine ⟨by omega, by omega, .inr (((m2 q).1 hq).2.resolve_right fun e => ?_)⟩
    have := (hT.g q (by omega) (by omega) e).1
    rw [ok_fwd (gw_in hw.w q) ho] at this
    cases this
  ·have ht := h.t
   cases e1 : tile1 a with
   | none => rw [tileO_n e1] at ht; cases ht
   | some y =>
    obtain ⟨mk1, x⟩ := y
    obtain ⟨x1, x2⟩ := tileO_c e1 c.c.cy ht
    exact (wk_led _ T2 _ _ _ _ _ c.c.c2 x1).2.1
theorem leads_of {a : Ar} {mk : List Int} {v : Vl} {frm : Int} (h0 : isRefB v = true → v.2 < mk.length ∧ (gi mk v.2 = 1 ∧ frm ≠ 3 ∨ (gi mk v.2 = 2 ∨ gi mk v.2 = 3) ∧ frm ≠ 1) ∧ kdW a.ws (whereW a.ws v.2) = kindT v.1) : leadsB a mk v frm = true := by
 unfold leadsB
 cases hr : isRefB v with
 | false => rfl
 | true =>
  obtain ⟨k1, k2, k3⟩ := h0 hr
  rw [if_pos rfl, if_neg (by omega), if_pos k2]
  exact decide_eq_true k3
theorem okM_of {a : Ar} {T1 T2 mk : List Int} (h : Rt a T1 T2) (hN : NumP a) (ht : tileO a = some mk) (hn : mk.length = a.ws.length) (m1 : ∀ q : Int, 0 ≤ q → (gi mk q = 1 ↔ q ∈ T1)) (m2 : ∀ q : Int, 0 ≤ q → (gi mk q = 2 ↔ q ∈ T2 ∧ okW (gw a.ws q) = true)) (m3 : ∀ q : Int, 0 ≤ q → (gi mk q = 3 ↔ q ∈ T2 ∧ okW (gw a.ws q) = false)) : OkM a mk := by
 have hd : ∀ q : Int, 0 ≤ q → (hdM mk q ↔ Live a T1 T2 q) := fun q q0 => by
  unfold hdM Live
  rw [m1 q q0, m2 q q0]
 have g2 : ∀ q ∈ T2, 0 ≤ q → gi mk q = 2 ∨ gi mk q = 3 := fun q hq q0 => by
  cases e : okW (gw a.ws q) with
  | true => exact .inl ((m2 q q0).2 ⟨hq, e⟩)
  | false => exact .inr ((m3 q q0).2 ⟨hq, e⟩)
 refine ⟨hN, ht, fun p q p0 hlt q1 hp hq hz => h.sd p q ((hd p p0).1 hp) ((hd q (by omega)).1 hq) (by omega) hz, fun p p0 p1 hp => ?_, ?_, fun v hv => ?_⟩
 ·have hl := (hd p p0).1 hp
  refine ⟨fun x hx => ?_, h.en p hl⟩
  obtain ⟨r1, r2⟩ := h.rl p hl x hx
  have key : valOkB (valW a.ws (p + x)) = true ∧ (isRefB (valW a.ws (p + x)) = true → (valW a.ws (p + x)).2 < mk.length ∧ (gi mk (valW a.ws (p + x)).2 = 1 ∧ frmA a mk p ≠ 3 ∨ (gi mk (valW a.ws (p + x)).2 = 2 ∨ gi mk (valW a.ws (p + x)).2 = 3) ∧ frmA a mk p ≠ 1)) := by
   rcases h.c with ⟨c1, c2, c⟩ | c
   ·subst c2
    have hp1 : p ∈ T1 := hl.resolve_right fun k => by cases k.1
    obtain ⟨k1, k2⟩ := c.v p hp1 x hx
    refine ⟨k1, fun hr => ?_⟩
    have h2 := k2 hr
    have := c.c1.mem _ h2
    have hh := halves c.N
    refine ⟨by omega, .inl ⟨(m1 _ (by omega)).2 h2, ?_⟩⟩
    unfold frmA
    rw [if_neg (by omega), if_pos ((m1 p p0).2 hp1), if_neg (fun e => by rw [c1] at e; cases e.1)]
    decide
   ·have n := c.c.nums
    rcases hl with hp1 | ⟨hp2, ho⟩
    ·obtain ⟨k1, k2⟩ := c.c.v1 p hp1 x hx
     refine ⟨k1, fun hr => ?_⟩
     have ef : frmA a mk p = if a.cyc = true ∧ a.scan ≤ p then 2 else 1 := by
      unfold frmA
      rw [if_neg (by omega), if_pos ((m1 p p0).2 hp1)]
     by_cases cs : a.scan ≤ p
     ·rw [if_pos ⟨c.c.cy, cs⟩] at ef
      rw [ef]
      rcases k2 hr with k | k
      ·have := c.c.in1 k
       exact ⟨by omega, .inl ⟨(m1 _ (by omega)).2 k, by decide⟩⟩
      ·have := c.c.in2 k
       have := (c.c.c2.mem _ k).2.1
       exact ⟨by omega, .inr ⟨g2 _ k (by omega), by decide⟩⟩
     ·rw [if_neg (fun e => cs e.2)] at ef
      rw [ef]
      have k := c.w1 p hp1 (by omega) x hx hr
      have := c.c.in1 k
      exact ⟨by omega, .inl ⟨(m1 _ (by omega)).2 k, by decide⟩⟩
    ·obtain ⟨k1, k2⟩ := c.c.v2 p hp2 ho x hx
     refine ⟨k1, fun hr => ?_⟩
     have k := k2 hr
     have := c.c.in2 k
     have := (c.c.c2.mem _ k).2.1
     have e2 : gi mk p = 2 := (m2 p p0).2 ⟨hp2, ho⟩
     have ef : frmA a mk p = 3 := by
      unfold frmA
      rw [if_neg (by omega), if_neg (by omega)]
     rw [ef]
     exact ⟨by omega, .inr ⟨g2 _ k (by omega), by decide⟩⟩
  exact ⟨key.1, leads_of fun hr => ⟨(key.2 hr).1, (key.2 hr).2, r2 hr⟩, r1⟩
 ·refine (tabs_iff a.ws.length 0 []).2 ⟨fun q q0 q1 hq hk => ⟨h.tb q ((hd q q0).1 hq) hk, fun _ => by simp⟩, fun q r q0 q1 r1 hq hr hk hl ht hu => h.td q r ((hd q q0).1 hq) ((hd r (by omega)).1 hr) (by omega) hk hl ht hu⟩
 ·obtain ⟨r1, r2⟩ := h.rr v hv
  have key : valOkB v = true ∧ (isRefB v = true → v.2 ∈ T1 ∧ 0 ≤ v.2 ∧ v.2 < mk.length) := by
   rcases h.c with ⟨c1, c2, c⟩ | c
   ·obtain ⟨k1, k2⟩ := c.r v hv
    refine ⟨k1, fun hr => ⟨k2 hr, ?_⟩⟩
    have := c.c1.mem _ (k2 hr)
    have hh := halves c.N
    omega
   ·obtain ⟨k1, k2⟩ := c.r v hv
    refine ⟨k1, fun hr => ⟨k2 hr, ?_⟩⟩
    have := c.c.in1 (k2 hr)
    have n := c.c.nums
    omega
  exact ⟨key.1, r1, leads_of fun hr => ⟨(key.2 hr).2.2, .inl ⟨(m1 _ (key.2 hr).2.1).2 (key.2 hr).1, by decide⟩, r2 hr⟩⟩
theorem ok_of {a : Ar} {T1 T2 : List Int} (h : Rt a T1 T2) : okP a := by
 have zl : (zeroA a).length = a.ws.length := List.length_replicate
 have z0 : ∀ q, gi (zeroA a) q = 0 := fun q => gi_zero _ q
 rcases h.c with ⟨c1, c2, c⟩ | c
 ·subst c2
  have hh := halves c.N
  have ch : Chain (szC a.ws) (startA a a.to) a.top T1 := c.c1.congr fun q hq => if_pos (c.h1 q hq)
  have lt := chain_many ch
  have t1 : tile1 a = some (mkT a.ws 1 T1 (zeroA a), 0 + (a.top - startA a a.to - sumC a.ws T1)) := wk_of T1 _ _ _ _ _ (by omega) ch (by omega) (by omega) (fun q hq _ => h.sr q (.inl hq)) (fun q hq e => by rw [c.h1 q hq] at e; cases e) (fun q hq r hr _ e => by rw [c.h1 q hq] at e; cases e)
  have inr : ∀ q ∈ T1, 0 ≤ q ∧ q < (zeroA a).length := fun q hq => by have := ch.mem q hq; omega
  have G := fun (q : Int) (q0 : 0 ≤ q) => gi_mkT (ws := a.ws) (k := 1) T1 (zeroA a) inr q q0
  have g1 : ∀ q : Int, 0 ≤ q → (gi (mkT a.ws 1 T1 (zeroA a)) q = 1 ↔ q ∈ T1) ∧ gi (mkT a.ws 1 T1 (zeroA a)) q ≠ 2 ∧ gi (mkT a.ws 1 T1 (zeroA a)) q ≠ 3 := fun q q0 => by
   rw [G q q0]
   by_cases k : q ∈ T1
   ·rw [if_pos k, if_pos (c.h1 q k)]
    exact ⟨⟨fun _ => k, fun _ => rfl⟩, by decide, by decide⟩
   ·rw [if_neg k, z0]
    exact ⟨⟨fun e => (by cases e), fun e => absurd e k⟩, by decide, by decide⟩
  refine ⟨_, okM_of h c.N (mk := mkT a.ws 1 T1 (zeroA a)) ?_ (by rw [mkT_len, zl]) (fun q q0 => (g1 q q0).1) (fun q q0 => ⟨fun e => absurd e (g1 q q0).2.1, fun e => (by cases e.1)⟩) (fun q q0 => ⟨fun e => absurd e (g1 q q0).2.2, fun e => (by cases e.1)⟩)⟩
  unfold tileO
  rw [t1]
  simp only
  rw [if_neg (by rw [c1]; decide)]
 ·have n := c.c.nums
  have ch : Chain (szC a.ws) (startA a a.to) a.top T1 := c.c.c1.congr fun q hq => if_pos (c.c.h1 q hq)
  have lt := chain_many ch
  have lt2 := chain_many c.c.c2
  have t1 : tile1 a = some (mkT a.ws 1 T1 (zeroA a), 0 + (a.top - startA a a.to - sumC a.ws T1)) := wk_of T1 _ _ _ _ _ (by omega) ch (by omega) (by omega) (fun q hq _ => h.sr q (.inl hq)) (fun q hq e => by rw [c.c.h1 q hq] at e; cases e) (fun q hq r hr _ e => by rw [c.c.h1 q hq] at e; cases e)
  have inr : ∀ q ∈ T1, 0 ≤ q ∧ q < (zeroA a).length := fun q hq => by have := c.c.in1 hq; omega
  have G := fun (q : Int) (q0 : 0 ≤ q) => gi_mkT (ws := a.ws) (k := 1) T1 (zeroA a) inr q q0
  obtain ⟨mk1, e1⟩ : ∃ mk1, mk1 = mkT a.ws 1 T1 (zeroA a) := ⟨_, rfl⟩
  have l1 : mk1.length = a.ws.length := by rw [e1, mkT_len, zl]
  rw [← e1] at t1 G
  have G1 : ∀ q : Int, 0 ≤ q → q ∈ T1 → gi mk1 q = 1 := fun q q0 k => by rw [G q q0, if_pos k, if_pos (c.c.h1 q k)]
  have G0 : ∀ q : Int, 0 ≤ q → q ∉ T1 → gi mk1 q = 0 := fun q q0 k => by rw [G q q0, if_neg k, z0]
  have in2 : ∀ q ∈ T2, 0 ≤ q ∧ q < mk1.length := fun q hq => by have := c.c.in2 hq; have := (c.c.c2.mem q hq).2.1; omega
  have gone : ∀ q ∈ T2, okW (gw a.ws q) = false → (fwd (gw a.ws q)).2 = true ∧ toW a.ws q ∈ T1 := fun q hq e => (c.c.h2 q hq).resolve_left fun k => by rw [e] at k; cases k
  have t2 : tile2 a mk1 = some (mkT a.ws 2 T2 mk1, 0 + (a.old - startA a (1 - a.to) - sumC a.ws T2)) := wk_of T2 _ _ _ _ _ (by omega) c.c.c2 (by omega) (by omega) (fun q hq ho => h.sr q (.inr ⟨hq, ho⟩)) (fun q hq e => by
   obtain ⟨k1, k2⟩ := gone q hq e
   have := c.c.in1 k2
   exact ⟨rfl, k1, by omega, G1 _ (by omega) k2, by simp, by omega⟩) h.ij
  have H := fun (q : Int) (q0 : 0 ≤ q) => gi_mkT (ws := a.ws) (k := 2) T2 mk1 in2 q q0
  have far : ∀ q ∈ T1, q ∉ T2 := fun q k1 k2 => by have := c.c.in1 k1; have := c.c.in2 k2; omega
  refine ⟨_, okM_of h c.c.N (mk := mkT a.ws 2 T2 mk1) ?_ (by rw [mkT_len, l1]) (fun q q0 => ?_) (fun q q0 => ?_) (fun q q0 => ?_)⟩
  ·unfold tileO
   rw [t1]
   simp only
   rw [if_pos c.c.cy, t2]
   simp only
   rw [if_pos]
   have := c.c.s2
   refine ⟨by omega, ?_⟩
   rcases c.sc with k | k
   ·exact .inl k
   ·have := c.c.in1 k
    exact .inr ⟨by omega, by omega, by rw [H _ (by omega), if_neg (far _ k)]; exact G1 _ (by omega) k⟩
  ·rw [H q q0]
   by_cases k : q ∈ T2
   ·rw [if_pos k]
    refine ⟨fun e => ?_, fun e => absurd k (far q e)⟩
    split at e <;> cases e
   ·rw [if_neg k]
    exact ⟨fun e => Classical.byContradiction fun hk => (by rw [G0 q q0 hk] at e; cases e), G1 q q0⟩
  ·rw [H q q0]
   by_cases k : q ∈ T2
   ·rw [if_pos k]
    by_cases ho : okW (gw a.ws q) = true
    ·rw [if_pos ho]; exact ⟨fun _ => ⟨k, ho⟩, fun _ => rfl⟩
    ·rw [if_neg ho]; exact ⟨fun e => (by cases e), fun e => absurd e.2 ho⟩
   ·rw [if_neg k]
    refine ⟨fun e => ?_, fun e => absurd e.1 k⟩
    by_cases hk : q ∈ T1
    ·rw [G1 q q0 hk] at e; cases e
    ·rw [G0 q q0 hk] at e; cases e
  ·rw [H q q0]
   by_cases k : q ∈ T2
   ·rw [if_pos k]
    by_cases ho : okW (gw a.ws q) = true
    ·rw [if_pos ho]; exact ⟨fun e => (by cases e), fun e => by rw [ho] at e; cases e.2⟩
    ·rw [if_neg ho]; exact ⟨fun _ => ⟨k, by simpa using ho⟩, fun _ => rfl⟩
   ·rw [if_neg k]
    refine ⟨fun e => ?_, fun e => absurd e.1 k⟩
    by_cases hk : q ∈ T1
    ·rw [G1 q q0 hk] at e; cases e
    ·rw [G0 q q0 hk] at e; cases e
structure SmL (a b : Ar) (f : Int → Int) (D E : Int → Prop) : Prop where
 o : ∀ q, D q → ObjC a.ws b.ws f q
 e : ∀ q, D q → E (f q)
 s : ∀ r, E r → ∃ q, D q ∧ f q = r
 i : ∀ q r, D q → D r → f q = f r → q = r
 cl : ∀ q, D q → ∀ x ∈ slotsL (kdW a.ws q) (szW a.ws q), isRefB (valW a.ws (q + x)) = true → D (whereW a.ws (valW a.ws (q + x)).2)
 cr : ∀ j : Nat, j < a.rs.length → isRefB (a.rs.getD j (0, 0)) = true → D (whereW a.ws (a.rs.getD j (0, 0)).2)
 rl : b.rs.length = a.rs.length
 r : ∀ j : Nat, j < a.rs.length → valC a.ws b.ws f (a.rs.getD j (0, 0)) (b.rs.getD j (0, 0))
theorem SmL.trans {a b c : Ar} {f g : Int → Int} {D E D' E' : Int → Prop} (h : SmL a b f D E) (k : SmL b c g D' E') (hs : ∀ q, D' q → E q) : SmL a c (fun q => g (f q)) (fun q => D q ∧ D' (f q)) E' := by
 refine ⟨fun q hq => ?_, fun q hq => k.e _ hq.2, fun r hr => ?_, fun q r hq hr e => h.i q r hq.1 hr.1 (k.i _ _ hq.2 hr.2 e), fun q hq x hx hr => ?_, fun j hj hr => ?_, k.rl.trans h.rl, fun j hj => (h.r j hj).trans (k.r j (by rw [h.rl]; exact hj))⟩
 ·have A := h.o q hq.1
  have B := k.o _ hq.2
  refine ⟨B.hd.trans A.hd, fun y y0 y1 hy => ?_, fun x hx => ?_⟩
  ·rw [B.raw y y0 (by rw [sz_c A.hd]; exact y1) (by rw [kd_c A.hd, sz_c A.hd]; exact hy), A.raw y y0 y1 hy]
  ·exact (A.sl x hx).trans (B.sl x (by rw [kd_c A.hd, sz_c A.hd]; exact hx))
 ·obtain ⟨q', h1, rfl⟩ := k.s r hr
  obtain ⟨q, h2, rfl⟩ := h.s q' (hs _ h1)
  exact ⟨q, ⟨h2, h1⟩, rfl⟩
 ·have A := h.o q hq.1
  have s := A.sl x hx
  refine ⟨h.cl q hq.1 x hx hr, ?_⟩
  have := k.cl (f q) hq.2 x (by rw [kd_c A.hd, sz_c A.hd]; exact hx) (by rw [s.ref]; exact hr)
  rwa [s.2.2 hr] at this
 ·have s := h.r j hj
  refine ⟨h.cr j hj hr, ?_⟩
  have := k.cr j (by rw [h.rl]; exact hj) (by rw [s.ref]; exact hr)
  rwa [s.2.2 hr] at this
theorem C0.closed {a : Ar} {T1 T2 : List Int} (h : C0 a T1 T2) : ∀ q, Live a T1 T2 q → ∀ x ∈ slotsL (kdW a.ws q) (szW a.ws q), isRefB (valW a.ws (q + x)) = true → Live a T1 T2 (whereW a.ws (valW a.ws (q + x)).2) := fun q hq x hx hr => h.live (h.refs hq hx hr)
theorem fwdW_sl {a : Ar} {T1 T2 : List Int} (h : C0 a T1 T2) (hc : Rc a T1 T2) {p : Int} (hp : p ∈ T2) (ho : okW (gw a.ws p) = true) : SmL a (fwdW a p) (fun q => if q = p then a.top else q) (Live a T1 T2) (Live (fwdW a p) (T1 ++ [a.top]) T2) := by
 have n := h.nums
 have i2 := h.in2 hp
 have b := szW_0 h.wf.w p
 have ez : szC a.ws p = szW a.ws p := if_pos ho
 have G := fun {j : Int} (j0 : 0 ≤ j) => gw_fwd h hp ho (j := j) j0
 have hm := sumC_mem h.wf.w hp ho
 have c1 := h.fwd hp ho
 have key : ∀ q, Live a T1 T2 q → ∀ y : Int, 0 ≤ y → y ≤ szW a.ws q → gw (fwdW a p).ws ((if q = p then a.top else q) + y) = gw a.ws (q + y) := by
  intro q hq y y0 y1
  by_cases e : q = p
  ·rw [if_pos e]
   subst e
   rw [G (by omega), if_neg (by omega), if_pos (by omega)]
   congr 1
   omega
  ·rw [if_neg e]
   rcases hq with hq | ⟨hq, hoq⟩
   ·have i1 := h.in1 hq
    rw [G (by omega), if_neg (by omega), if_neg (by omega)]
   ·have i3 := h.in2 hq
    have ezq : szC a.ws q = szW a.ws q := if_pos hoq
    have ap : q < p → q + szC a.ws q + 1 ≤ p := fun hl => h.c2.apart q hq p hp hl
    rw [G (by omega), if_neg (by omega), if_neg (by omega)]
 have key0 : ∀ q, Live a T1 T2 q → gw (fwdW a p).ws (if q = p then a.top else q) = gw a.ws q := fun q hq => by
  have := key q hq 0 (by omega) (szW_0 h.wf.w q).1
  rwa [Int.add_zero, Int.add_zero] at this
 have sm : ∀ v : Vl, (isRefB v = true → v.2 ∈ T1 ∨ v.2 ∈ T2) → valC a.ws (fwdW a p).ws (fun q => if q = p then a.top else q) v v := fun v hv => ⟨rfl, fun _ => rfl, fun e => fwdW_where h hp ho (hv e)⟩
 have far : ∀ r, Live a T1 T2 r → r ≠ a.top := by
  intro r hr e
  rcases hr with hr | ⟨hr, _⟩
  ·have := h.in1 hr; omega
  ·have := h.in2 hr; omega
 refine ⟨fun q hl => ?_, fun q hl => ?_, fun r hr => ?_, fun q r lq lr e => ?_, h.closed, fun j hj hr => h.live (hc j hj hr), rfl, fun j hj => sm _ (hc j hj)⟩
 ·refine ⟨key0 q hl, fun y y0 y1 _ => key q hl y (by omega) y1, fun x hx => ?_⟩
  have sx := slots_in (size_ok h.wf (h.okL hl)).1 hx
  have ev : valW (fwdW a p).ws ((if q = p then a.top else q) + x) = valW a.ws (q + x) := val_c (key q hl x (by omega) (by omega)) (by have := key q hl (x + 1) (by omega) (by omega); rwa [← Int.add_assoc, ← Int.add_assoc] at this)
  show valC _ _ _ _ (valW (fwdW a p).ws ((if q = p then a.top else q) + x))
  rw [ev]
  exact sm _ (h.refs hl hx)
 ·by_cases e : q = p
  ·show Live _ _ _ (if q = p then a.top else q)
   rw [if_pos e]; exact .inl (by simp)
  ·have k0 := key0 q hl
   show Live _ _ _ (if q = p then a.top else q)
   rw [if_neg e] at k0 ⊢
   rcases hl with hq | ⟨hq, hoq⟩
   ·exact .inl (by simp [hq])
   ·exact .inr ⟨hq, by rw [k0]; exact hoq⟩
 ·rcases hr with hr | ⟨hr, hoq⟩
  ·rcases List.mem_append.1 hr with hr | hr
   ·have hne : r ≠ p := fun e => by have := h.in1 hr; omega
    exact ⟨r, .inl hr, if_neg hne⟩
   ·exact ⟨p, .inr ⟨hp, ho⟩, by rw [if_pos rfl]; exact (List.mem_singleton.1 hr).symm⟩
  ·have hne : r ≠ p := fun e => by
    rw [e, G (by omega), if_pos rfl] at hoq
    have := ok_fwd (w := 9223372036854775808 + a.top) ⟨by omega, by omega⟩ hoq
    rw [fwd_top (by omega) (by omega)] at this
    cases this
   have i3 := h.in2 hr
   have hg : gw (fwdW a p).ws r = gw a.ws r := by rw [G (by omega), if_neg hne, if_neg (by omega)]
   exact ⟨r, .inr ⟨hr, by rw [← hg]; exact hoq⟩, if_neg hne⟩
 ·have e : (if q = p then a.top else q) = (if r = p then a.top else r) := e
  split at e <;> split at e
  ·omega
  ·exact absurd e.symm (far r lr)
  ·exact absurd e (far q lq)
  ·exact e
theorem SmL.dom {a b : Ar} {f : Int → Int} {D D' E : Int → Prop} (h : SmL a b f D E) (hd : ∀ q, D' q ↔ D q) : SmL a b f D' E :=
 ⟨fun q hq => h.o q ((hd q).1 hq), fun q hq => h.e q ((hd q).1 hq), fun r hr => let ⟨q, h1, h2⟩ := h.s r hr; ⟨q, (hd q).2 h1, h2⟩, fun q r hq hr => h.i q r ((hd q).1 hq) ((hd r).1 hr), fun q hq x hx hr => (hd _).2 (h.cl q ((hd q).1 hq) x hx hr), fun j hj hr => (hd _).2 (h.cr j hj hr), h.rl, h.r⟩
theorem SmL.comp {a b c : Ar} {f g : Int → Int} {D E E' : Int → Prop} (h : SmL a b f D E) (k : SmL b c g E E') : SmL a c (fun q => g (f q)) D E' :=
 (h.trans k fun _ hq => hq).dom fun q => ⟨fun hq => ⟨hq, h.e q hq⟩, fun hq => hq.1⟩
theorem SmL.flds {a b : Ar} {D E : Int → Prop} (hw : b.ws = a.ws) (hr : b.rs = a.rs) (hd : ∀ q, D q ↔ E q) (cl : ∀ q, D q → ∀ x ∈ slotsL (kdW a.ws q) (szW a.ws q), isRefB (valW a.ws (q + x)) = true → D (whereW a.ws (valW a.ws (q + x)).2)) (cr : ∀ j : Nat, j < a.rs.length → isRefB (a.rs.getD j (0, 0)) = true → D (whereW a.ws (a.rs.getD j (0, 0)).2)) : SmL a b (fun q => q) D E :=
 ⟨fun q hq => ⟨by rw [hw], fun y _ _ _ => by rw [hw], fun x _ => ⟨by rw [hw], fun _ => by rw [hw], fun _ => by rw [hw]⟩⟩, fun q hq => (hd q).1 hq, fun r hr => ⟨r, (hd r).2 hr, rfl⟩, fun q r _ _ e => e, cl, cr, by rw [hr], fun j hj => ⟨by rw [hr], fun _ => by rw [hr], fun _ => by rw [hr, hw]⟩⟩
def IJ (a : Ar) (T2 : List Int) : Prop := ∀ p ∈ T2, ∀ q ∈ T2, p ≠ q → okW (gw a.ws p) = false → okW (gw a.ws q) = false → toW a.ws p ≠ toW a.ws q
theorem fwdA_sl {a : Ar} {T1 T2 Ta : List Int} (h : C0 a T1 T2) (hc : Rc a T1 T2) (hj : IJ a T2) {v : Vl} (hv : isRefB v = true → v.2 ∈ T1 ∨ v.2 ∈ T2) (hb : C0 (fwdA a v).1 Ta T2) :
  ∃ f, SmL a (fwdA a v).1 f (Live a T1 T2) (Live (fwdA a v).1 Ta T2) ∧ IJ (fwdA a v).1 T2 ∧ (∀ u, u ∈ T1 ∨ u ∈ T2 → whereW (fwdA a v).1.ws u = f (whereW a.ws u)) ∧ (isRefB v = true → whereW (fwdA a v).1.ws (fwdA a v).2.2 = f (whereW a.ws v.2)) := by
 have idS : SmL a a (fun q => q) (Live a T1 T2) (Live a T1 T2) := SmL.flds rfl rfl (fun _ => Iff.rfl) h.closed fun j hj hr => h.live (hc j hj hr)
 revert hb
 unfold fwdA
 split
 ·rename_i k
  obtain ⟨k1, k2⟩ := k
  have hp : v.2 ∈ T2 := (hv k1).resolve_left fun e => by rw [h.other1 e] at k2; cases k2
  split
  ·rename_i k3
   intro hb
   have e : Ta = T1 := hb.c1.uniq h.c1
   subst e
   refine ⟨_, idS, hj, fun u _ => rfl, fun _ => ?_⟩
   rcases h.where2 hp with ⟨k, _⟩ | ⟨_, e, k⟩
   ·have := ok_fwd (gw_in h.wf.w v.2) k; rw [k3] at this; cases this
   ·show whereW a.ws (toW a.ws v.2) = whereW a.ws v.2
    rw [h.where1 k, e]
  ·rename_i k3
   intro hb
   have ho : okW (gw a.ws v.2) = true := (h.h2 _ hp).resolve_right fun e => k3 e.1
   have c1 := h.fwd hp ho
   have e : T1 ++ [a.top] = Ta := c1.c1.uniq hb.c1
   subst e
   have n := h.nums
   have i2 := h.in2 hp
   have G := fun {j : Int} (j0 : 0 ≤ j) => gw_fwd h hp ho (j := j) j0
   have hm := sumC_mem h.wf.w hp ho
   have gne : ∀ q ∈ T2, q ≠ v.2 → gw (fwdW a v.2).ws q = gw a.ws q := fun q hq hne => by
    have i3 := h.in2 hq
    have := (h.c2.mem q hq).2.1
    rw [G (by omega), if_neg hne, if_neg (by omega)]
   have tp : toW (fwdW a v.2).ws v.2 = a.top := by
    unfold toW
    rw [G (by omega), if_pos rfl, fwd_top (by omega) (by omega)]
   refine ⟨_, fwdW_sl h hc hp ho, fun p hp' q hq' hne hn hm' => ?_, fun u hu => fwdW_where h hp ho hu, fun _ => ?_⟩
   ·have low : ∀ q ∈ T2, q ≠ v.2 → okW (gw (fwdW a v.2).ws q) = false → toW (fwdW a v.2).ws q < a.top := fun q hq hne hn => by
     rw [gne q hq hne] at hn
     rw [to_c (gne q hq hne)]
     have k := ((h.h2 q hq).resolve_left fun k => by rw [hn] at k; cases k).2
     have := h.in1 k
     omega
    by_cases ep : p = v.2
    ·have hne' : q ≠ v.2 := fun e => hne (ep.trans e.symm)
     have hlow := low q hq' hne' hm'
     intro e
     rw [ep, tp] at e
     rw [← e] at hlow
     exact Int.lt_irrefl _ hlow
    ·by_cases eq : q = v.2
     ·have hlow := low p hp' ep hn
      intro e
      rw [eq, tp] at e
      rw [e] at hlow
      exact Int.lt_irrefl _ hlow
     ·rw [to_c (gne p hp' ep), to_c (gne q hq' eq)]
      rw [gne p hp' ep] at hn
      rw [gne q hq' eq] at hm'
      exact hj p hp' q hq' hne hn hm'
   ·show whereW (fwdW a v.2).ws a.top = if whereW a.ws v.2 = v.2 then a.top else whereW a.ws v.2
    rw [where_ok h.wf ho, if_pos rfl]
    exact c1.where1 (by simp)
 ·intro hb
  have e : Ta = T1 := hb.c1.uniq h.c1
  subst e
  exact ⟨_, idS, hj, fun u _ => rfl, fun _ => rfl⟩
def St (a : Ar) (T1 T2 : List Int) : Prop := (a.cyc = false ∧ T2 = [] ∧ I0 a T1) ∨ C1 a T1 T2
def Cp (a b : Ar) (T1 T2 T1' T2' : List Int) : Prop := (∃ f D, SmL a b f D (Live b T1' T2') ∧ ∀ q, D q → Live a T1 T2 q) ∧ IJ b T2'
theorem Cp.trans {a b c : Ar} {T1 T2 T1' T2' T1'' T2'' : List Int} (h : Cp a b T1 T2 T1' T2') (k : Cp b c T1' T2' T1'' T2'') : Cp a c T1 T2 T1'' T2'' := by
 obtain ⟨⟨f, D, S, s⟩, _⟩ := h
 obtain ⟨⟨g, D', S', s'⟩, j⟩ := k
 exact ⟨⟨_, _, S.trans S' s', fun q hq => s q hq.1⟩, j⟩
theorem St.closed {a : Ar} {T1 T2 : List Int} (h : St a T1 T2) : (∀ q, Live a T1 T2 q → ∀ x ∈ slotsL (kdW a.ws q) (szW a.ws q), isRefB (valW a.ws (q + x)) = true → Live a T1 T2 (whereW a.ws (valW a.ws (q + x)).2)) ∧ ∀ j : Nat, j < a.rs.length → isRefB (a.rs.getD j (0, 0)) = true → Live a T1 T2 (whereW a.ws (a.rs.getD j (0, 0)).2) := by
 rcases h with ⟨_, rfl, h⟩ | h
 ·have e : ∀ p ∈ T1, whereW a.ws p = p := fun p hp => where_ok h.wf (h.h1 p hp)
  refine ⟨fun q hq x hx hr => ?_, fun j hj hr => ?_⟩
  ·have hq : q ∈ T1 := hq.resolve_right fun k => by cases k.1
   have := (h.v q hq x hx).2 hr
   rw [e _ this]; exact .inl this
  ·have := (h.r _ (by rw [List.getD_eq_getElem?_getD, List.getElem?_eq_getElem hj]; exact List.getElem_mem hj)).2 hr
   rw [e _ this]; exact .inl this
 ·exact ⟨h.c.closed, fun j hj hr => h.c.live (h.rc j hj hr)⟩
theorem St.refl {a : Ar} {T1 T2 : List Int} (h : St a T1 T2) (hj : IJ a T2) : Cp a a T1 T2 T1 T2 := ⟨⟨_, _, SmL.flds rfl rfl (fun _ => Iff.rfl) h.closed.1 h.closed.2, fun _ h => h⟩, hj⟩
theorem over_cp {a : Ar} {T1 T2 : List Int} (h : C1 a T1 T2) (hj : IJ a T2) : ∃ T2', St (overA a) T1 T2' ∧ Cp a (overA a) T1 T2 T1 T2' ∧ ((overA a).cyc = true → (overA a).scan ≠ (overA a).top) := by
 have ho := h.over
 by_cases c : a.cyc = true ∧ a.scan = a.top
 ·have e : overA a = { a with cyc := false, scan := 0, old := 0, cop := 0 } := if_pos c
  rw [e] at ho ⊢
  have hI : ∃ T, I0 ({ a with cyc := false, scan := 0, old := 0, cop := 0 } : Ar) T := by
   rcases ho.1 with k | ⟨_, _, k, _⟩
   ·exact k
   ·have := k.c.cy; cases this
  obtain ⟨T, hI⟩ := hI
  have eT : T = T1 := hI.c1.uniq h.c.c1
  subst eT
  have w : ∀ p ∈ T, whereW a.ws p = p := fun p hp => h.c.where1 hp
  refine ⟨[], .inl ⟨rfl, rfl, hI⟩, ⟨⟨_, (· ∈ T), SmL.flds rfl rfl (fun q => ⟨fun hq => .inl hq, fun hq => hq.resolve_right fun k => by cases k.1⟩) (fun q hq x hx hr => ?_) (fun j hj hr => ?_), fun q hq => .inl hq⟩, fun p hp => by cases hp⟩, fun e => by cases e⟩
  ·have := (hI.v q hq x hx).2 hr
   show whereW a.ws _ ∈ T
   rw [w _ this]; exact this
  ·have := (h.r _ (by rw [List.getD_eq_getElem?_getD, List.getElem?_eq_getElem hj]; exact List.getElem_mem hj)).2 hr
   show whereW a.ws _ ∈ T
   rw [w _ this]; exact this
 ·have e : overA a = a := if_neg c
  rw [e]
  exact ⟨T2, .inr h, St.refl (.inr h) hj, fun hc e => c ⟨hc, e⟩⟩
theorem flS_cp {a : Ar} {T1 T2 : List Int} {i : Nat} (h : FlI a T1 T2 i) (hj : IJ a T2) (hi : i < a.rs.length) : ∃ f Ta, SmL a (flS i a) f (Live a T1 T2) (Live (flS i a) Ta T2) ∧ FlI (flS i a) Ta T2 (i + 1) ∧ IJ (flS i a) T2 := by
 obtain ⟨⟨v1, v2⟩, Ta, k1, k2⟩ := flS_ok hi h
 obtain ⟨Tb, F⟩ := fwd_ok h.c v1 v2
 obtain ⟨f, S, j, w1, w2⟩ := fwdA_sl h.c h.rc hj v2 F.c
 have e : Tb = Ta := by
  have h1 := F.c.c1
  have h2 := k1.c.c1
  exact h1.uniq h2
 subst e
 have hl : (flS i a).rs.length = a.rs.length := by show (List.set _ _ _).length = _; rw [List.length_set]; exact S.rl
 have hr : ∀ j : Nat, j < a.rs.length → valC a.ws (flS i a).ws f (a.rs.getD j (0, 0)) ((flS i a).rs.getD j (0, 0)) := fun j hj => by
  show valC a.ws _ f _ ((List.set (fwdA a (a.rs.getD i (0, 0))).1.rs i (fwdA a (a.rs.getD i (0, 0))).2).getD j (0, 0))
  by_cases e : i = j
  ·subst e
   have : ((fwdA a (a.rs.getD i (0, 0))).1.rs.set i (fwdA a (a.rs.getD i (0, 0))).2).getD i (0, 0) = (fwdA a (a.rs.getD i (0, 0))).2 := by
    rw [List.getD_eq_getElem?_getD, List.getElem?_set_self (by rw [F.f.rs]; exact hi)]
    rfl
   rw [this]
   exact ⟨F.tag, F.nr, w2⟩
  ·have : ((fwdA a (a.rs.getD i (0, 0))).1.rs.set i (fwdA a (a.rs.getD i (0, 0))).2).getD j (0, 0) = (fwdA a (a.rs.getD i (0, 0))).1.rs.getD j (0, 0) := by
    rw [List.getD_eq_getElem?_getD, List.getElem?_set_ne e, ← List.getD_eq_getElem?_getD]
   rw [this]
   exact S.r j hj
 exact ⟨f, Tb, ⟨S.o, S.e, S.s, S.i, S.cl, S.cr, hl, hr⟩, k1, j⟩
theorem flR_cp {T2 : List Int} : ∀ (d i : Nat) (a : Ar) (T1 : List Int), i + d = a.rs.length → FlI a T1 T2 i → IJ a T2 → ∃ f Ta, SmL a (flR d i a) f (Live a T1 T2) (Live (flR d i a) Ta T2) ∧ C0 (flR d i a) Ta T2 ∧ IJ (flR d i a) T2
 | 0, i, a, T1, _, h, hj => ⟨_, T1, SmL.flds rfl rfl (fun _ => Iff.rfl) h.c.closed fun j hj hr => h.c.live (h.rc j hj hr), h.c, hj⟩
 | d + 1, i, a, T1, hi, h, hj => by
  obtain ⟨f, Tb, S, k, j⟩ := flS_cp h hj (by omega)
  obtain ⟨g, Ta, S2, c2, j2⟩ := flR_cp d (i + 1) (flS i a) Tb (by rw [S.rl]; omega) k j
  exact ⟨_, Ta, S.comp S2, c2, j2⟩
theorem flip_cp {a : Ar} {T1 : List Int} (h : I0 a T1) : ∃ T1' T2', St (flipA a) T1' T2' ∧ Cp a (flipA a) T1 [] T1' T2' ∧ ((flipA a).cyc = true → (flipA a).scan ≠ (flipA a).top) := by
 have c := flip0_ok h
 have hI : FlI (flip0 a) [] T1 0 := ⟨c, rfl, fun j hj => by
  have := h.r a.rs[j] (List.getElem_mem hj)
  exact ⟨this.1, fun hr => ⟨fun e => by omega, .inr (this.2 hr)⟩⟩⟩
 have hj0 : IJ (flip0 a) T1 := fun p hp q hq _ hn => by have := h.h1 p hp; rw [show gw (flip0 a).ws p = gw a.ws p from rfl, this] at hn; cases hn
 obtain ⟨f, Ta, S, c2, j2⟩ := flR_cp (flip0 a).rs.length 0 (flip0 a) [] (by omega) hI hj0
 have hst : St a T1 [] := .inl ⟨h.cy, rfl, h⟩
 have S0 : SmL a (flip0 a) (fun q => q) (Live a T1 []) (Live (flip0 a) [] T1) := SmL.flds rfl rfl (fun q => ⟨fun hq => by
  have hq : q ∈ T1 := hq.resolve_right fun k => by cases k.1
  exact .inr ⟨hq, h.h1 q hq⟩, fun hq => by
  rcases hq with k | k
  ·cases k
  ·exact .inl k.1⟩) hst.closed.1 hst.closed.2
 obtain ⟨o1, o2, o3⟩ := flip_gd h
 have hC1 : ∃ T', C1 (flR a.rs.length 0 (flip0 a)) T' T1 := by
  obtain ⟨T', k1, k2, k3⟩ := flR_ok (flip0 a).rs.length 0 (flip0 a) [] (by omega) hI
  have k1 : FlI (flR a.rs.length 0 (flip0 a)) T' T1 a.rs.length := k1
  refine ⟨T', k1.c, ?_, fun q hq hlt => ?_, fun v hv => ?_⟩
  ·rw [k1.s]
   rcases k1.c.c1.first with e | e
   ·exact .inl e
   ·exact .inr e
  ·have := k1.c.in1 hq
   have hs := k1.s
   omega
  ·obtain ⟨j, hj, e⟩ := List.mem_iff_getElem.1 hv
   obtain ⟨w1, w2⟩ := k1.r j hj
   rw [← e]
   refine ⟨w1, fun hr => (w2 hr).1 ?_⟩
   have := k2.rl
   show j < a.rs.length
   have hj' : j < (flR (flip0 a).rs.length 0 (flip0 a)).rs.length := hj
   rw [this] at hj'
   exact hj'
 obtain ⟨T', hC⟩ := hC1
 have e : Ta = T' := by
  have h1 := c2.c1
  exact h1.uniq hC.c.c1
 subst e
 obtain ⟨T2', c3, p3, s3⟩ := over_cp hC j2
 have p1 : Cp a (flR a.rs.length 0 (flip0 a)) T1 [] Ta T1 := ⟨⟨_, _, S0.comp S, fun _ h => h⟩, j2⟩
 exact ⟨Ta, T2', c3, p1.trans p3, s3⟩
theorem wrap_inj {x y : Int} (hx : inW x) (hy : inW y) (e : IntKind.i64.wrap x = IntKind.i64.wrap y) : x = y := by
 unfold inW at hx hy
 unfold IntKind.wrap at e
 simp [IntKind.bits, IntKind.signed] at e
 omega
theorem slots_from {k s x : Int} (hx : x ∈ slotsL k s) : fromK k s ≤ x := by
 unfold slotsL everyK at hx
 obtain ⟨j, hj, rfl⟩ := List.mem_map.1 hx
 omega
theorem textC {a b : Ar} {f : Int → Int} {p : Int} (hw : a.wf) (o : ObjC a.ws b.ws f p) (hk : kdW a.ws p = 1) (hs : strP a.ws p (szW a.ws p)) : textL b.ws (f p) = textL a.ws p ∧ strP b.ws (f p) (szW a.ws p) := by
 obtain ⟨s1, s2, s3⟩ := hs
 have g0 := (gw_in hw.w (p + 1)).1
 have R : ∀ y : Int, 1 ≤ y → y ≤ szW a.ws p → gw b.ws (f p + y) = gw a.ws (p + y) := fun y y0 y1 => o.raw y y0 y1 fun x hx => by rw [hk, slots_1] at hx; cases hx
 have R1 := R 1 (by omega) (by omega)
 constructor
 ·unfold textL textN
  rw [R1]
  refine List.map_congr_left fun i hi => ?_
  rw [List.mem_range] at hi
  have e : gw b.ws (f p + 2 + ((i / 8 : Nat) : Int)) = gw a.ws (p + 2 + ((i / 8 : Nat) : Int)) := by
   have := R (2 + ((i / 8 : Nat) : Int)) (by omega) (by omega)
   rwa [← Int.add_assoc, ← Int.add_assoc] at this
  unfold byteW byteI
  rw [e]
 ·unfold strP
  rw [R1, R (szW a.ws p) (by omega) (Int.le_refl _)]
  exact ⟨s1, s2, s3⟩
section
variable {a b : Ar} {f : Int → Int} {D : Int → Prop} {T1 T2 : List Int}
theorem hash_cp {E : Int → Prop} (hw : a.wf) (h : Rt a T1 T2) (S : SmL a b f D E) (hs : ∀ q, D q → Live a T1 T2 q) {v v' : Vl} (hC : valC a.ws b.ws f v v') (hD : isRefB v = true → D (whereW a.ws v.2) ∧ kdW a.ws (whereW a.ws v.2) = kindT v.1) (t0 : 1 ≤ v.1) (t1 : v.1 ≤ 7) : hashA b.ws v' = hashA a.ws v := by
 unfold hashA
 rw [hC.1]
 cases hr : isRefB v with
 | false =>
  have e := hC.2.1 hr
  subst e
  by_cases c1 : v'.1 = 1
  ·rw [if_pos c1, if_pos c1]
  by_cases c2 : v'.1 = 2
  ·rw [if_neg c1, if_neg c1, if_pos c2, if_pos c2]
  by_cases c7 : v'.1 = 7
  ·rw [if_neg c1, if_neg c1, if_neg c2, if_neg c2, if_pos c7, if_pos c7]
  ·exfalso
   have : v'.1 = 3 ∨ v'.1 = 4 ∨ v'.1 = 5 ∨ v'.1 = 6 := by omega
   unfold isRefB kindT at hr
   rcases this with e | e | e | e <;> (rw [e] at hr; revert hr; decide)
 | true =>
  obtain ⟨d, k⟩ := hD hr
  have w := hC.2.2 hr
  have o := S.o _ d
  have := ref_tags hr
  have n1 : ¬ v.1 = 1 := by omega
  have n2 : ¬ v.1 = 2 := by omega
  have n7 : ¬ v.1 = 7 := by omega
  rw [if_neg n1, if_neg n1, if_neg n2, if_neg n2, if_neg n7, if_neg n7, w]
  by_cases c3 : v.1 = 3
  ·rw [if_pos c3, if_pos c3]
   rw [c3] at k
   rw [(textC hw o k ((h.en _ (hs _ d)).1 k)).1]
  ·rw [if_neg c3, if_neg c3, look_c o.hd]
theorem same_cp {E : Int → Prop} (hw : a.wf) (h : Rt a T1 T2) (S : SmL a b f D E) (hs : ∀ q, D q → Live a T1 T2 q) {v v' w w' : Vl} (hC : valC a.ws b.ws f v v') (hC' : valC a.ws b.ws f w w') (hD : isRefB v = true → D (whereW a.ws v.2) ∧ kdW a.ws (whereW a.ws v.2) = kindT v.1) (hD' : isRefB w = true → D (whereW a.ws w.2) ∧ kdW a.ws (whereW a.ws w.2) = kindT w.1) : sameA b.ws v' w' = sameA a.ws v w := by
 unfold sameA
 rw [hC.1, hC'.1, hC.ref]
 by_cases c : v.1 = w.1
 ·rw [if_pos c, if_pos c]
  have er : isRefB w = isRefB v := by unfold isRefB; rw [c]
  cases hr : isRefB v with
  | false => rw [hC.2.1 hr, hC'.2.1 (er.trans hr), if_neg (by decide), if_neg (by decide)]
  | true =>
   obtain ⟨d, k⟩ := hD hr
   obtain ⟨d', k'⟩ := hD' (er.trans hr)
   rw [hC.2.2 hr, hC'.2.2 (er.trans hr)]
   by_cases c3 : v.1 = 3
   ·have c3' : w.1 = 3 := by omega
    rw [c3] at k
    rw [c3'] at k'
    have e1 := (textC hw (S.o _ d) k ((h.en _ (hs _ d)).1 k)).1
    have e2 := (textC hw (S.o _ d') k' ((h.en _ (hs _ d')).1 k')).1
    rw [if_pos rfl, if_pos rfl, if_pos c3, if_pos c3]
    unfold sameT textS
    rw [e1, e2]
   ·rw [if_pos rfl, if_pos rfl, if_neg c3, if_neg c3]
    by_cases e : whereW a.ws v.2 = whereW a.ws w.2
    ·rw [e, beq_self_eq_true, beq_self_eq_true]
    ·have : f (whereW a.ws v.2) ≠ f (whereW a.ws w.2) := fun k => e (S.i _ _ d d' k)
     exact (beq_eq_false_iff_ne.2 this).trans (beq_eq_false_iff_ne.2 e).symm
 ·rw [if_neg c, if_neg c]
theorem find_cp {E : Int → Prop} (hw : a.wf) (h : Rt a T1 T2) (S : SmL a b f D E) (hs : ∀ q, D q → Live a T1 T2 q) {p : Int} (hp : D p) (hk : kdW a.ws p = 3) {n : Int} (hn : szW a.ws p = 4 * n) {v v' : Vl} (hC : valC a.ws b.ws f v v') (hD : isRefB v = true → D (whereW a.ws v.2) ∧ kdW a.ws (whereW a.ws v.2) = kindT v.1) :
  ∀ (m : Nat) (i : Int), 0 ≤ i → i < n → findG b.ws (f p) n v' m i = findG a.ws p n v m i
 | 0, _, _, _ => rfl
 | m + 1, i, i0, i1 => by
  have ok := (h.at (hs p hp)).1
  have s3 : sizeB 3 (szW a.ws p) = true := by have := (size_ok hw ok).1; rwa [hk] at this
  have hx : 1 + 4 * i ∈ slotsL (kdW a.ws p) (szW a.ws p) := by rw [hk]; exact (slots_3 s3 i0 (by omega)).1
  have s := (S.o p hp).sl _ hx
  have r := h.rl p (hs p hp) _ hx
  have c := S.cl p hp _ hx
  rw [show f p + (1 + 4 * i) = f p + 1 + 4 * i by omega, show p + (1 + 4 * i) = p + 1 + 4 * i by omega] at s
  rw [show p + (1 + 4 * i) = p + 1 + 4 * i by omega] at r c
  have sm := same_cp hw h S hs s hC (fun hr => ⟨c hr, r.2 hr⟩) hD
  unfold findG
  rw [s.1, sm]
  have m0 := Int.emod_nonneg (i + 1) (show n ≠ 0 by omega)
  have m1 := Int.emod_lt_of_pos (i + 1) (show 0 < n by omega)
  rw [find_cp hw h S hs hp hk hn hC hD m _ m0 m1]
theorem Rt.cp (hw : a.wf) (hbw : b.wf) {T1' T2' : List Int} (h : Rt a T1 T2) (S : SmL a b f D (Live b T1' T2')) (hs : ∀ q, D q → Live a T1 T2 q) (hb : St b T1' T2') (hij : IJ b T2') (hser : b.ser = a.ser) : Rt b T1' T2' := by
 have sz : ∀ q, D q → kdW b.ws (f q) = kdW a.ws q ∧ szW b.ws (f q) = szW a.ws q ∧ serW b.ws (f q) = serW a.ws q := fun q hq => by
  have e := (S.o q hq).hd
  exact ⟨kd_c e, sz_c e, by unfold serW; rw [look_c e]⟩
 have tab : ∀ q, D q → kdW a.ws q = 2 → (2 : Int) ∈ slotsL (kdW a.ws q) (szW a.ws q) := fun q hq hk => by rw [hk, ok_tab hw (h.at (hs q hq)).1 hk, slots_2]; simp
 refine ⟨hb, fun p hp => ?_, fun p q hp hq hne hz => ?_, fun p hp x hx => ?_, fun p hp => ?_, hij, fun p hp hk => ?_, fun p q hp hq hne hk hl ht hu => ?_, fun v hv => ?_⟩
 ·obtain ⟨q, hq, rfl⟩ := S.s p hp
  rw [(sz q hq).2.2, hser]
  exact h.sr q (hs q hq)
 ·obtain ⟨p, hp', rfl⟩ := S.s p hp
  obtain ⟨q, hq', rfl⟩ := S.s q hq
  rw [(sz p hp').2.2] at hz ⊢
  rw [(sz q hq').2.2]
  exact h.sd p q (hs p hp') (hs q hq') (fun e => hne (by rw [e])) hz
 ·obtain ⟨q, hq, rfl⟩ := S.s p hp
  obtain ⟨z1, z2, z3⟩ := sz q hq
  rw [z1, z2] at hx
  have s := (S.o q hq).sl x hx
  obtain ⟨r1, r2⟩ := h.rl q (hs q hq) x hx
  refine ⟨by rw [z1, s.1]; exact r1, fun hr => ?_⟩
  rw [s.ref] at hr
  rw [s.2.2 hr, (sz _ (S.cl q hq x hx hr)).1, s.1]
  exact r2 hr
 ·obtain ⟨q, hq, rfl⟩ := S.s p hp
  obtain ⟨z1, z2, z3⟩ := sz q hq
  have o := S.o q hq
  obtain ⟨e1, e4, e6⟩ := h.en q (hs q hq)
  have ok := (h.at (hs q hq)).1
  have hz := (size_ok hw ok).1
  rw [z1, z2]
  refine ⟨fun hk => (textC hw o hk (e1 hk)).2, fun hk => ?_, fun hk => ?_⟩
  ·rw [o.raw 1 (by omega) (size_ok hw ok).2 fun x hx => by
    have := slots_from hx
    rw [hk] at this
    have : (2 : Int) ≤ x := this
    omega]
   exact e4 hk
  ·have s126 : szW a.ws q = 126 := by rw [hk] at hz; unfold sizeB at hz; simpa using hz
   obtain ⟨c1, c2, c3, c4, c5, c6⟩ := e6 hk
   have R : ∀ y : Int, 1 ≤ y → y ≤ 4 → gw b.ws (f q + y) = gw a.ws (q + y) := fun y y0 y1 => o.raw y y0 (by omega) fun x hx => by
    have := slots_from hx
    rw [hk] at this
    have : (5 : Int) ≤ x := this
    omega
   have sl : ∀ j : Nat, j < 61 → gw b.ws (f q + (5 + 2 * (j : Int))) = gw a.ws (q + (5 + 2 * (j : Int))) := fun j hj => by
    have hx : 5 + 2 * (j : Int) ∈ slotsL (kdW a.ws q) (szW a.ws q) := by
     rw [hk, s126]
     unfold slotsL
     exact mem_every (f := fromK 6 126) (n := numK (fromK 6 126) 126) j (by unfold numK fromK; simp; omega)
    exact wrap_inj (gw_in hbw.w _) (gw_in hw.w _) (o.sl _ hx).1
   refine ⟨?_, ?_, ?_, ?_, ?_, fun i hi h2 => ?_⟩
   ·rw [R 1 (by omega) (by omega)]; exact c1
   ·rw [R 2 (by omega) (by omega)]; exact c2
   ·rw [R 3 (by omega) (by omega), R 2 (by omega) (by omega)]; exact c3
   ·rw [R 4 (by omega) (by omega)]; exact c4
   ·have := sl 0 (by decide)
    rw [show (5 + 2 * ((0 : Nat) : Int)) = 5 from rfl] at this
    rw [this]; exact c5
   ·have := sl (i + 1) (by omega)
    rw [show f q + (5 + 2 * ((i + 1 : Nat) : Int)) = f q + 7 + 2 * (i : Int) by omega, show q + (5 + 2 * ((i + 1 : Nat) : Int)) = q + 7 + 2 * (i : Int) by omega] at this
    rw [this]
    rw [R 2 (by omega) (by omega)] at h2
    exact c6 i hi h2
 ·obtain ⟨q, hq, rfl⟩ := S.s p hp
  obtain ⟨z1, z2, z3⟩ := sz q hq
  rw [z1] at hk
  have o := S.o q hq
  have hx := tab q hq hk
  have s := o.sl 2 hx
  have t := h.tb q (hs q hq) hk
  have z3 := ok_tab hw (h.at (hs q hq)).1 hk
  have r1 : gw b.ws (f q + 1) = gw a.ws (q + 1) := o.raw 1 (by omega) (by omega) fun x hx => by rw [hk, z3, slots_2] at hx; simp at hx; omega
  unfold tabI tabP at t ⊢
  rw [s.1, r1]
  by_cases c0 : (valW a.ws (q + 2)).1 = 0
  ·rw [if_pos c0] at t ⊢
   exact t
  ·rw [if_neg c0] at t ⊢
   obtain ⟨t1, t2, t3, t4, t5⟩ := t
   have hr : isRefB (valW a.ws (q + 2)) = true := by unfold isRefB kindT; rw [t1]; rfl
   have d := S.cl q hq 2 hx hr
   have k3 : kdW a.ws (whereW a.ws (valW a.ws (q + 2)).2) = 3 := by rw [(h.rl q (hs q hq) 2 hx).2 hr, t1]; rfl
   rw [s.2.2 hr]
   generalize whereW a.ws (valW a.ws (q + 2)).2 = p at *
   have ok := (h.at (hs p d)).1
   have s3 : sizeB 3 (szW a.ws p) = true := by have := (size_ok hw ok).1; rwa [k3] at this
   have hss : szW a.ws p = 16 ∨ szW a.ws p = 32 ∨ szW a.ws p = 64 ∨ szW a.ws p = 128 ∨ szW a.ws p = 256 := by unfold sizeB at s3; simpa using s3
   have eN : blkN b.ws (f p) = blkN a.ws p := by show szW b.ws (f p) / 4 = szW a.ws p / 4; rw [(sz p d).2.1]
   have e4 : szW a.ws p = 4 * blkN a.ws p := by show _ = 4 * (szW a.ws p / 4); omega
   have key : ∀ i : Int, 0 ≤ i → i < blkN a.ws p → valC a.ws b.ws f (valW a.ws (p + 1 + 4 * i)) (valW b.ws (f p + 1 + 4 * i)) ∧ (isRefB (valW a.ws (p + 1 + 4 * i)) = true → D (whereW a.ws (valW a.ws (p + 1 + 4 * i)).2) ∧ kdW a.ws (whereW a.ws (valW a.ws (p + 1 + 4 * i)).2) = kindT (valW a.ws (p + 1 + 4 * i)).1) ∧ ruleB 3 (valW a.ws (p + 1 + 4 * i)).1 = true := fun i i0 i1 => by
    have hx : 1 + 4 * i ∈ slotsL (kdW a.ws p) (szW a.ws p) := by rw [k3]; exact (slots_3 s3 i0 (by omega)).1
    have s := (S.o p d).sl _ hx
    have r := h.rl p (hs p d) _ hx
    have c := S.cl p d _ hx
    rw [show f p + (1 + 4 * i) = f p + 1 + 4 * i by omega, show p + (1 + 4 * i) = p + 1 + 4 * i by omega] at s
    rw [show p + (1 + 4 * i) = p + 1 + 4 * i by omega, k3] at r
    rw [show p + (1 + 4 * i) = p + 1 + 4 * i by omega] at c
    exact ⟨s, fun hr => ⟨c hr, r.2 hr⟩, r.1⟩
   have us : ∀ m : Nat, (m : Int) ≤ blkN a.ws p → usedW b.ws (f p) m = usedW a.ws p m := by
    intro m
    induction m with
    | zero => exact fun _ => rfl
    | succ m ih =>
     intro hm
     unfold usedW
     rw [ih (by omega), wrap_inj (gw_in hbw.w _) (gw_in hw.w _) (key m (by omega) (by omega)).1.1]
   rw [eN, us _ (by omega)]
   refine ⟨t1, by simp, fun i i0 i1 ht => ?_, t4, t5⟩
   obtain ⟨kc, kd, kr⟩ := key i i0 i1
   rw [kc.1] at ht
   have ta := t3 i i0 i1 ht
   have r8 := rule_3 kr
   have hv : valOkB (valW a.ws (p + 1 + 4 * i)) = true := by
    have hx : 1 + 4 * i ∈ slotsL (kdW a.ws p) (szW a.ws p) := by rw [k3]; exact (slots_3 s3 i0 (by omega)).1
    have key' : valOkB (valW a.ws (p + (1 + 4 * i))) = true := by
     rcases h.c with ⟨_, rfl, c⟩ | c
     ·exact (c.v p ((hs p d).resolve_right fun k => by cases k.1) _ hx).1
     ·rcases hs p d with k | ⟨k, ko⟩
      ·exact (c.c.v1 p k _ hx).1
      ·exact (c.c.v2 p k ko _ hx).1
    rwa [show p + (1 + 4 * i) = p + 1 + 4 * i by omega] at key'
   have tg := valOk_tag hv
   have hh := hash_cp hw h S hs kc kd (by omega) (by omega)
   have ht' : ¬ (valW b.ws (f p + 1 + 4 * i)).1 = 0 := by rw [kc.1]; exact ht
   unfold findA at ta ⊢
   rw [if_neg ht] at ta
   rw [if_neg ht', hh, find_cp hw h S hs d k3 e4 kc kd _ _ (Int.emod_nonneg _ (by omega)) (Int.emod_lt_of_pos _ (by omega))]
   exact ta
 ·obtain ⟨p, hp', rfl⟩ := S.s p hp
  obtain ⟨q, hq', rfl⟩ := S.s q hq
  rw [(sz p hp').1] at hk
  rw [(sz q hq').1] at hl
  have x1 := tab p hp' hk
  have x2 := tab q hq' hl
  have s1 := (S.o p hp').sl 2 x1
  have s2 := (S.o q hq').sl 2 x2
  rw [s1.1] at ht
  rw [s2.1] at hu
  have k8 : ∀ q, D q → kdW a.ws q = 2 → (valW a.ws (q + 2)).1 ≠ 0 → isRefB (valW a.ws (q + 2)) = true := fun q hq hk ht => by
   have t := h.tb q (hs q hq) hk
   unfold tabI tabP at t
   rw [if_neg ht] at t
   unfold isRefB kindT
   rw [t.1]
   rfl
  have r1 := k8 p hp' hk ht
  have r2 := k8 q hq' hl hu
  rw [s1.2.2 r1, s2.2.2 r2]
  exact fun e => h.td p q (hs p hp') (hs q hq') (fun e => hne (by rw [e])) hk hl ht hu (S.i _ _ (S.cl p hp' 2 x1 r1) (S.cl q hq' 2 x2 r2) e)
 ·obtain ⟨j, hj, e⟩ := List.mem_iff_getElem.1 hv
  have hja : j < a.rs.length := by rw [← S.rl]; exact hj
  have s := S.r j hja
  have eb : b.rs.getD j (0, 0) = v := by rw [List.getD_eq_getElem?_getD, List.getElem?_eq_getElem hj]; exact e
  rw [eb] at s
  obtain ⟨r1, r2⟩ := h.rr _ (getD_mem hja)
  refine ⟨by rw [s.1]; exact r1, fun hr => ?_⟩
  rw [s.ref] at hr
  rw [s.2.2 hr, (sz _ (S.cr j hja hr)).1, s.1]
  exact r2 hr
end
theorem St.wf {a : Ar} {T1 T2 : List Int} (h : St a T1 T2) : a.wf := h.elim (fun k => k.2.2.wf) fun k => k.c.wf
theorem Rt.copied {a b : Ar} {T1 T2 T1' T2' : List Int} (h : Rt a T1 T2) (hp : Cp a b T1 T2 T1' T2') (hb : St b T1' T2') (hser : b.ser = a.ser) : Rt b T1' T2' := by
 obtain ⟨⟨f, D, S, s⟩, j⟩ := hp
 exact h.cp (St.wf h.c) hb.wf S s hb j hser
theorem ok_flip {a : Ar} (hw : a.wf) (h : okP a) (hc : a.cyc = false) : okP (flipA a) ∧ Sm a (flipA a) := by
 obtain ⟨T1, T2, r⟩ := rt_of hw h
 obtain ⟨c1, rfl, i⟩ : a.cyc = false ∧ T2 = [] ∧ I0 a T1 := by
  rcases r.c with k | k
  ·exact k
  ·have := k.c.cy; rw [hc] at this; cases this
 obtain ⟨Ta, Tb, c2, p2, _⟩ := flip_cp i
 obtain ⟨o1, o2, o3⟩ := flip_gd i
 exact ⟨ok_of (r.copied p2 c2 o2.ser), flip_sm i⟩
structure Kp (a : Ar) : Prop where
 wf : a.wf
 t0 : 1 ≤ a.top
 t1 : a.top ≤ a.ws.length
 s : (0 ≤ a.scan ∧ a.scan + 2 ≤ a.top) ∨ a.cyc = false ∧ a.scan = 0
def Ln (a b : Ar) : Prop := b.ws.length = a.ws.length ∧ b.rs.length = a.rs.length
theorem Ln.refl (a : Ar) : Ln a a := ⟨rfl, rfl⟩
theorem Ln.trans {a b c : Ar} (h : Ln a b) (g : Ln b c) : Ln a c := ⟨g.1.trans h.1, g.2.trans h.2⟩
theorem Sz.ln {a b : Ar} (h : Sz a b) : Ln a b := ⟨h.len, h.rl⟩
theorem Gd.kp {a : Ar} (h : Gd a) : Kp a := by
 have hN := h.okC.num.1
 have hh := halves hN
 have p0 := hN.p0
 have p1 := hN.p1
 have hl := hN.sm.l
 refine ⟨h.okC.num.2, by omega, by omega, ?_⟩
 rcases h with ⟨T1, k⟩ | ⟨T1, T2, k, hne⟩
 ·right
  have hf := hN.f
  unfold freeP at hf
  rw [k.cy, if_neg (by decide)] at hf
  exact ⟨k.cy, hf.1⟩
 ·left
  have := k.c.in1 (k.sc.resolve_left hne)
  omega
theorem Kp.gd {a : Ar} (h : Kp a) (hk : okP a) : Gd a := by
 rcases okC_of h.wf hk with k | ⟨T1, T2, k⟩
 ·exact .inl k
 ·refine .inr ⟨T1, T2, k, fun e => ?_⟩
  rcases h.s with c | c
  ·omega
  ·have := k.c.cy
   rw [c.1] at this
   cases this
theorem Kp.put {c : Ar} (h : Kp c) {ws : List U64} {rs : List Vl} (hw : ∀ x ∈ ws, inW x.v) (hl : ws.length = c.ws.length) (hr : rs.length = c.rs.length) : Kp { c with ws := ws, rs := rs } ∧ Ln c { c with ws := ws, rs := rs } :=
 ⟨⟨⟨hw, by show ws.length ≤ _; rw [hl]; exact h.wf.n, by show rs.length ≤ _; rw [hr]; exact h.wf.r⟩, h.t0, by show c.top ≤ (ws.length : Int); rw [hl]; exact h.t1, h.s⟩, hl, hr⟩
theorem Gd.pace {a : Ar} (h : Gd a) : Gd (paceA a) := by
 unfold paceA
 by_cases c : a.cyc = true
 ·rw [if_pos c, h.over]
  exact (steps_gd 2 _ h).1
 ·rw [if_neg c]
  split
  ·rcases h with ⟨T1, k⟩ | ⟨T1, T2, k, _⟩
   ·obtain ⟨g1, _, _⟩ := flip_gd k
    rw [g1.over]
    exact (steps_gd 2 _ g1).1
   ·exact absurd k.c.cy c
  ·exact h
theorem Gd.roomG {a : Ar} (h : Gd a) (n : Int) : Gd (roomA n a) := by
 unfold roomA
 split
 ·exact .inl (coll_gd h).1
 ·exact h
theorem Kp.okGd {a : Ar} (h : Kp a) (hk : OkC a) : Gd a := by
 rcases hk with k | ⟨T1, T2, k⟩
 ·exact .inl k
 ·refine .inr ⟨T1, T2, k, fun e => ?_⟩
  rcases h.s with c | c
  ·omega
  ·have := k.c.cy
   rw [c.1] at this
   cases this
theorem Gd.ask {a : Ar} {k n : Int} (h : Gd a) (hsz : sizeB k n = true) (hs : bornB k = true → a.ser < 1000000000) : Gd (askA k n a).1 ∧ Ln a (askA k n a).1 ∧ ((askA k n a).2.2 = 0 ∧ New (askA k n a).1 (askA k n a).2.1 k n ∨ (askA k n a).2.2 = 2) := by
 obtain ⟨l1, l2, _, _⟩ := ask_ok h.okC hsz
 obtain ⟨o1, _, o3⟩ := ask_sm h.okC hsz hs
 refine ⟨?_, ⟨l1, l2⟩, o3⟩
 refine Kp.okGd ?_ o1
 revert o1
 unfold askA
 split
 ·exact fun _ => h.kp
 ·intro o1
  have gb := h.pace.roomG n
  generalize roomA n (paceA a) = b at *
  unfold putA at o1 ⊢
  split
  ·exact gb.kp
  ·rename_i hf
   rw [if_neg hf] at o1
   have kb := gb.kp
   have hw := o1.num
   have p1 := hw.1.p1
   have hh := halves hw.1
   have hl := hw.1.sm.l
   have bn : 1 ≤ n := by
    have := hd_b (k := k) (s := n) (z := if bornB k = true then 1 else 0) (by unfold hdOk; rw [hsz]; cases bornB k <;> simp)
    omega
   have et : (if bornB k = true then { putW k n b.ser b with ser := b.ser + 1 } else putW k n 0 b).top = b.top + (n + 1) := by split <;> rfl
   have es : (if bornB k = true then { putW k n b.ser b with ser := b.ser + 1 } else putW k n 0 b).scan = b.scan := by split <;> rfl
   have ec : (if bornB k = true then { putW k n b.ser b with ser := b.ser + 1 } else putW k n 0 b).cyc = b.cyc := by split <;> rfl
   have t0 := kb.t0
   refine ⟨hw.2, ?_, ?_, ?_⟩
   ·show 1 ≤ (if bornB k = true then { putW k n b.ser b with ser := b.ser + 1 } else putW k n 0 b).top
    rw [et]; omega
   ·show (if bornB k = true then { putW k n b.ser b with ser := b.ser + 1 } else putW k n 0 b).top ≤ _
    have p1' : (if bornB k = true then { putW k n b.ser b with ser := b.ser + 1 } else putW k n 0 b).top ≤ _ := p1
    have hl' : ((if bornB k = true then { putW k n b.ser b with ser := b.ser + 1 } else putW k n 0 b).ws.length : Int) = _ := hl
    omega
   ·show (0 ≤ (if bornB k = true then { putW k n b.ser b with ser := b.ser + 1 } else putW k n 0 b).scan ∧ (if bornB k = true then { putW k n b.ser b with ser := b.ser + 1 } else putW k n 0 b).scan + 2 ≤ (if bornB k = true then { putW k n b.ser b with ser := b.ser + 1 } else putW k n 0 b).top) ∨ (if bornB k = true then { putW k n b.ser b with ser := b.ser + 1 } else putW k n 0 b).cyc = false ∧ (if bornB k = true then { putW k n b.ser b with ser := b.ser + 1 } else putW k n 0 b).scan = 0
    rw [et, es, ec]
    rcases kb.s with c | c
    ·left; omega
    ·exact .inr c
theorem inW_put {a : Ar} (h : ∀ x ∈ a.ws, inW x.v) (i : Int) (v : Vl) : ∀ x ∈ (putV a i v).ws, inW x.v := inW_set (inW_set h (uW_in _)) (uW_in _)
theorem inW_lay (p n : Int) {w : List U64} (h : ∀ x ∈ w, inW x.v) (k v : Vl) : ∀ x ∈ layW p n w k v, inW x.v := inW_set (inW_set (inW_set (inW_set h (uW_in _)) (uW_in _)) (uW_in _)) (uW_in _)
theorem inW_fill (p n b : Int) : ∀ (f : Nat) (i : Int) (w : List U64), (∀ x ∈ w, inW x.v) → ∀ x ∈ fillF p n b f i w, inW x.v
 | 0, _, _, h => h
 | f + 1, i, w, h => by
  unfold fillF
  refine inW_fill p n b f (i + 1) _ ?_
  split
  ·exact inW_lay p n h _ _
  ·exact h
theorem fill_ln (p n b : Int) : ∀ (f : Nat) (i : Int) (w : List U64), (fillF p n b f i w).length = w.length
 | 0, _, _ => rfl
 | f + 1, i, w => by
  unfold fillF
  rw [fill_ln p n b f (i + 1)]
  split
  ·exact lay_len ..
  ·rfl
theorem Kp.ld {a : Ar} (h : Kp a) {i : Int} (hR : a.cyc = true → RefIn a (valW a.ws i)) : Kp (ldA a i) ∧ Ln a (ldA a i) := by
 unfold ldA
 split
 ·rename_i c
  obtain ⟨T1, T2, C, v1, v2⟩ := hR c
  obtain ⟨Ta, F⟩ := fwd_ok C v1 v2
  have nn := F.c.nums
  have hl : (fwdA a (valW a.ws i)).1.ws.length = a.ws.length := F.f.len
  have hr : (fwdA a (valW a.ws i)).1.rs.length = a.rs.length := by rw [F.f.rs]
  have ht : a.top ≤ (fwdA a (valW a.ws i)).1.top := by
   unfold fwdA
   split
   ·split
    ·exact Int.le_refl _
    ·show a.top ≤ a.top + (szW a.ws (valW a.ws i).2 + 1)
     have := (szW_0 C.wf.w (valW a.ws i).2).1
     omega
   ·exact Int.le_refl _
  have t0 := h.t0
  have k : Kp (fwdA a (valW a.ws i)).1 := ⟨F.c.wf, by omega, by omega, by
   rw [F.f.scan, F.f.cyc]
   rcases h.s with e | e
   ·left; omega
   ·exact .inr e⟩
  obtain ⟨k1, k2⟩ := k.put (ws := (putV (fwdA a (valW a.ws i)).1 i (fwdA a (valW a.ws i)).2).ws) (rs := (fwdA a (valW a.ws i)).1.rs) (inW_put k.wf.w _ _) (put_len ..) rfl
  exact ⟨k1, Ln.trans ⟨hl, hr⟩ k2⟩
 ·exact ⟨h, Ln.refl a⟩
theorem Kp.nc {a : Ar} (h : Kp a) (f i : Int) : Kp (ncA a f i).1 ∧ Ln a (ncA a f i).1 := by
 unfold ncA
 split
 ·rename_i c
  obtain ⟨g, l, _⟩ := (h.gd c.1).ask (k := 5) (n := 2) (by decide) (fun e => by cases e)
  unfold ncR
  split
  ·obtain ⟨k1, k2⟩ := g.kp.put (ws := (putV (askA 5 2 a).1 ((askA 5 2 a).2.1 + 1) ((askA 5 2 a).1.rs.getD f.toNat (0, 0))).ws) (rs := (askA 5 2 a).1.rs.set i.toNat (9, (askA 5 2 a).2.1)) (inW_put g.kp.wf.w _ _) (put_len ..) List.length_set
   exact ⟨k1, l.trans k2⟩
  ·exact ⟨g.kp, l⟩
 ·exact ⟨h, Ln.refl a⟩
theorem Kp.sk {a : Ar} (h : Kp a) (r k f : Int) : Kp (skA a r k f).1 ∧ Ln a (skA a r k f).1 := by
 unfold skA
 split
 case isFalse => exact ⟨h, Ln.refl a⟩
 rename_i c
 split
 ·exact ⟨h, Ln.refl a⟩
 have S := skOk_of h.wf c
 obtain ⟨Sb, L, _⟩ := S.load
 obtain ⟨kb, lb⟩ := h.ld (i := (rtA a r).2 + 2) (fun cy => S.refIn S.ok cy)
 unfold skR
 generalize ldA a ((rtA a r).2 + 2) = b at *
 unfold skB
 dsimp only
 split
 ·obtain ⟨k1, k2⟩ := kb.put (ws := (putV b ((blkOf b.ws (rtA b r).2).1 + 3 + 4 * (findA b.ws (blkOf b.ws (rtA b r).2).1 (blkOf b.ws (rtA b r).2).2 (rtA b k)).1) (rtA b f)).ws) (rs := b.rs) (inW_put kb.wf.w _ _) (put_len ..) rfl
  exact ⟨k1, lb.trans k2⟩
 split
 ·exact ⟨kb, lb⟩
 split
 ·unfold gkR
  dsimp only
  split
  ·exact ⟨kb, lb⟩
  ·rename_i hg
   obtain ⟨_, _, hsz, _⟩ := growN_ok (1 + aliveF b.ws (blkOf b.ws (rtA b r).2).1 (blkOf b.ws (rtA b r).2).2.toNat 0) (by have := (aliveF_range b.ws (blkOf b.ws (rtA b r).2).1 (blkOf b.ws (rtA b r).2).2.toNat 0).1; omega) (by omega)
   obtain ⟨g, l, _⟩ := (kb.okGd Sb.ok).ask hsz (fun e => by cases e)
   split
   ·unfold rnA
    obtain ⟨k1, k2⟩ := g.kp.put (rs := _) (inW_set (inW_set (inW_set (inW_lay _ _ (inW_fill _ _ _ _ _ _ g.kp.wf.w) _ _) (uW_in _)) (uW_in _)) (uW_in _)) (by simp only [setW_len, lay_len, fill_ln]) rfl
    exact ⟨k1, lb.trans (l.trans k2)⟩
   ·exact ⟨g.kp, lb.trans l⟩
 ·obtain ⟨k1, k2⟩ := kb.put (ws := setW (layW (blkOf b.ws (rtA b r).2).1 (blkOf b.ws (rtA b r).2).2 b.ws (rtA b k) (rtA b f)) ((rtA b r).2 + 1) (uW (gw b.ws ((rtA b r).2 + 1) + 1))) (rs := b.rs) (inW_set (inW_lay _ _ kb.wf.w _ _) (uW_in _)) (by rw [setW_len, lay_len]) rfl
  exact ⟨k1, lb.trans k2⟩
open Classical in
noncomputable def srA (a : Ar) (r : Int) (v : Vl) : Ar × Bool := if okP a ∧ (0 ≤ r ∧ r < a.rs.length) ∧ valOkB v = true ∧ isRefB v = false then ({ a with rs := a.rs.set r.toNat v }, true) else (a, false)
theorem Kp.sr {a : Ar} (h : Kp a) (r : Int) (v : Vl) : Kp (srA a r v).1 ∧ Ln a (srA a r v).1 := by
 unfold srA
 split
 ·exact h.put (ws := a.ws) (rs := a.rs.set r.toNat v) h.wf.w rfl List.length_set
 ·exact ⟨h, Ln.refl a⟩
open Classical in
noncomputable def mrA (a : Ar) (r f : Int) : Ar × Bool := if okP a ∧ (0 ≤ r ∧ r < a.rs.length) ∧ 0 ≤ f ∧ f < a.rs.length then ({ a with rs := a.rs.set r.toNat (rtA a f) }, true) else (a, false)
theorem Kp.mr {a : Ar} (h : Kp a) (r f : Int) : Kp (mrA a r f).1 ∧ Ln a (mrA a r f).1 := by
 unfold mrA
 split
 ·exact h.put (ws := a.ws) (rs := a.rs.set r.toNat (rtA a f)) h.wf.w rfl List.length_set
 ·exact ⟨h, Ln.refl a⟩
def ntR (a : Ar) (i : Int) : Ar × Int := if (askA 2 3 a).2.2 = 0 then ({ (askA 2 3 a).1 with rs := (askA 2 3 a).1.rs.set i.toNat (4, (askA 2 3 a).2.1) }, (askA 2 3 a).2.2) else ((askA 2 3 a).1, (askA 2 3 a).2.2)
open Classical in
noncomputable def ntA (a : Ar) (i : Int) : Ar × Int := if okP a ∧ (0 ≤ i ∧ i < a.rs.length) ∧ a.ser < 1000000000 then ntR a i else (a, 1)
theorem Kp.nt {a : Ar} (h : Kp a) (i : Int) : Kp (ntA a i).1 ∧ Ln a (ntA a i).1 := by
 unfold ntA
 split
 ·rename_i c
  obtain ⟨g, l, _⟩ := (h.gd c.1).ask (k := 2) (n := 3) (by decide) (fun _ => c.2.2)
  unfold ntR
  split
  ·obtain ⟨k1, k2⟩ := g.kp.put (ws := (askA 2 3 a).1.ws) (rs := (askA 2 3 a).1.rs.set i.toNat (4, (askA 2 3 a).2.1)) g.kp.wf.w rfl List.length_set
   exact ⟨k1, l.trans k2⟩
  ·exact ⟨g.kp, l⟩
 ·exact ⟨h, Ln.refl a⟩
def gkB (b : Ar) (r k i : Int) : Ar :=
 let t := (rtA b r).2
 let e := findA b.ws (blkOf b.ws t).1 (blkOf b.ws t).2 (rtA b k)
 if (blkOf b.ws t).2 ≠ 0 ∧ e.2 = true then { ldA b ((blkOf b.ws t).1 + 3 + 4 * e.1) with rs := (ldA b ((blkOf b.ws t).1 + 3 + 4 * e.1)).rs.set i.toNat (ldV b ((blkOf b.ws t).1 + 3 + 4 * e.1)) }
 else { b with rs := b.rs.set i.toNat (0, 0) }
def gkP (a : Ar) (r k i : Int) : Prop := okP a ∧ ((0 ≤ r ∧ r < a.rs.length) ∧ (rtA a r).1 = 4) ∧ (0 ≤ k ∧ k < a.rs.length) ∧ (0 ≤ i ∧ i < a.rs.length) ∧ (rtA a k).1 ≠ 9
open Classical in
noncomputable def gkA (a : Ar) (r k i : Int) : Ar × Bool := if gkP a r k i then (gkB (ldA a ((rtA a r).2 + 2)) r k i, true) else (a, false)
theorem gkP.sk {a : Ar} {r k i : Int} (h : gkP a r k i) : skP a r r r := by
 obtain ⟨h0, ⟨h1, h2⟩, _⟩ := h
 exact ⟨h0, ⟨h1, h2⟩, h1, h1, by rw [h2]; decide, by rw [h2]; decide, by rw [h2]; decide⟩
theorem SkOk.ref2 {b : Ar} {r k f : Int} (S : SkOk b r k f) (hne : (blkOf b.ws (rtA b r).2).2 ≠ 0) {j : Int} (j0 : 0 ≤ j) (j1 : j < (blkOf b.ws (rtA b r).2).2) :
  valOkB (valW b.ws ((blkOf b.ws (rtA b r).2).1 + 3 + 4 * j)) = true ∧ (b.cyc = true → RefIn b (valW b.ws ((blkOf b.ws (rtA b r).2).1 + 3 + 4 * j))) ∧ 0 ≤ (blkOf b.ws (rtA b r).2).1 + 3 + 4 * j ∧ (blkOf b.ws (rtA b r).2).1 + 3 + 4 * j + 1 < b.ws.length := by
 have tb := S.tab.b
 rcases tb with ⟨e, _⟩ | ⟨_, _, hb, k3, B, sz, _⟩
 ·rw [e] at hne; exact absurd rfl hne
 have at' := S.ok.at hb
 have hs := S.ok.blk S.s hb k3
 have hx : 3 + 4 * j ∈ slotsL (kdW b.ws (blkOf b.ws (rtA b r).2).1) (szW b.ws (blkOf b.ws (rtA b r).2).1) := by
  rw [k3]
  exact (slots_3 hs.2.2 j0 (by rw [sz]; omega)).2
 have ea : (blkOf b.ws (rtA b r).2).1 + 3 + 4 * j = (blkOf b.ws (rtA b r).2).1 + (3 + 4 * j) := by omega
 rw [ea]
 have src : Src b (valW b.ws ((blkOf b.ws (rtA b r).2).1 + (3 + 4 * j))) := .inr ⟨_, _, hb, hx, rfl⟩
 obtain ⟨s1, s2⟩ := S.ok.src src
 refine ⟨s1, fun cy => ?_, by omega, by have := at'.2.2.1; omega⟩
 rcases S.ok with ⟨T1, k⟩ | ⟨T1, T2, k⟩
 ·rw [k.cy] at cy; cases cy
 ·exact ⟨T1, T2, k.c, s1, fun hr => k.c.refs (k.c.canon k.rc hb) hx hr⟩
theorem Kp.gk {a : Ar} (h : Kp a) (r k i : Int) : Kp (gkA a r k i).1 ∧ Ln a (gkA a r k i).1 := by
 unfold gkA
 split
 case isFalse => exact ⟨h, Ln.refl a⟩
 rename_i c
 have S := skOk_of h.wf c.sk
 obtain ⟨Sb, L, _⟩ := S.load
 obtain ⟨kb, lb⟩ := h.ld (i := (rtA a r).2 + 2) (fun cy => S.refIn S.ok cy)
 show Kp (gkB (ldA a ((rtA a r).2 + 2)) r k i) ∧ Ln a (gkB (ldA a ((rtA a r).2 + 2)) r k i)
 generalize ldA a ((rtA a r).2 + 2) = b at *
 unfold gkB
 dsimp only
 split
 ·rename_i e
  have tb := Sb.tab.b
  rcases tb with ⟨e0, _⟩ | ⟨_, _, hb, k3, B, sz, _⟩
  ·exact absurd (by rw [e0]) e.1
  have hz : 0 ≤ (findA b.ws (blkOf b.ws (rtA b r).2).1 (blkOf b.ws (rtA b r).2).2 (rtA b k)).1 ∧ (findA b.ws (blkOf b.ws (rtA b r).2).1 (blkOf b.ws (rtA b r).2).2 (rtA b k)).1 < (blkOf b.ws (rtA b r).2).2 := by
   have e2 := e.2
   have n1 := B.n1
   unfold findA at e2 ⊢
   split at e2
   ·cases e2
   ·rename_i c0
    rw [if_neg c0]
    exact findG_yes (by omega) _ _ (Int.emod_nonneg _ (by omega)) (Int.emod_lt_of_pos _ (by omega)) e2
  obtain ⟨_, q2, _, _⟩ := Sb.ref2 e.1 hz.1 hz.2
  obtain ⟨kc, lc⟩ := kb.ld q2
  obtain ⟨k1, k2⟩ := kc.put (ws := (ldA b ((blkOf b.ws (rtA b r).2).1 + 3 + 4 * (findA b.ws (blkOf b.ws (rtA b r).2).1 (blkOf b.ws (rtA b r).2).2 (rtA b k)).1)).ws) (rs := (ldA b ((blkOf b.ws (rtA b r).2).1 + 3 + 4 * (findA b.ws (blkOf b.ws (rtA b r).2).1 (blkOf b.ws (rtA b r).2).2 (rtA b k)).1)).rs.set i.toNat (ldV b ((blkOf b.ws (rtA b r).2).1 + 3 + 4 * (findA b.ws (blkOf b.ws (rtA b r).2).1 (blkOf b.ws (rtA b r).2).2 (rtA b k)).1))) kc.wf.w rfl List.length_set
  exact ⟨k1, lb.trans (lc.trans k2)⟩
 ·obtain ⟨k1, k2⟩ := kb.put (ws := b.ws) (rs := b.rs.set i.toNat (0, 0)) kb.wf.w rfl List.length_set
  exact ⟨k1, lb.trans k2⟩
open Classical in
noncomputable def fpA (a : Ar) : Ar × Bool := if okP a ∧ a.cyc = false then (flipA a, true) else (a, false)
theorem ok_i0 {a : Ar} (hw : a.wf) (h : okP a) (hc : a.cyc = false) : ∃ T1, I0 a T1 := by
 rcases okC_of hw h with k | ⟨T1, T2, k⟩
 ·exact k
 ·have := k.c.cy; rw [hc] at this; cases this
theorem Kp.fp {a : Ar} (h : Kp a) : Kp (fpA a).1 ∧ Ln a (fpA a).1 := by
 unfold fpA
 split
 ·rename_i c
  obtain ⟨T1, k⟩ := ok_i0 h.wf c.1 c.2
  obtain ⟨g1, g2, _⟩ := flip_gd k
  exact ⟨g1.kp, g2.ln⟩
 ·exact ⟨h, Ln.refl a⟩
open Classical in
noncomputable def csA (a : Ar) (n : Int) : Ar := if okP a then stepsA n.toNat (overA a) else a
theorem Kp.cs {a : Ar} (h : Kp a) (n : Int) : Kp (csA a n) ∧ Ln a (csA a n) := by
 unfold csA
 split
 ·rename_i c
  have g := h.gd c
  rw [g.over]
  obtain ⟨k1, k2, _⟩ := steps_gd n.toNat a g
  exact ⟨k1.kp, k2.ln⟩
 ·exact ⟨h, Ln.refl a⟩
theorem inW_tx (s : ByteArray) (p : Int) {ws : List U64} (h : ∀ x ∈ ws, inW x.v) : ∀ i : Nat, ∀ x ∈ txW s p ws i, inW x.v
 | 0 => h
 | i + 1 => inW_set (inW_tx s p h i) (uW_in _)
theorem inW_fn (cs : List Int) (p : Int) {b : Ar} (h : ∀ x ∈ b.ws, inW x.v) : ∀ i : Nat, ∀ x ∈ (fnW cs p i b).ws, inW x.v
 | 0 => h
 | i + 1 => inW_put (inW_fn cs p h i) _ _
theorem Kp.pt {a : Ar} (h : Kp a) (s : ByteArray) (i : Int) : Kp (ptA a s i).1 ∧ Ln a (ptA a s i).1 := by
 unfold ptA
 split
 ·rename_i c
  obtain ⟨g, l, _⟩ := (h.gd c.1).ask (pt_size c.2.2) (fun e => by cases e)
  unfold ptR
  split
  ·obtain ⟨k1, k2⟩ := g.kp.put (ws := txW s (askA 1 (1 + ((s.size : Int) + 7) / 8) a).2.1 (setW (askA 1 (1 + ((s.size : Int) + 7) / 8) a).1.ws ((askA 1 (1 + ((s.size : Int) + 7) / 8) a).2.1 + 1) s.size) s.size) (rs := (askA 1 (1 + ((s.size : Int) + 7) / 8) a).1.rs.set i.toNat (3, (askA 1 (1 + ((s.size : Int) + 7) / 8) a).2.1))
    (inW_tx _ _ (inW_set g.kp.wf.w ⟨by omega, by have := c.2.2; omega⟩) _) (by rw [txW_len, setW_len]) List.length_set
   exact ⟨k1, l.trans k2⟩
  ·exact ⟨g.kp, l⟩
 ·exact ⟨h, Ln.refl a⟩
theorem Kp.jt {a : Ar} (h : Kp a) (x y i : Int) : Kp (jtA a x y i).1 ∧ Ln a (jtA a x y i).1 := by
 unfold jtA
 split
 ·exact h.pt _ i
 ·exact ⟨h, Ln.refl a⟩
theorem fn_top (cs : List Int) (p : Int) (b : Ar) : ∀ i : Nat, (fnW cs p i b).top = b.top ∧ (fnW cs p i b).scan = b.scan ∧ (fnW cs p i b).cyc = b.cyc
 | 0 => ⟨rfl, rfl, rfl⟩
 | i + 1 => fn_top cs p b i
theorem Kp.nf {a : Ar} (h : Kp a) (pr : Int) (cs : List Int) (i : Int) : Kp (nfA a pr cs i).1 ∧ Ln a (nfA a pr cs i).1 := by
 unfold nfA
 split
 ·rename_i c
  obtain ⟨g, l, _⟩ := (h.gd c.1).ask (nf_size c.2.2.2.1) (fun _ => c.2.2.2.2.1)
  unfold nfR
  split
  ·generalize (askA 4 (1 + 2 * (cs.length : Int)) a).2.1 = p at *
   generalize (askA 4 (1 + 2 * (cs.length : Int)) a).1 = b at *
   obtain ⟨t1, t2, t3⟩ := fn_top cs p { b with ws := setW b.ws (p + 1) (uW pr) } cs.length
   have kb := g.kp
   have hl : (fnW cs p cs.length { b with ws := setW b.ws (p + 1) (uW pr) }).ws.length = b.ws.length := by rw [fnW_len]; exact setW_len _ _ _
   have hr : (b.rs.set i.toNat (5, p)).length = b.rs.length := List.length_set
   refine ⟨⟨⟨inW_fn _ _ (inW_set kb.wf.w (uW_in _)) _, ?_, ?_⟩, ?_, ?_, ?_⟩, ?_, ?_⟩
   ·show (fnW _ _ _ _).ws.length ≤ _
    rw [hl]; exact kb.wf.n
   ·show (b.rs.set i.toNat (5, p)).length ≤ _
    rw [hr]; exact kb.wf.r
   ·show 1 ≤ (fnW _ _ _ _).top
    rw [t1]; exact kb.t0
   ·show (fnW cs p cs.length { b with ws := setW b.ws (p + 1) (uW pr) }).top ≤ ((fnW cs p cs.length { b with ws := setW b.ws (p + 1) (uW pr) }).ws.length : Int)
    rw [t1, hl]; exact kb.t1
   ·show (0 ≤ (fnW cs p cs.length { b with ws := setW b.ws (p + 1) (uW pr) }).scan ∧ (fnW cs p cs.length { b with ws := setW b.ws (p + 1) (uW pr) }).scan + 2 ≤ (fnW cs p cs.length { b with ws := setW b.ws (p + 1) (uW pr) }).top) ∨ (fnW cs p cs.length { b with ws := setW b.ws (p + 1) (uW pr) }).cyc = false ∧ (fnW cs p cs.length { b with ws := setW b.ws (p + 1) (uW pr) }).scan = 0
    rw [t1, t2, t3]; exact kb.s
   ·show (fnW _ _ _ _).ws.length = _
    rw [hl]; exact l.1
   ·show (b.rs.set i.toNat (5, p)).length = _
    rw [hr]; exact l.2
  ·exact ⟨g.kp, l⟩
 ·exact ⟨h, Ln.refl a⟩
theorem objsF_chain {a : Ar} : ∀ (T : List Int) (p : Int) (f : Nat), Chain (szW a.ws) p a.top T → T.length < f → objsF a f p = T
 | _, _, 0, _, h => by omega
 | [], p, f + 1, h, _ => by
  have h : p = a.top := h
  unfold objsF
  rw [if_neg (by omega)]
 | q :: T, p, f + 1, ⟨h1, h2, h3, h4⟩, hl => by
  subst h1
  unfold objsF
  rw [if_pos (by omega), objsF_chain T _ f h4 (by simpa using hl)]
theorem Chain.len {szf : Int → Int} : ∀ {T : List Int} {s e : Int}, Chain szf s e T → (T.length : Int) ≤ e - s
 | [], s, e, h => by have h : s = e := h; simp; omega
 | p :: T, s, e, ⟨h1, h2, h3, h4⟩ => by have := Chain.len h4; simp only [List.length_cons]; omega
theorem objs_of {a : Ar} {T1 : List Int} (hN : NumP a) (hc : Chain (szW a.ws) (startA a a.to) a.top T1) : objsL a = T1 := by
 have hh := halves hN
 have p1 := hN.p1
 have hl := hN.sm.l
 have := hc.len
 exact objsF_chain _ _ _ hc (by omega)
theorem C0.objs {a : Ar} {T1 T2 : List Int} (h : C0 a T1 T2) : objsL a = T1 := objs_of h.N h.c1
def nO (a : Ar) : Nat := (objsL a).length
theorem over_objs (a : Ar) : objsL (overA a) = objsL a := by
 have key : ∀ b : Ar, b.ws = a.ws → b.top = a.top → ∀ (f : Nat) (p : Int), objsF b f p = objsF a f p := fun b e1 e2 f => by
  induction f with
  | zero => intro p; rfl
  | succ f ih =>
   intro p
   unfold objsF
   rw [e1, e2, ih]
 unfold overA
 split
 ·exact key { a with cyc := false, scan := 0, old := 0, cop := 0 } rfl rfl _ _
 ·rfl
theorem fwd_n {a : Ar} {T1 T2 : List Int} (h : C0 a T1 T2) {v : Vl} (hr : isRefB v = true → v.2 ∈ T1 ∨ v.2 ∈ T2) : ∃ Ta, C0 (fwdA a v).1 Ta T2 ∧ T1.length ≤ Ta.length ∧ Ta.length ≤ T1.length + 1 := by
 unfold fwdA
 by_cases c : isRefB v = true ∧ otherA a v.2 = true
 case neg => rw [if_neg c]; exact ⟨T1, h, Nat.le_refl _, by omega⟩
 rw [if_pos c]
 have h2 : v.2 ∈ T2 := by
  rcases hr c.1 with k | k
  ·have := h.other1 k
   rw [c.2] at this; cases this
  ·exact k
 by_cases f : (fwd (gw a.ws v.2)).2 = true
 ·rw [if_pos f]; exact ⟨T1, h, Nat.le_refl _, by omega⟩
 ·rw [if_neg f]
  have ok : okW (gw a.ws v.2) = true := by
   rcases h.h2 _ h2 with k | k
   ·exact k
   ·exact absurd k.1 f
  exact ⟨T1 ++ [a.top], h.fwd h2 ok, by simp, by simp⟩
theorem slots_len {k s : Int} (h : sizeB k s = true) : (slotsL k s).length ≤ 128 := by
 unfold slotsL
 rw [everyK_len]
 unfold sizeB at h
 unfold numK fromK
 repeat' split at h
 all_goals first | (cases h; done) | simp only [decide_eq_true_eq] at h
 all_goals subst_vars
 all_goals repeat' split
 all_goals omega
theorem over_n (a : Ar) : nO (overA a) = nO a := by unfold nO; rw [over_objs]
theorem flR_n {T2 : List Int} : ∀ (d i : Nat) (a : Ar) (T1 : List Int), i + d = a.rs.length → FlI a T1 T2 i → ∃ Ta, C0 (flR d i a) Ta T2 ∧ Ta.length ≤ T1.length + d
 | 0, i, a, T1, hi, h => ⟨T1, h.c, by omega⟩
 | d + 1, i, a, T1, hi, h => by
  have hlt : i < a.rs.length := by omega
  obtain ⟨v1, v2⟩ := h.r i hlt
  obtain ⟨Ta, f1, f2, f3⟩ := fwd_n h.c (v := a.rs[i]) fun hr => (v2 hr).2
  have hs : ∃ Tc, FlI (flR 1 i a) Tc T2 (i + 1) := by
   have eg : a.rs.getD i (0, 0) = a.rs[i] := by rw [List.getD_eq_getElem?_getD, List.getElem?_eq_getElem hlt]; rfl
   obtain ⟨Tc, F⟩ := fwd_ok h.c v1 fun hr => (v2 hr).2
   refine ⟨Tc, ?_⟩
   show FlI { (fwdA a (a.rs.getD i (0, 0))).1 with rs := (fwdA a (a.rs.getD i (0, 0))).1.rs.set i (fwdA a (a.rs.getD i (0, 0))).2 } Tc T2 (i + 1)
   rw [eg]
   generalize fwdA a a.rs[i] = fr at F ⊢
   obtain ⟨b, w⟩ := fr
   have F : FwdOk a T1 T2 a.rs[i] b w Tc := F
   have hrs : b.rs = a.rs := F.f.rs
   have hl : (b.rs.set i w).length = b.rs.length := by rw [List.length_set]
   refine ⟨F.c.put_rs hl, ?_, fun j hj => ?_⟩
   ·show b.scan = startA b b.to
    rw [F.f.scan, h.s, F.f.start, F.f.to]
   ·have hj : j < (b.rs.set i w).length := hj
    show valOkB (b.rs.set i w)[j] = true ∧ (isRefB (b.rs.set i w)[j] = true → (j < i + 1 → (b.rs.set i w)[j].2 ∈ Tc) ∧ ((b.rs.set i w)[j].2 ∈ Tc ∨ (b.rs.set i w)[j].2 ∈ T2))
    rw [List.getElem_set]
    by_cases e : i = j
    ·rw [if_pos e]
     exact ⟨F.ok, fun hr => ⟨fun _ => F.r hr, .inl (F.r hr)⟩⟩
    ·rw [if_neg e]
     have hja : j < a.rs.length := by rw [hl, hrs] at hj; exact hj
     have ej : b.rs[j]'(by rw [hrs]; exact hja) = a.rs[j] := by simp only [hrs]
     rw [ej]
     obtain ⟨w1, w2⟩ := h.r j hja
     exact ⟨w1, fun hr => ⟨fun hjl => F.sub _ ((w2 hr).1 (by omega)), (w2 hr).2.imp (F.sub _) id⟩⟩
  obtain ⟨Tc, hs⟩ := hs
  have eg : a.rs.getD i (0, 0) = a.rs[i] := by rw [List.getD_eq_getElem?_getD, List.getElem?_eq_getElem hlt]; rfl
  have hb : flR (d + 1) i a = flR d (i + 1) (flR 1 i a) := rfl
  have hrl : (flR 1 i a).rs.length = a.rs.length := by
   show ((fwdA a (a.rs.getD i (0, 0))).1.rs.set i (fwdA a (a.rs.getD i (0, 0))).2).length = _
   rw [List.length_set, eg]
   obtain ⟨Td, F⟩ := fwd_ok h.c v1 fun hr => (v2 hr).2
   rw [F.f.rs]
  rw [hb]
  obtain ⟨Te, k1, k2⟩ := flR_n d (i + 1) (flR 1 i a) Tc (by omega) hs
  have ec : Tc.length ≤ T1.length + 1 := by
   have e1 : objsL (flR 1 i a) = Tc := hs.c.objs
   have e2 : objsL (flR 1 i a) = Ta := by
    have : C0 (flR 1 i a) Ta T2 := by
     show C0 { (fwdA a (a.rs.getD i (0, 0))).1 with rs := (fwdA a (a.rs.getD i (0, 0))).1.rs.set i (fwdA a (a.rs.getD i (0, 0))).2 } Ta T2
     rw [eg]
     exact f1.put_rs List.length_set
    exact this.objs
   rw [← e1, e2]
   exact f3
  exact ⟨Te, k1, by omega⟩
theorem flip_n {a : Ar} {T1 : List Int} (h : I0 a T1) : nO (flipA a) ≤ a.rs.length := by
 have c := flip0_ok h
 have hI : FlI (flip0 a) [] T1 0 := ⟨c, rfl, fun j hj => by
  have := h.r a.rs[j] (List.getElem_mem hj)
  exact ⟨this.1, fun hr => ⟨fun e => by omega, .inr (this.2 hr)⟩⟩⟩
 obtain ⟨Ta, k1, k2⟩ := flR_n a.rs.length 0 (flip0 a) [] (by show 0 + _ = a.rs.length; omega) hI
 unfold flipA
 rw [over_n]
 unfold nO
 rw [k1.objs]
 simpa using k2
def sumL (ws : List U64) : List Int → Int
 | [] => 0
 | p :: L => szW ws p + 1 + sumL ws L
theorem sumL_app (ws : List U64) : ∀ L M : List Int, sumL ws (L ++ M) = sumL ws L + sumL ws M
 | [], M => by show sumL ws M = 0 + _; omega
 | p :: L, M => by
  show szW ws p + 1 + sumL ws (L ++ M) = szW ws p + 1 + sumL ws L + sumL ws M
  rw [sumL_app ws L M]; omega
theorem sumL_perm (ws : List U64) {L M : List Int} (h : L.Perm M) : sumL ws L = sumL ws M := by
 induction h with
 | nil => rfl
 | cons x _ ih => unfold sumL; rw [ih]
 | swap x y l => unfold sumL; unfold sumL; omega
 | trans _ _ h1 h2 => exact h1.trans h2
def RL (a : Ar) (L : List Int) : Prop := L.Nodup ∧ ∀ q, q ∈ L ↔ Reach a q
theorem RL.perm {a : Ar} {L M : List Int} (h : RL a L) (g : RL a M) : L.Perm M := (List.perm_ext_iff_of_nodup h.1 g.1).2 fun q => (h.2 q).trans (g.2 q).symm
open Classical in
noncomputable def reS (a : Ar) : Int := if h : ∃ L, RL a L then sumL a.ws h.choose else 0
theorem re_eq {a : Ar} {L : List Int} (h : RL a L) : reS a = sumL a.ws L := by
 have hx : ∃ L, RL a L := ⟨L, h⟩
 unfold reS
 rw [dif_pos hx]
 exact sumL_perm _ (hx.choose_spec.perm h)
theorem rl_of {a : Ar} (h : OkC a) : ∃ L, RL a L := by
 classical
 refine ⟨((List.range a.ws.length).map fun (j : Nat) => (j : Int)).filter fun q => decide (Reach a q), ?_, fun q => ?_⟩
 ·refine List.Pairwise.filter _ ?_
  exact List.Pairwise.map (R := fun a b => a ≠ b) _ (fun x y hxy e => hxy (Int.ofNat.inj e)) List.nodup_range
 ·rw [List.mem_filter, List.mem_map]
  constructor
  ·exact fun k => by simpa using k.2
  ·intro hq
   have := h.at hq
   exact ⟨⟨q.toNat, by rw [List.mem_range]; omega, by omega⟩, by simpa using hq⟩
theorem sumL_map {a b : Ar} {f : Int → Int} (S : SmF a b f) : ∀ L : List Int, (∀ q ∈ L, Reach a q) → sumL b.ws (L.map f) = sumL a.ws L
 | [], _ => rfl
 | p :: L, h => by
  show szW b.ws (f p) + 1 + sumL b.ws (L.map f) = szW a.ws p + 1 + sumL a.ws L
  rw [sumL_map S L fun q hq => h q (by simp [hq]), sz_c (S.o p (h p (by simp))).hd]
theorem RL.sm {a b : Ar} {f : Int → Int} (S : SmF a b f) {L : List Int} (h : RL a L) : RL b (L.map f) := by
 refine ⟨?_, fun q => ?_⟩
 ·have h1 := h.1
  have h2 : ∀ q ∈ L, Reach a q := fun q hq => (h.2 q).1 hq
  clear h
  induction L with
  | nil => exact List.nodup_nil
  | cons p L ih =>
   obtain ⟨n1, n2⟩ := List.nodup_cons.1 h1
   rw [List.map_cons, List.nodup_cons]
   refine ⟨fun hm => ?_, ih n2 fun q hq => h2 q (by simp [hq])⟩
   obtain ⟨q, hq, e⟩ := List.mem_map.1 hm
   have := S.i q p (h2 q (by simp [hq])) (h2 p (by simp)) e
   exact n1 (this ▸ hq)
 ·rw [List.mem_map]
  constructor
  ·rintro ⟨p, hp, rfl⟩
   exact S.reach ((h.2 p).1 hp)
  ·intro hq
   obtain ⟨p, hp, e⟩ := S.back hq
   exact ⟨p, (h.2 p).2 hp, e⟩
theorem re_sm {a b : Ar} (h : OkC a) (S : Sm a b) : reS b = reS a := by
 obtain ⟨L, hL⟩ := rl_of h
 obtain ⟨f, S⟩ := S
 rw [re_eq (hL.sm S), re_eq hL]
 exact sumL_map S L fun q hq => (hL.2 q).1 hq
end Go.Proofs.YtpkehednooilhaaGreat.Abs
