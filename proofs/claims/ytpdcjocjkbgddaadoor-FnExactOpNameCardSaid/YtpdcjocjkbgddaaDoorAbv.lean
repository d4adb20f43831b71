/- The abstract run of code and of whole functions, and its soundness: a function whose abstract run shows a specification meets it. No condition. -/
import Derived.Test.YtpdcjocjkbgddaaDoorAbu
namespace Go.Proofs.YtpdcjocjkbgddaaDoor.Abs
open Go.RowKit

abbrev Post := Exit → TT → Mem → Prop
def seqK (next : TT → Mem → Prop) (Q : Post) : Post := fun e T m =>
  match e with
  | .normal => next T m
  | e => Q e T m
def blockK (id : Nat) (Q : Post) : Post := fun e T m =>
  match e with
  | .exit i => match i == id with
    | true => Q .normal T m
    | false => Q (.exit i) T m
  | e => Q e T m
/-- n rounds at most; at the head of each only the slots 'keep' are known, and of memory as much as one likes. -/
def WL (keep : List Nat) (B : Post → TT → Mem → Prop) : Nat → Post → TT → Mem → Prop
  | 0, _, _, _ => False
  | n + 1, Q, T, m => ∃ m1 : Mem, Mem.le m1 m ∧ B (seqK (fun T' m' => WL keep B n Q (TT.keep keep 0 T') m') Q) T m1
/-- The number of the first region: a loop's name. -/
def firstReg : Code → Option Nat
  | .region id _ _ => some id
  | .seq a b => match firstReg a with
    | some i => some i
    | none => firstReg b
  | .cond _ a b => match firstReg a with
    | some i => some i
    | none => firstReg b
  | .block _ a => firstReg a
  | .loop a => firstReg a
  | _ => none
/-- Where ways meet, only some slots stay known, if one likes. -/
def jkeep (kp : Option Nat → List Nat) (b : Code) (T : TT) : TT :=
  match kp ((firstReg b).map (· + 1000000)) with
  | [] => T
  | k :: ks => TT.keep (k :: ks) 0 T
theorem jkeep_knows {kp : Option Nat → List Nat} {b : Code} {T : TT} {a : Act} (kn : Knows T a) : Knows (jkeep kp b T) a := by
  unfold jkeep
  split
  · exact kn
  · exact kn.keep _
/-- In each branch the test's outcome is known. -/
def setB (T : TT) (c : Operand) (b : Bool) : TT :=
  match c with
  | .tmp t => T.set t (some (.bool b))
  | _ => T
theorem setB_knows {T : TT} {a : Act} (kn : Knows T a) {c : Operand} {b : Bool} (h : evalT T c = some (.bool b)) : Knows (setB T c b) a := by
  unfold setB
  split
  · rename_i t
    simp only [evalT] at h
    refine kn.same (kn.slot t _ ?_)
    cases e : T[t]? with
    | none => rw [e] at h; cases h
    | some y => rw [e] at h; cases y <;> first | (cases h; done) | (simp at h; subst h; rfl)
  · exact kn
/-- kp: the slots that stay known at the head of each loop. -/
def W (P : Program) (call : FuncId → Spec) (kp : Option Nat → List Nat) : Code → Post → TT → Mem → Prop
  | .skip, Q, T, m => Q .normal T m
  | .label _, Q, T, m => Q .normal T m
  | .seq a b, Q, T, m => W P call kp a (seqK (fun T m => W P call kp b Q (jkeep kp b T) m) Q) T m
  | .cond c a b, Q, T, m => match evalT T c with
    | some (.bool t) => if t = true then W P call kp a Q (setB T c true) m else W P call kp b Q (setB T c false) m
    | _ => False
  | .block id a, Q, T, m => W P call kp a (blockK id Q) T m
  | .loop a, Q, T, m => ∃ n : Nat, WL (kp (firstReg a)) (fun Q T m => W P call kp a Q T m) n Q (TT.keep (kp (firstReg a)) 0 T) m
  | .exit id, Q, T, m => Q (.exit id) T m
  | .ret, Q, T, m => Q .ret T m
  | .goto l, Q, T, m => Q (.goto l) T m
  | .region _ ops draw, Q, T, m => match draw with
    | false => opsA P call ops (fun T m => Q .normal T m) ops.toList T m
    | true => match Region.noSelect ops with
      | true => ∃ S : Mem → Prop, S m ∧ regA P call ops S (fun T m => Q .normal T m) ops.size (Array.replicate ops.size false) T m
      | false => False
  | .scope _, _, _, _ => False
  | .rangeFunc _ _ _ _, _, _, _ => False
  | .refuse _, _, _, _ => False

section
variable {P : Program} {call : FuncId → Spec} {kp : Option Nat → List Nat} {D : Nat → Prop} {w0 : World}
def Hat (D : Nat → Prop) (w0 : World) (Q : Post) : Exit → Act → World → Prop := fun e a w =>
  match e with
  | .panic _ | .outgrown => False
  | e => ∃ T m, Q e T m ∧ Knows T a ∧ Rel D w0 m w

theorem wp_loop_n {c : Code} {Q : Exit → Act → World → Prop} (I : Nat → Act → World → Prop) (h0 : ∀ a w, ¬ I 0 a w)
    (round : ∀ n a w, I (n + 1) a w → c.wp P (Exit.then (I n) Q) a w) : ∀ n a w, I n a w → (Code.loop c).wp P Q a w := by
  intro n a w hI b k cs
  have key : ∀ n a w, I n a w →
      ∃ e a' w', Q e a' w' ∧ Arrives P (lone (b.at a (.code c :: .inLoop c :: k)) cs w) b k cs e a' w' := by
    intro n
    induction n with
    | zero => intro a w h; exact absurd h (h0 a w)
    | succ n ih =>
      intro a w hI
      obtain ⟨e, a₁, w₁, hq, harr⟩ := round n a w hI b (.inLoop c :: k) cs
      cases e with
      | normal =>
        obtain ⟨e₂, a₂, w₂, hq₂, harr₂⟩ := ih a₁ w₁ hq
        exact ⟨e₂, a₂, w₂, hq₂, .of_steps (Steps.trans harr (.one step_inLoop)) harr₂⟩
      | exit id => exact ⟨_, a₁, w₁, hq, .pass (x := .inLoop c) rfl (fun _ _ => .inl (by simp)) harr⟩
      | goto l => exact ⟨_, a₁, w₁, hq, .pass (x := .inLoop c) rfl (fun _ _ => .inl (by simp)) harr⟩
      | ret => exact ⟨_, a₁, w₁, hq, .pass (x := .inLoop c) rfl (fun _ _ => .inl (by simp)) harr⟩
      | panic ch => exact ⟨_, a₁, w₁, hq, .pass (x := .inLoop c) rfl (fun _ _ => .inl (by simp)) harr⟩
      | outgrown => exact ⟨_, a₁, w₁, hq, .pass (x := .inLoop c) rfl (fun _ _ => .inl (by simp)) harr⟩
  obtain ⟨e, a', w', hq, harr⟩ := key n a w hI
  exact ⟨e, a', w', hq, .of_steps (.one step_loop) harr⟩

theorem W_sound (hm : P.follows .mixedOrders = true) (hc : ∀ f, Meets P f (call f)) : ∀ (c : Code) (Q : Post) (T : TT) (m : Mem) (a : Act) (w : World),
    W P call kp c Q T m → Knows T a → Rel D w0 m w → c.wp P (Hat D w0 Q) a w := by
  intro c
  induction c with
  | skip => intro Q T m a w h kn hr; exact wp_skip ⟨T, m, h, kn, hr⟩
  | label l => intro Q T m a w h kn hr; exact wp_label ⟨T, m, h, kn, hr⟩
  | exit id => intro Q T m a w h kn hr; exact wp_exit ⟨T, m, h, kn, hr⟩
  | ret => intro Q T m a w h kn hr; exact wp_ret ⟨T, m, h, kn, hr⟩
  | goto l => intro Q T m a w h kn hr; exact wp_goto ⟨T, m, h, kn, hr⟩
  | seq x y ihx ihy =>
    intro Q T m a w h kn hr
    refine wp_seq (wp_mono (ihx _ T m a w h kn hr) fun e a w he => ?_)
    cases e with
    | normal => obtain ⟨T', m', h1, h2, h3⟩ := he; exact ihy Q _ m' a w h1 (jkeep_knows h2) h3
    | _ => exact he
  | cond c x y ihx ihy =>
    intro Q T m a w h kn hr
    simp only [W] at h
    split at h
    · rename_i t ht
      have hc : a.eval c = .bool t := by rw [kn.eval (by rw [ht]; rfl)]; unfold ev; rw [ht]; rfl
      refine wp_cond hc ?_
      cases t with
      | true => exact ihx Q _ m a w (by simpa using h) (setB_knows kn ht) hr
      | false => exact ihy Q _ m a w (by simpa using h) (setB_knows kn ht) hr
    · exact h.elim
  | block id x ih =>
    intro Q T m a w h kn hr
    refine wp_block (wp_mono (ih _ T m a w h kn hr) fun e a w he => ?_)
    cases e with
    | exit i =>
      obtain ⟨T', m', h1, h2, h3⟩ := he
      simp only [blockK] at h1
      by_cases hi : i = id
      · rw [beq_iff_eq.2 hi] at h1
        simp only [Exit.inBlock, hi, if_true]
        exact ⟨T', m', h1, h2, h3⟩
      · rw [beq_eq_false_iff_ne.2 hi] at h1
        simp only [Exit.inBlock, hi, if_false]
        exact ⟨T', m', h1, h2, h3⟩
    | _ => exact he
  | loop x ih =>
    intro Q T m a w h kn hr
    obtain ⟨n, h⟩ := h
    generalize kp (firstReg x) = keep at h
    refine wp_loop_n (fun n a w => ∃ T m, WL keep (fun Q T m => W P call kp x Q T m) n Q T m ∧ Knows T a ∧ Rel D w0 m w) (fun a w h => by obtain ⟨T, m, h, _⟩ := h; exact h) ?_ n a w ⟨_, m, h, kn.keep keep, hr⟩
    intro n a w h
    obtain ⟨T, m, ⟨m1, hle, h⟩, kn, hr⟩ := h
    refine wp_mono (ih _ _ _ a w h kn (hr.weaken hle)) fun e a w he => ?_
    cases e with
    | normal => obtain ⟨T', m', h1, h2, h3⟩ := he; exact ⟨_, m', h1, h2.keep keep, h3⟩
    | _ => exact he
  | region id ops draw =>
    intro Q T m a w h kn hr
    cases draw with
    | false =>
      refine wp_region ?_
      rw [List.range_eq_range']
      have := opsA_sound hc (Q := Hat D w0 Q) (fun T m a w h kn hr => ⟨T, m, h, kn, hr⟩) ops.toList 0 T m a w (by simp) h kn hr
      simpa using this
    | true =>
      simp only [W] at h
      cases hs : Region.noSelect ops with
      | false => rw [hs] at h; exact h.elim
      | true =>
        rw [hs] at h
        obtain ⟨S, hS, h⟩ := h
        refine wp_region_any hm (wpAny_of_V _ _ _ _ (regA_sound hc hs (Q := Hat D w0 Q) (fun c a w h => h) (fun T m a w h kn hr => ⟨T, m, h, kn, hr⟩) _ _ T m a _ (closed_none _) h kn (hr.drew _) hS))
  | scope x ih => intro Q T m a w h; exact h.elim
  | rangeFunc f ps x y ihx ihy => intro Q T m a w h; exact h.elim
  | refuse s => intro Q T m a w h; exact h.elim
end

/-! ### Functions -/
/-- The results: slots, or what stands in cells that a slot leads to. -/
def resA (P : Program) (T : TT) (m : Mem) (K : List Value → Prop) : List ResultVar → List Value → Prop
  | [], acc => K acc
  | .tmp t :: r, acc => match (T[t]?).join with
    | some v => resA P T m K r (acc ++ [v])
    | none => False
  | .cell a t :: r, acc => match (T[a]?).join with
    | some p => ldOp P (fun ad u => m.cell? ad = some u) t p fun v => resA P T m K r (acc ++ [v])
    | none => False
def resOf : List Value → Value
  | [v] => v
  | vs => .tuple vs.toArray
def ret (Q : Value → Mem → Prop) (v : Value) (m : Mem) : Prop := ∃ m1 : Mem, Mem.le m1 m ∧ Q v m1
def retK (P : Program) (fn : Func) (Q : Value → Mem → Prop) : Post := fun e T m =>
  match e with
  | .normal | .ret => resA P T m (fun vs => ret Q (resOf vs) m) fn.results.toList []
  | _ => False
def FA (P : Program) (call : FuncId → Spec) (kp : Option Nat → List Nat) (fn : Func) : Spec := fun args m Q =>
  match fn.body with
  | some c => W P call kp c (retK P fn Q) (args.map some ++ List.replicate (fn.ntmps - args.length) (some undef)) m
  | none => False

section
variable {P : Program} {call : FuncId → Spec}
theorem slot_known {T : TT} {a : Act} (kn : Knows T a) {t : Nat} {v : Value} (hv : (T[t]?).join = some v) : a.tmps.getD t undef = v := by
  have : a.tmps[t]? = some v := by
    apply kn.slot
    cases e : T[t]? with
    | none => rw [e] at hv; cases hv
    | some y => rw [e] at hv; cases y <;> first | (cases hv; done) | (simp at hv; subst hv; rfl)
  simp [this]
theorem resA_run {D : Nat → Prop} {w0 w : World} {T : TT} {m : Mem} {a : Act} (kn : Knows T a) (hr : Rel D w0 m w) {K : List Value → Prop} : ∀ (rs : List ResultVar) (acc : List Value), resA P T m K rs acc →
    ∃ vs, K (acc ++ vs) ∧ (rs.mapM (m := Sem) fun
      | .tmp t => pure (a.tmps.getD t undef)
      | .cell b t => do loadVar t (← asAddr (a.tmps.getD b undef))).run P w = .ok vs w
  | [], acc, h => ⟨[], by simpa [resA] using h, rfl⟩
  | .cell b t :: r, acc, h => by
    simp only [resA] at h
    split at h
    · rename_i p hp
      obtain ⟨v, hv, hrun⟩ := ldOp_out P h
      obtain ⟨vs, hk, ih⟩ := resA_run kn hr r _ hv
      refine ⟨v :: vs, by simpa using hk, ?_⟩
      have h1 := hrun w (fun ad u e => hr.cell e)
      have h2 : (do loadVar t (← asAddr p) : Sem Value).run P w = .ok v w := by
        cases p with
        | pointer o =>
          cases o with
          | some ad => exact h1
          | none => cases h1
        | _ => cases h1
      rw [List.mapM_cons]
      simp only [slot_known kn hp]
      show (Sem.bind _ _).run P w = _
      rw [run_bind P _ _ h2]
      show (Sem.bind _ _).run P w = _
      rw [run_bind P _ _ ih]
      rfl
    · exact h.elim
  | .tmp t :: r, acc, h => by
    simp only [resA] at h
    split at h
    · rename_i v hv
      obtain ⟨vs, hk, ih⟩ := resA_run kn hr r _ h
      refine ⟨v :: vs, by simpa using hk, ?_⟩
      rw [List.mapM_cons]
      simp only [slot_known kn hv]
      show ((pure v : Sem Value).bind _).run P w = _
      rw [run_bind P _ _ (show (pure v : Sem Value).run P w = .ok v w from rfl)]
      show (Sem.bind _ _).run P w = _
      rw [run_bind P _ _ ih]
      rfl
    · exact h.elim
theorem results_run {D : Nat → Prop} {w0 w : World} {fn : Func} {T : TT} {m : Mem} {a : Act} (kn : Knows T a) (hr : Rel D w0 m w) {K : List Value → Prop} (h : resA P T m K fn.results.toList []) :
    ∃ vs, K vs ∧ (results fn a.tmps).run P w = .ok (resOf vs) w := by
  obtain ⟨vs, hk, h1⟩ := resA_run kn hr _ _ h
  refine ⟨vs, by simpa using hk, ?_⟩
  unfold results
  have h2 : (fn.results.mapM (m := Sem) fun
      | .tmp t => pure (a.tmps.getD t undef)
      | .cell b t => do loadVar t (← asAddr (a.tmps.getD b undef))).run P w = .ok vs.toArray w := by
    have e : fn.results = fn.results.toList.toArray := by simp
    rw [e, List.mapM_toArray]
    show (Sem.bind _ _).run P w = _
    rw [run_bind P _ _ h1]
    rfl
  refine Eq.trans (run_bind P _ (fun vs : Array Value => (pure (if h : vs.size = 1 then vs[0] else .tuple vs) : Sem Value)) h2) ?_
  show Result.ok _ w = _
  congr 1
  match vs with
  | [] => rfl
  | [v] => rfl
  | v :: u :: r => simp [resOf]

theorem meets_of (hm : P.follows .mixedOrders = true) (hc : ∀ f, Meets P f (call f)) (kp : Option Nat → List Nat) {f : FuncId} {fn : Func} {s : Spec} (hf : P.funcs[f]? = some fn) (hn : (fn.name == "runtime.NumGoroutine") = false)
    (h : ∀ args m Q, s args m Q → FA P call kp fn args m Q) : Meets P f s := by
  intro args m Q hq
  have h := h args m Q hq
  unfold FA at h
  cases hb : fn.body with
  | none => rw [hb] at h; exact h.elim
  | some c =>
    rw [hb] at h
    refine ⟨⟨fn, hf, hn, by rw [hb]; rfl⟩, fun w hw => ?_⟩
    refine calls_of_wp hf hb ?_
    have kn : Knows (args.map some ++ List.replicate (fn.ntmps - args.length) (some undef)) { tmps := args.toArray ++ Array.replicate (fn.ntmps - args.toArray.size) undef, defers := [] } := by
      refine ⟨by simp, rfl, fun i v e => ?_⟩
      rw [List.getElem?_append] at e
      rw [Array.getElem?_append]
      by_cases hi : i < args.length
      · simp only [List.length_map, hi, if_true, List.getElem?_map] at e
        simp only [List.size_toArray, hi, if_true, List.getElem?_toArray]
        cases ha : args[i]? with
        | none => rw [ha] at e; cases e
        | some x => rw [ha] at e; simpa using e
      · simp only [List.length_map, hi, if_false, List.getElem?_replicate] at e
        simp only [List.size_toArray, hi, if_false, Array.getElem?_replicate]
        split at e
        · rename_i hlt
          rw [if_pos hlt]
          simpa using e
        · cases e
    refine wp_mono (W_sound hm hc c _ _ m _ w h kn (Rel.start hw)) fun e a w' he => ?_
    have fin : ∀ T m', resA P T m' (fun vs => ret Q (resOf vs) m') fn.results.toList [] → Knows T a → Rel (fun b => m b = none) w m' w' → a.defers = [] ∧ ∃ v, (results fn a.tmps).run P w' = .ok v w' ∧ ∃ v1 m', Ending.returned v = .returned v1 ∧ Q v1 m' ∧ Rel (fun b => m b = none) w m' w' := by
      intro T m' hq kn' hr'
      obtain ⟨vs, ⟨m1, hle, hq⟩, hrun⟩ := results_run (P := P) kn' hr' hq
      exact ⟨kn'.defers, _, hrun, _, m1, rfl, hq, hr'.weaken hle⟩
    cases e with
    | normal => obtain ⟨T, m', h1, h2, h3⟩ := he; exact fin T m' h1 h2 h3
    | ret => obtain ⟨T, m', h1, h2, h3⟩ := he; exact fin T m' h1 h2 h3
    | exit i => obtain ⟨T, m', h1, _⟩ := he; exact h1.elim
    | goto i => obtain ⟨T, m', h1, _⟩ := he; exact h1.elim
    | panic c => exact he.elim
    | outgrown => exact he.elim
end

/-! ### Words of the printed equations -/
def codeOf (f : Func) : Code := f.body.getD .skip
def sub : List Nat → Code → Code
  | [], c => c
  | i :: p, .seq a b => match i with
    | 0 => sub p a
    | _ => sub p b
  | i :: p, .cond _ a b => match i with
    | 1 => sub p a
    | _ => sub p b
  | _ :: p, .block _ a => sub p a
  | _ :: p, .loop a => sub p a
  | _, _ => .skip
end Go.Proofs.YtpdcjocjkbgddaaDoor.Abs
