/- The frame by live slots, and rules for code and for operations that only compute; no program in sight. -/
import Derived.WalkKit
import Derived.ProofKit
namespace Go.E
open Go
abbrev Env := List (Nat × Value)
def gt : Env → Nat → Option Value
  | [], _ => none
  | (k, v) :: L, t => bif Nat.beq k t then some v else gt L t
def ev (L : Env) : Operand → Option Value
  | .tmp t => gt L t
  | .const v => some v
  | .global g => some (.pointer (some ⟨g, 0, none⟩))
  | .func f => some (.func (.func f) #[] #[])
def evl (L : Env) : List Operand → Option (List Value)
  | [] => some []
  | x :: xs => match ev L x, evl L xs with
    | some v, some vs => some (v :: vs)
    | _, _ => none
/-- The size of a frame, and what it has deferred. -/
structure Sz where
  n : Nat
  d : List Deferred
structure Fr (n : Sz) (a : Act) (L : Env) : Prop where
  size : a.tmps.size = n.n
  defers : a.defers = n.d
  get : ∀ t v, gt L t = some v → a.tmps[t]? = some v
theorem gt_cons {k t : Nat} {v : Value} {L : Env} : gt ((k, v) :: L) t = if k = t then some v else gt L t := by
  show (bif Nat.beq k t then some v else gt L t) = _
  by_cases h : k = t
  · subst h; simp
  · have : Nat.beq k t = false := by
      cases hb : Nat.beq k t with
      | true => exact absurd (Nat.eq_of_beq_eq_true hb) h
      | false => rfl
    rw [this, if_neg h]; rfl
theorem Fr.eval {n : Sz} {a : Act} {L : Env} (h : Fr n a L) {x : Operand} {v : Value} (hx : ev L x = some v) : a.eval x = v := by
  cases x with
  | tmp t => simp only [ev] at hx; have := h.get t v hx; simp [Act.eval, Array.getD_eq_getD_getElem?, this]
  | const u => simp only [ev, Option.some.injEq] at hx; simpa [Act.eval] using hx
  | func f => simp only [ev, Option.some.injEq] at hx; simpa [Act.eval] using hx
  | _ => simp only [ev, Option.some.injEq] at hx; simpa [Act.eval] using hx
theorem Fr.put {n : Sz} {a : Act} {L : Env} (h : Fr n a L) {d : Nat} {v : Value} (hd : Nat.blt d n.n = true) : Fr n (a.put (some d) v) ((d, v) :: L) := by
  have hd' : d < n.n := by simpa [Nat.blt_eq] using hd
  refine ⟨by simp [Act.put, h.size], by simp [Act.put, h.defers], fun t u ht => ?_⟩
  rw [gt_cons] at ht
  by_cases e : d = t
  · subst e
    rw [if_pos rfl] at ht
    cases ht
    simp [Act.put, h.size, hd']
  · rw [if_neg e] at ht
    have := h.get t u ht
    simp only [Act.put]
    rw [Array.getElem?_setIfInBounds_ne e]
    exact this
def Sub (L' L : Env) : Prop := ∀ t v, gt L' t = some v → gt L t = some v
theorem Sub.refl (L : Env) : Sub L L := fun _ _ h => h
theorem Sub.nil (L : Env) : Sub [] L := fun _ _ h => by cases h
theorem Sub.cons {t : Nat} {v : Value} {L' L : Env} (hg : gt L t = some v) (h : Sub L' L) : Sub ((t, v) :: L') L := fun t' u hu => by
  rw [gt_cons] at hu
  by_cases e : t = t'
  · subst e; rw [if_pos rfl] at hu; cases hu; exact hg
  · rw [if_neg e] at hu; exact h t' u hu
theorem Sub.int {t : Nat} {k : IntKind} {x y : Int} {L' L : Env} (hg : gt L t = some (.int k x)) (he : x = y) (h : Sub L' L) : Sub ((t, .int k y) :: L') L := .cons (he ▸ hg) h
theorem Fr.sub {n : Sz} {a : Act} {L L' : Env} (h : Fr n a L) (hs : Sub L' L) : Fr n a L' := ⟨h.size, h.defers, fun t v ht => h.get t v (hs t v ht)⟩
/-- Code, from every frame that has these slots. -/
def W (P : Program) (n : Sz) (c : Code) (Q : Exit → Act → World → Prop) (L : Env) (w : World) : Prop := ∀ a, Fr n a L → c.wp P Q a w
/-- A list of operations. -/
def S (P : Program) (n : Sz) (ops : Array Oper) (Q : Exit → Act → World → Prop) (l : List Oper) (L : Env) (w : World) : Prop := ∀ a, Fr n a L → wpList P ops Q l a w
/-- A post at an exit. -/
def At (n : Sz) (Q : Exit → Act → World → Prop) (e : Exit) (L : Env) (w : World) : Prop := ∀ a, Fr n a L → Q e a w
def seqQ (P : Program) (y : Code) (Q : Exit → Act → World → Prop) : Exit → Act → World → Prop := Exit.then (y.wp P Q) Q
def cutQ {σ : Type} (n : Sz) (I : σ → Env) (R : σ → World → Prop) (Q : Exit → Act → World → Prop) : Exit → Act → World → Prop :=
  Exit.then (fun a w => ∃ s, Fr n a (I s) ∧ R s w) Q
def loopQ {σ : Type} (n : Sz) (I : σ → Env) (R : σ → World → Prop) (μ : σ → Nat) (x : σ) (Q : Exit → Act → World → Prop) : Exit → Act → World → Prop :=
  Exit.then (fun a w => ∃ s, Fr n a (I s) ∧ R s w ∧ μ s < μ x) Q
section
variable {P : Program} {n : Sz} {Q : Exit → Act → World → Prop} {L : Env} {w : World} {x y c : Code}
theorem W.sub {L' : Env} (h : W P n c Q L' w) (hs : Sub L' L) : W P n c Q L w := fun a fr => h a (fr.sub hs)
theorem S.sub {ops : Array Oper} {l : List Oper} {L' : Env} (h : S P n ops Q l L' w) (hs : Sub L' L) : S P n ops Q l L w := fun a fr => h a (fr.sub hs)
theorem W_seq (h : W P n x (seqQ P y Q) L w) : W P n (.seq x y) Q L w := fun a fr => wp_seq (h a fr)
theorem W_skip (h : At n Q .normal L w) : W P n .skip Q L w := fun a fr => wp_skip (h a fr)
theorem W_ret (h : At n Q .ret L w) : W P n .ret Q L w := fun a fr => wp_ret (h a fr)
theorem W_exit {id : Nat} (h : At n Q (.exit id) L w) : W P n (.exit id) Q L w := fun a fr => wp_exit (h a fr)
theorem W_block {id : Nat} (h : W P n c (Exit.inBlock id Q) L w) : W P n (.block id c) Q L w := fun a fr => wp_block (h a fr)
theorem W_region {id : Nat} {l : List Oper} (h : S P n l.toArray Q l L w) : W P n (.region id l.toArray false) Q L w := fun a fr => wp_region_lit (h a fr)
theorem W_seqr {id : Nat} {l : List Oper} (h : S P n l.toArray (seqQ P y Q) l L w) : W P n (.seq (.region id l.toArray false) y) Q L w := W_seq (W_region h)
theorem W_cond {t : Operand} {b : Bool} (hc : ev L t = some (.bool b)) (ht : b = true → W P n x Q L w) (hf : b = false → W P n y Q L w) : W P n (.cond t x y) Q L w :=
  fun a fr => wp_cond_split (fr.eval hc) (fun e => ht e a fr) (fun e => hf e a fr)
theorem W_if {t : Operand} {p : Prop} [Decidable p] (hc : ev L t = some (.bool (decide p))) (ht : p → W P n x Q L w) (hf : ¬ p → W P n y Q L w) : W P n (.cond t x y) Q L w :=
  W_cond hc (fun e => ht (of_decide_eq_true e)) (fun e => hf (of_decide_eq_false e))
theorem W_ifn {t : Operand} {p : Prop} [Decidable p] (hc : ev L t = some (.bool (!decide p))) (ht : ¬ p → W P n x Q L w) (hf : p → W P n y Q L w) : W P n (.cond t x y) Q L w :=
  W_cond hc (fun e => ht (by simpa using e)) (fun e => hf (by simpa using e))
theorem W_true {t : Operand} (hc : ev L t = some (.bool true)) (h : W P n x Q L w) : W P n (.cond t x y) Q L w := fun a fr => wp_cond_true (fr.eval hc) (h a fr)
theorem W_false {t : Operand} (hc : ev L t = some (.bool false)) (h : W P n y Q L w) : W P n (.cond t x y) Q L w := fun a fr => wp_cond_false (fr.eval hc) (h a fr)
theorem W_loop {σ : Type} (I : σ → Env) (R : σ → World → Prop) (μ : σ → Nat) (x0 : σ) (hs : Sub (I x0) L) (hR : R x0 w)
    (round : ∀ s w, R s w → W P n c (loopQ n I R μ s Q) (I s) w) : W P n (.loop c) Q L w := by
  intro a fr b k cs
  have key : ∀ m s a w, μ s = m → Fr n a (I s) → R s w →
      ∃ e a' w', Q e a' w' ∧ Arrives P (lone (b.at a (.code c :: .inLoop c :: k)) cs w) b k cs e a' w' := by
    intro m
    induction m using Nat.strongRecOn with
    | _ m ih =>
      intro s a w hm fr hR
      obtain ⟨e, a₁, w₁, hq, harr⟩ := round s w hR a fr b (.inLoop c :: k) cs
      cases e with
      | normal =>
        obtain ⟨s', fr', hR', hlt⟩ := hq
        obtain ⟨e₂, a₂, w₂, hq₂, harr₂⟩ := ih (μ s') (hm ▸ hlt) s' a₁ w₁ rfl fr' hR'
        exact ⟨e₂, a₂, w₂, hq₂, .of_steps (Steps.trans harr (.one step_inLoop)) harr₂⟩
      | exit id => exact ⟨_, a₁, w₁, hq, .pass (x := .inLoop c) rfl (fun _ _ => .inl (by simp)) harr⟩
      | goto l => exact ⟨_, a₁, w₁, hq, .pass (x := .inLoop c) rfl (fun _ _ => .inl (by simp)) harr⟩
      | ret => exact ⟨_, a₁, w₁, hq, .pass (x := .inLoop c) rfl (fun _ _ => .inl (by simp)) harr⟩
      | panic ch => exact ⟨_, a₁, w₁, hq, .pass (x := .inLoop c) rfl (fun _ _ => .inl (by simp)) harr⟩
      | outgrown => exact ⟨_, a₁, w₁, hq, .pass (x := .inLoop c) rfl (fun _ _ => .inl (by simp)) harr⟩
  obtain ⟨e, a', w', hq, harr⟩ := key _ x0 a w rfl (fr.sub hs) hR
  exact ⟨e, a', w', hq, .of_steps (.one step_loop) harr⟩
/-- The ways through the first part meet again. -/
theorem W_cut {σ : Type} (I : σ → Env) (R : σ → World → Prop) (h1 : W P n x (cutQ n I R Q) L w) (h2 : ∀ s w, R s w → W P n y Q (I s) w) : W P n (.seq x y) Q L w :=
  fun a fr => wp_seq (wp_mono (h1 a fr) fun e a' w' q => by
    cases e with
    | normal => obtain ⟨s, fr', hR⟩ := q; exact h2 s w' hR a' fr'
    | exit id => exact q
    | goto l => exact q
    | ret => exact q
    | panic ch => exact q
    | outgrown => exact q)
theorem At_seq (h : W P n y Q L w) : At n (seqQ P y Q) .normal L w := h
theorem At_cut {σ : Type} {I : σ → Env} {R : σ → World → Prop} (s : σ) (hs : Sub (I s) L) (hR : R s w) : At n (cutQ n I R Q) .normal L w := fun _ fr => ⟨s, fr.sub hs, hR⟩
theorem At_round {σ : Type} {I : σ → Env} {R : σ → World → Prop} {μ : σ → Nat} {s0 : σ} (s : σ) (hs : Sub (I s) L) (hR : R s w) (hm : μ s < μ s0) : At n (loopQ n I R μ s0 Q) .normal L w :=
  fun _ fr => ⟨s, fr.sub hs, hR, hm⟩
theorem At_block {id : Nat} (h : At n Q .normal L w) : At n (Exit.inBlock id Q) .normal L w := h
theorem At_exit {id : Nat} (h : At n Q .normal L w) : At n (Exit.inBlock id Q) (.exit id) L w := fun a fr => by simpa [Exit.inBlock] using h a fr
theorem At_exit_ne {id id' : Nat} (hne : Nat.beq id' id = false) (h : At n Q (.exit id') L w) : At n (Exit.inBlock id Q) (.exit id') L w := fun a fr => by
  have : id' ≠ id := fun e => by subst e; simp at hne
  simpa [Exit.inBlock, this] using h a fr
theorem At_seq_exit {id : Nat} (h : At n Q (.exit id) L w) : At n (seqQ P y Q) (.exit id) L w := h
theorem At_cut_exit {σ : Type} {I : σ → Env} {R : σ → World → Prop} {id : Nat} (h : At n Q (.exit id) L w) : At n (cutQ n I R Q) (.exit id) L w := h
theorem At_loop_exit {σ : Type} {I : σ → Env} {R : σ → World → Prop} {μ : σ → Nat} {s0 : σ} {id : Nat} (h : At n Q (.exit id) L w) : At n (loopQ n I R μ s0 Q) (.exit id) L w := h
theorem At_seq_ret (h : At n Q .ret L w) : At n (seqQ P y Q) .ret L w := h
theorem At_cut_ret {σ : Type} {I : σ → Env} {R : σ → World → Prop} (h : At n Q .ret L w) : At n (cutQ n I R Q) .ret L w := h
theorem At_loop_ret {σ : Type} {I : σ → Env} {R : σ → World → Prop} {μ : σ → Nat} {s0 : σ} (h : At n Q .ret L w) : At n (loopQ n I R μ s0 Q) .ret L w := h
theorem At_block_ret {id : Nat} (h : At n Q .ret L w) : At n (Exit.inBlock id Q) .ret L w := h
end
/-! ### Contracts -/
def Callable (P : Program) (f : FuncId) : Prop := ∃ fn c, P.funcs[f]? = some fn ∧ (fn.name == "runtime.NumGoroutine") = false ∧ fn.body = some c
def Rq (R : Value → World → Prop) : Ending → World → Prop := fun e w' => ∃ v, e = .returned v ∧ R v w'
/-- The call returns a value as told. -/
def Ok (P : Program) (f : FuncId) (args : List Value) (w : World) (R : Value → World → Prop) : Prop :=
  Callable P f ∧ Calls P f args.toArray w (Rq R)
theorem Ok.mono {P : Program} {f : FuncId} {args : List Value} {w : World} {R R' : Value → World → Prop} (h : Ok P f args w R) (hr : ∀ v w', R v w' → R' v w') : Ok P f args w R' :=
  ⟨h.1, h.2.mono fun _ w' ⟨v, he, hv⟩ => ⟨v, he, hr v w' hv⟩⟩
def argEnv : Nat → List Value → Env
  | _, [] => []
  | k, v :: l => (k, v) :: argEnv (k + 1) l
theorem gt_argEnv : ∀ (l : List Value) (k t : Nat) (v : Value), gt (argEnv k l) t = some v → k ≤ t ∧ l[t - k]? = some v
  | [], _, _, _, h => by cases h
  | u :: l, k, t, v, h => by
    simp only [argEnv, gt_cons] at h
    by_cases e : k = t
    · subst e; rw [if_pos rfl] at h; cases h; simp
    · rw [if_neg e] at h
      have ⟨h1, h2⟩ := gt_argEnv l (k + 1) t v h
      refine ⟨by omega, ?_⟩
      have : t - k = (t - (k + 1)) + 1 := by omega
      rw [this, List.getElem?_cons_succ]
      exact h2
def bodyQ (P : Program) (fn : Func) (R : Value → World → Prop) : Exit → Act → World → Prop := bodyPost P fn (Rq R)
theorem Ok_enter {P : Program} {f : FuncId} {fn : Func} {c : Code} {args : List Value} {w : World} {R : Value → World → Prop} {n : Nat} (L : Env)
    (hf : P.funcs[f]? = some fn) (hname : (fn.name == "runtime.NumGoroutine") = false) (hb : fn.body = some c) (hn : fn.ntmps = n) (hk : Nat.ble args.length n = true) (hL : argEnv 0 args = L)
    (h : W P ⟨n, []⟩ c (bodyQ P fn R) L w) : Ok P f args w R := by
  refine ⟨⟨fn, c, hf, hname, hb⟩, calls_of_wp hf hb ?_⟩
  have hk' : args.length ≤ n := by simpa [Nat.ble_eq] using hk
  refine h _ ⟨?_, rfl, ?_⟩
  · simp [hn]; omega
  · intro t v ht
    subst hL
    have ⟨_, h2⟩ := gt_argEnv args 0 t v ht
    simp only [Nat.sub_zero] at h2
    have hlt : t < args.length := (List.getElem?_eq_some_iff.1 h2).1
    simp only [List.size_toArray]
    rw [Array.getElem?_append_left (by simpa using hlt)]
    simpa using h2
def resultOf : List ResultVar → Env → Option Value
  | [.tmp t], L => gt L t
  | [.tmp t, .tmp u], L => match gt L t, gt L u with | some a, some b => some (.tuple #[a, b]) | _, _ => none
  | [.tmp t, .tmp u, .tmp s], L => match gt L t, gt L u, gt L s with | some a, some b, some c => some (.tuple #[a, b, c]) | _, _, _ => none
  | _, _ => none
theorem results_of {P : Program} {fn : Func} {n : Sz} {a : Act} {L : Env} {w : World} {l : List ResultVar} {v : Value} (fr : Fr n a L) (hl : fn.results = l.toArray) (h : resultOf l L = some v) :
    (results fn a.tmps).run P w = .ok v w := by
  unfold resultOf at h
  split at h
  · rename_i t; rw [results_tmp hl]; have := fr.get t v h; simp [Array.getD_eq_getD_getElem?, this]
  · rename_i t u
    split at h
    · rename_i x y h1 h2; cases h
      rw [results_tmp2 hl]; have e1 := fr.get t x h1; have e2 := fr.get u y h2; simp [Array.getD_eq_getD_getElem?, e1, e2]
    · cases h
  · rename_i t u s
    split at h
    · rename_i x y z h1 h2 h3; cases h
      rw [results_tmp3 hl]; have e1 := fr.get t x h1; have e2 := fr.get u y h2; have e3 := fr.get s z h3; simp [Array.getD_eq_getD_getElem?, e1, e2, e3]
    · cases h
  · cases h
theorem At_body {P : Program} {fn : Func} {R : Value → World → Prop} {n : Nat} {L : Env} {w : World} {l : List ResultVar} {v : Value} (hl : fn.results = l.toArray) (h : resultOf l L = some v) (hR : R v w) : At ⟨n, []⟩ (bodyQ P fn R) .ret L w :=
  fun _ fr => ⟨fr.defers, v, results_of fr hl h, v, rfl, hR⟩
/-! ### Operations -/
section
variable {P : Program} {n : Sz} {ops : Array Oper} {Q : Exit → Act → World → Prop} {L : Env} {w : World} {rest : List Oper}
  {d : Nat} {ty : TypeId} {pos : String} {af : Array Edge}
def Rho (L : Env) (ρ : Operand → Value) : Prop := ∀ x u, ev L x = some u → ρ x = u
theorem Fr.rho {a : Act} (fr : Fr n a L) : Rho L a.eval := fun _ _ h => fr.eval h
theorem Rho.map {ρ : Operand → Value} (h : Rho L ρ) : ∀ (l : List Operand) (vs : List Value), evl L l = some vs → l.map ρ = vs
  | [], vs, e => by simp only [evl, Option.some.injEq] at e; simpa using e
  | x :: l, vs, e => by
    unfold evl at e
    split at e
    · rename_i v us h1 h2; cases e; simp [h x v h1, Rho.map h l us h2]
    · cases e
theorem S_nil (h : At n Q .normal L w) : S P n ops Q [] L w := fun a fr => h a fr
theorem S_seqnil {y : Code} (h : W P n y Q L w) : S P n ops (seqQ P y Q) [] L w := fun a fr => h a fr
theorem S_op {o : Oper} (hg : o.guard = none) (h : ∀ a, Fr n a L → o.wp P a w (wpList P ops Q rest) Q) : S P n ops Q (o :: rest) L w :=
  fun a fr => by
    unfold wpList
    rw [if_pos (by simp [Region.wanted, hg])]
    exact .inl (h a fr)
theorem S_value {o : Oper} {v : Value} {w' : World} (hg : o.guard = none) (hd : o.dst = some d) (hn : Nat.blt d n.n = true)
    (hrun : ∀ ρ, Rho L ρ → (execOp ρ o).run P w = .ok (.value v) w') (h : S P n ops Q rest ((d, v) :: L) w') : S P n ops Q (o :: rest) L w :=
  S_op hg fun a fr => by
    unfold Oper.wp
    rw [hrun _ fr.rho]
    show wpList P ops Q rest (a.put o.dst v) w'
    rw [hd]
    exact h _ (fr.put hn)
theorem S_effect {o : Oper} {w' : World} (hg : o.guard = none) (hd : o.dst = none)
    (hrun : ∀ ρ, Rho L ρ → (execOp ρ o).run P w = .ok .skip w') (h : S P n ops Q rest L w') : S P n ops Q (o :: rest) L w :=
  S_op hg fun a fr => by
    unfold Oper.wp
    rw [hrun _ fr.rho]
    show wpList P ops Q rest (a.put o.dst undef) w'
    rw [hd]
    exact h _ fr
/-- An operation under a guard that says yes. -/
theorem S_guarded {dst : Option Tmp} {op : Op} {j : Nat} {want b : Bool} {t : Nat} (hj : ((ops[j]?).bind (·.dst)) = some t) (hb : gt L t = some (.bool b)) (hw : b = want)
    (h : S P n ops Q (⟨dst, op, ty, pos, af, none⟩ :: rest) L w) : S P n ops Q (⟨dst, op, ty, pos, af, some (j, want)⟩ :: rest) L w := fun a fr => by
  have h1 := h a fr
  simp only [wpList] at h1 ⊢
  have hy : yielded ops a.tmps j = some b := by simp [yielded, hj, fr.get t _ hb]
  have hwant : Region.wanted ⟨dst, op, ty, pos, af, some (j, want)⟩ (yielded ops a.tmps) = true := by simp [Region.wanted, hy, hw]
  rw [if_pos hwant]
  have h0 : Region.wanted ⟨dst, op, ty, pos, af, none⟩ (yielded ops a.tmps) = true := by simp [Region.wanted]
  rw [if_pos h0] at h1
  exact h1
/-- An operation under a guard that says no. -/
theorem S_unwanted {op : Op} {j : Nat} {want b : Bool} {t : Nat} (hj : ((ops[j]?).bind (·.dst)) = some t) (hb : gt L t = some (.bool b)) (hw : b = !want) (hn : Nat.blt d n.n = true)
    (h : S P n ops Q rest ((d, undef) :: L) w) : S P n ops Q (⟨some d, op, ty, pos, af, some (j, want)⟩ :: rest) L w := fun a fr => by
  simp only [wpList]
  have hy : yielded ops a.tmps j = some b := by simp [yielded, hj, fr.get t _ hb]
  have hwant : Region.wanted ⟨some d, op, ty, pos, af, some (j, want)⟩ (yielded ops a.tmps) = false := by simp [Region.wanted, hy, hw]
  rw [hwant]
  exact h _ (fr.put hn)
/-- The guard itself was passed over. -/
theorem S_unwanted2 {op : Op} {j : Nat} {want : Bool} {t : Nat} (hj : ((ops[j]?).bind (·.dst)) = some t) (hb : gt L t = some undef) (hn : Nat.blt d n.n = true)
    (h : S P n ops Q rest ((d, undef) :: L) w) : S P n ops Q (⟨some d, op, ty, pos, af, some (j, want)⟩ :: rest) L w := fun a fr => by
  simp only [wpList]
  have hy : yielded ops a.tmps j = none := by simp [yielded, hj, fr.get t _ hb, undef]
  have hwant : Region.wanted ⟨some d, op, ty, pos, af, some (j, want)⟩ (yielded ops a.tmps) = false := by simp [Region.wanted, hy]
  rw [hwant]
  exact h _ (fr.put hn)
end
end Go.E
namespace Go.E
open Go
def nth : List Value → Nat → Option Value
  | [], _ => none
  | v :: _, 0 => some v
  | _ :: l, i + 1 => nth l i
theorem nth_eq : ∀ (l : List Value) (i : Nat), nth l i = l[i]?
  | [], _ => rfl
  | _ :: _, 0 => rfl
  | _ :: l, i + 1 => by simpa [nth] using nth_eq l i
def cmpI : BinOp → Int → Int → Option Bool
  | .eql, a, b => some (decide (a = b))
  | .neq, a, b => some (!decide (a = b))
  | .lss, a, b => some (decide (a < b))
  | .leq, a, b => some (decide (a ≤ b))
  | .gtr, a, b => some (decide (b < a))
  | .geq, a, b => some (decide (b ≤ a))
  | _, _, _ => none
def sameK : IntKind → IntKind → Bool
  | .i8, .i8 | .i16, .i16 | .i32, .i32 | .i64, .i64 | .u8, .u8 | .u16, .u16 | .u32, .u32 | .u64, .u64 => true
  | _, _ => false
theorem sameK_eq : ∀ {a b : IntKind}, sameK a b = true → a = b
  | .i8, .i8, _ => rfl | .i16, .i16, _ => rfl | .i32, .i32, _ => rfl | .i64, .i64, _ => rfl
  | .u8, .u8, _ => rfl | .u16, .u16, _ => rfl | .u32, .u32, _ => rfl | .u64, .u64, _ => rfl
/-- What an operation yields that only computes. -/
def pu (L : Env) : Op → Option Value
  | .move x => ev L x
  | .assign x => ev L x
  | .extract x i => match ev L x with
    | some (.tuple vs) => nth vs.toList i
    | _ => none
  | .binOp op _ x y _ => match ev L x, ev L y with
    | some (.int k a), some (.int k' b) => bif sameK k k' then (match cmpI op a b with | some r => some (.bool r) | none => none) else none
    | _, _ => none
  | .unOp .not _ x => match ev L x with
    | some (.bool b) => some (.bool (!b))
    | _ => none
  | .makeFunc fn first captured => match evl L first.toList, evl L captured.toList with
    | some a, some b => some (.func fn a.toArray b.toArray)
    | _, _ => none
  | .pick c a b => match ev L c with
    | some (.bool true) => ev L a
    | some (.bool false) => ev L b
    | _ => none
  | _ => none
section
variable {P : Program} {n : Sz} {ops : Array Oper} {Q : Exit → Act → World → Prop} {L : Env} {w : World} {rest : List Oper}
  {d : Nat} {ty : TypeId} {pos : String} {af : Array Edge}
theorem run_intCmp {op : BinOp} {t : TypeId} {x y : Operand} {k : IntKind} {a b : Int} {r : Bool} (h : cmpI op a b = some r) :
    (do eqGuard op t x y (.int k a) (.int k b); binOp op t (.int k a) (.int k b)).run P w = .ok (.bool r) w := by
  cases op <;> simp only [cmpI, Option.some.injEq, reduceCtorEq] at h <;> subst h <;>
    simp [eqGuard, binOp, Op.intCmp, GT.gt, GE.ge, bne, BEq.beq]
theorem pu_run {op : Op} {v : Value} {dst : Option Tmp} (h : pu L op = some v) (ρ : Operand → Value) (hρ : Rho L ρ) :
    (execOp ρ ⟨dst, op, ty, pos, af, none⟩).run P w = .ok (.value v) w := by
  unfold pu at h
  split at h
  · rename_i x; simp [execOp, hρ x v h]
  · rename_i x; simp [execOp, hρ x v h]
  · rename_i x i
    split at h
    · rename_i vs hx
      rw [nth_eq] at h
      have h' : vs[i]? = some v := by simpa using h
      simp [execOp, hρ x _ hx, Instr.extract, h']
    · cases h
  · rename_i op t x y t'
    split at h
    · rename_i k a k' b hx hy
      cases hk : sameK k k' with
      | false => rw [hk] at h; cases h
      | true =>
        rw [hk] at h
        obtain rfl := sameK_eq hk
        simp only [cond_true] at h
        split at h
        · rename_i r hr
          cases h
          have := run_intCmp (P := P) (w := w) (t := t) (x := x) (y := y) (k := k) hr
          simp only [execOp, hρ x _ hx, hρ y _ hy]
          simp only [Sem.run_bind] at this ⊢
          rw [this]
          rfl
        · cases h
    · cases h
  · rename_i t x
    split at h
    · rename_i b hx; cases h; simp [execOp, hρ x _ hx, Op.unary]
    · cases h
  · rename_i fn first captured
    split at h
    · rename_i a b h1 h2
      cases h
      have e1 := hρ.map _ _ h1
      have e2 := hρ.map _ _ h2
      have f1 : first.map ρ = a.toArray := by apply Array.ext'; simpa using e1
      have f2 : captured.map ρ = b.toArray := by apply Array.ext'; simpa using e2
      simp [execOp, Instr.makeFunc, f1, f2]
    · cases h
  · rename_i c a b
    split at h
    · rename_i hc; simp [execOp, hρ c _ hc, hρ a _ h, asBool]
    · rename_i hc; simp [execOp, hρ c _ hc, hρ b _ h, asBool]
    · cases h
  · cases h
def puStep (n : Sz) (o : Oper) (L : Env) : Option Env :=
  match o with
  | ⟨some d, op, _, _, _, none⟩ => match pu L op with
    | some v => bif Nat.blt d n.n then some ((d, v) :: L) else none
    | none => none
  | _ => none
def puK (n : Sz) : Nat → List Oper → Env → Option (List Oper × Env)
  | 0, l, L => some (l, L)
  | k + 1, o :: l, L => match puStep n o L with
    | some L' => puK n k l L'
    | none => none
  | _ + 1, [], _ => none
theorem S_puStep {o : Oper} {L' : Env} (h : puStep n o L = some L') (hS : S P n ops Q rest L' w) : S P n ops Q (o :: rest) L w := by
  unfold puStep at h
  split at h
  · rename_i d op t ps aft
    split at h
    · rename_i v hv
      cases hd : Nat.blt d n.n with
      | false => rw [hd] at h; cases h
      | true => rw [hd] at h; cases h; exact S_value rfl rfl hd (pu_run hv) hS
    · cases h
  · cases h
/-- Some operations at once that only compute. -/
theorem S_pu : ∀ (k : Nat) {l l' : List Oper} {L L' : Env} (_ : puK n k l L = some (l', L')) (_ : S P n ops Q l' L' w), S P n ops Q l L w
  | 0, l, l', L, L', h, hS => by simp only [puK, Option.some.injEq, Prod.mk.injEq] at h; obtain ⟨rfl, rfl⟩ := h; exact hS
  | k + 1, [], l', L, L', h, hS => by simp only [puK, reduceCtorEq] at h
  | k + 1, o :: l, l', L, L', h, hS => by
    simp only [puK] at h
    split at h
    · rename_i L1 h1; exact S_puStep h1 (S_pu k h hS)
    · cases h
theorem S_pz (k : Nat) {l : List Oper} {L L' : Env} {y : Code} (h : puK n k l L = some ([], L')) (hW : W P n y Q L' w) : S P n ops (seqQ P y Q) l L w := S_pu k h (S_seqnil hW)
theorem W_p {id : Nat} {l l' : List Oper} {L L' : Env} {y : Code} (k : Nat) (h : puK n k l L = some (l', L')) (hS : S P n l.toArray (seqQ P y Q) l' L' w) : W P n (.seq (.region id l.toArray false) y) Q L w := W_seqr (S_pu k h hS)
theorem W_pz {id : Nat} {l : List Oper} {L L' : Env} {y : Code} (k : Nat) (h : puK n k l L = some ([], L')) (hW : W P n y Q L' w) : W P n (.seq (.region id l.toArray false) y) Q L w := W_seqr (S_pz k h hW)
/-! ### Integers -/
theorem wrap64 {x : Int} (h1 : -9223372036854775808 ≤ x) (h2 : x ≤ 9223372036854775807) : IntKind.i64.wrap x = x := by
  simp only [IntKind.wrap, IntKind.bits, IntKind.signed, Bool.true_and, decide_eq_true_eq, ge_iff_le]
  split <;> omega
theorem wrapU8 {x : Int} (h1 : 0 ≤ x) (h2 : x < 256) : IntKind.u8.wrap x = x := by
  simp only [IntKind.wrap, IntKind.bits, IntKind.signed, Bool.false_and, Bool.false_eq_true, if_false]
  omega
theorem wrapU8' {x : Int} : IntKind.u8.wrap x = x % 256 := by
  simp only [IntKind.wrap, IntKind.bits, IntKind.signed, Bool.false_and, Bool.false_eq_true, if_false]
  omega
def arI : BinOp → Int → Int → Option Int
  | .add, a, b => some (a + b)
  | .sub, a, b => some (a - b)
  | .mul, a, b => some (a * b)
  | _, _, _ => none
theorem tdiv_pos {a b : Int} (ha : 0 ≤ a) : a.tdiv b = a / b := Int.tdiv_eq_ediv_of_nonneg ha
theorem tmod_pos {a b : Int} (ha : 0 ≤ a) : a.tmod b = a % b := Int.tmod_eq_emod_of_nonneg ha
theorem ediv_le {a b : Int} (ha : 0 ≤ a) (hb : 0 < b) : 0 ≤ a / b ∧ a / b ≤ a := by
  refine ⟨Int.ediv_nonneg ha (by omega), ?_⟩
  exact Int.ediv_le_self b ha
/-- A call of a function of the program. -/
theorem run_call {f : FuncId} {args : List Operand} {vs : List Value} {at_ : Array TypeId} {dst : Option Tmp} (hc : Callable P f) (ha : evl L args = some vs) (ρ : Operand → Value) (hρ : Rho L ρ) :
    (execOp ρ ⟨dst, .call ⟨.value (.func f), args.toArray, at_⟩, ty, pos, af, none⟩).run P w = .ok (.enter f vs.toArray) w := by
  obtain ⟨fn, c, h1, h2, h3⟩ := hc
  have e0 : ρ (.func f) = .func (.func f) #[] #[] := hρ _ _ rfl
  have e1 := hρ.map _ _ ha
  have h2' : ¬ fn.name = "runtime.NumGoroutine" := by simpa using h2
  simp [execOp, resolve, e0, Deferred.ofValue, e1, invoke, callFunc, h1, h2', h3]
theorem S_call {f : FuncId} {args : List Operand} {vs : List Value} {at_ : Array TypeId} {R : Value → World → Prop} (ha : evl L args = some vs) (hn : Nat.blt d n.n = true) (hok : Ok P f vs w R)
    (h : ∀ v w', R v w' → S P n ops Q rest ((d, v) :: L) w') : S P n ops Q (⟨some d, .call ⟨.value (.func f), args.toArray, at_⟩, ty, pos, af, none⟩ :: rest) L w :=
  S_op rfl fun a fr => by
    unfold Oper.wp
    rw [run_call hok.1 ha _ fr.rho]
    refine hok.2.mono fun e w' ⟨v, he, hv⟩ => ?_
    subst he
    exact h v w' hv _ (fr.put hn)
/-! ### '&&' and '||' of what only computes -/
/-- The operations under one guard, as if the guard said yes; their slots must be new. -/
def puG (n : Sz) (j : Nat) (want : Bool) (L0 : Env) : Nat → List Oper → Env → Option (List Oper × Env)
  | 0, l, L => some (l, L)
  | k + 1, ⟨some d, op, ty, pos, af, some (j', want')⟩ :: l, L =>
    bif Nat.beq j j' && (want == want') && (gt L0 d).isNone then
      match puStep n ⟨some d, op, ty, pos, af, none⟩ L with
      | some L' => puG n j want L0 k l L'
      | none => none
    else none
  | _ + 1, _, _ => none
theorem S_group_yes {j : Nat} {want : Bool} {t : Nat} {L0 : Env} (hj : ((ops[j]?).bind (·.dst)) = some t) : ∀ (k : Nat) {l l' : List Oper} {L L' : Env}, gt L t = some (.bool want) → gt L0 t = some (.bool want) → puG n j want L0 k l L = some (l', L') →
    S P n ops Q l' L' w → S P n ops Q l L w := by
  intro k
  induction k with
  | zero => intro l l' L L' _ _ h hS; simp only [puG, Option.some.injEq, Prod.mk.injEq] at h; obtain ⟨rfl, rfl⟩ := h; exact hS
  | succ k ih =>
    intro l l' L L' hb h0 h hS
    match l, h with
    | [], h => cases h
    | ⟨none, _, _, _, _, _⟩ :: l, h => cases h
    | ⟨some d, op, ty, pos, af, none⟩ :: l, h => cases h
    | ⟨some d, op, ty, pos, af, some (j', want')⟩ :: l, h =>
      simp only [puG] at h
      cases hc : (Nat.beq j j' && (want == want') && (gt L0 d).isNone) with
      | false => rw [hc] at h; cases h
      | true =>
        rw [hc] at h
        simp only [Bool.and_eq_true, Option.isNone_iff_eq_none] at hc
        obtain ⟨⟨c1, c2⟩, c3⟩ := hc
        obtain rfl := Nat.eq_of_beq_eq_true c1
        obtain rfl : want = want' := by simpa using c2
        simp only [cond_true] at h
        split at h
        · rename_i L1 h1
          refine S_guarded hj hb rfl (S_puStep h1 (ih ?_ h0 h hS))
          simp only [puStep] at h1
          split at h1
          · rename_i v hv
            cases hd : Nat.blt d n.n with
            | false => rw [hd] at h1; cases h1
            | true =>
              rw [hd] at h1; cases h1
              rw [gt_cons]
              by_cases e : d = t
              · subst e; rw [h0] at c3; cases c3
              · rw [if_neg e]; exact hb
          · cases h1
        · cases h
theorem S_group_no {j : Nat} {want : Bool} {t : Nat} {L0 : Env} (hj : ((ops[j]?).bind (·.dst)) = some t) : ∀ (k : Nat) {l l' : List Oper} {L L' M : Env}, Sub L0 M → gt L0 t = some (.bool (!want)) → puG n j want L0 k l L = some (l', L') →
    (∀ M', Sub L0 M' → S P n ops Q l' M' w) → S P n ops Q l M w := by
  intro k
  induction k with
  | zero => intro l l' L L' M hM _ h hS; simp only [puG, Option.some.injEq, Prod.mk.injEq] at h; obtain ⟨rfl, rfl⟩ := h; exact hS M hM
  | succ k ih =>
    intro l l' L L' M hM h0 h hS
    match l, h with
    | [], h => cases h
    | ⟨none, _, _, _, _, _⟩ :: l, h => cases h
    | ⟨some d, op, ty, pos, af, none⟩ :: l, h => cases h
    | ⟨some d, op, ty, pos, af, some (j', want')⟩ :: l, h =>
      simp only [puG] at h
      cases hc : (Nat.beq j j' && (want == want') && (gt L0 d).isNone) with
      | false => rw [hc] at h; cases h
      | true =>
        rw [hc] at h
        simp only [Bool.and_eq_true, Option.isNone_iff_eq_none] at hc
        obtain ⟨⟨c1, c2⟩, c3⟩ := hc
        obtain rfl := Nat.eq_of_beq_eq_true c1
        obtain rfl : want = want' := by simpa using c2
        simp only [cond_true] at h
        split at h
        · rename_i L1 h1
          have hd : Nat.blt d n.n = true := by
            simp only [puStep] at h1
            split at h1
            · cases hd : Nat.blt d n.n with
              | false => rw [hd] at h1; cases h1
              | true => rfl
            · cases h1
          refine S_unwanted hj (hM t _ h0) rfl hd (ih (fun t' v hv => ?_) h0 h hS)
          rw [gt_cons]
          by_cases e : d = t'
          · subst e; rw [hv] at c3; cases c3
          · rw [if_neg e]; exact hM t' v hv
        · cases h
theorem Sub.both {t : Nat} {v : Value} {L L' : Env} (h : Sub L L') : Sub ((t, v) :: L) ((t, v) :: L') := fun t' u hu => by
  rw [gt_cons] at hu ⊢
  by_cases e : t = t'
  · rw [if_pos e] at hu ⊢; exact hu
  · rw [if_neg e] at hu ⊢; exact h t' u hu
theorem puG_sub {j : Nat} {want : Bool} {L0 : Env} : ∀ (k : Nat) {l l' : List Oper} {L L' : Env}, Sub L0 L → puG n j want L0 k l L = some (l', L') → Sub L0 L' := by
  intro k
  induction k with
  | zero => intro l l' L L' hM h; simp only [puG, Option.some.injEq, Prod.mk.injEq] at h; obtain ⟨rfl, rfl⟩ := h; exact hM
  | succ k ih =>
    intro l l' L L' hM h
    match l, h with
    | [], h => cases h
    | ⟨none, _, _, _, _, _⟩ :: l, h => cases h
    | ⟨some d, op, ty, pos, af, none⟩ :: l, h => cases h
    | ⟨some d, op, ty, pos, af, some (j', want')⟩ :: l, h =>
      simp only [puG] at h
      cases hc : (Nat.beq j j' && (want == want') && (gt L0 d).isNone) with
      | false => rw [hc] at h; cases h
      | true =>
        rw [hc] at h
        simp only [Bool.and_eq_true, Option.isNone_iff_eq_none] at hc
        obtain ⟨⟨c1, c2⟩, c3⟩ := hc
        simp only [cond_true] at h
        split at h
        · rename_i L1 h1
          refine ih ?_ h
          simp only [puStep] at h1
          split at h1
          · rename_i v hv
            cases hd : Nat.blt d n.n with
            | false => rw [hd] at h1; cases h1
            | true =>
              rw [hd] at h1; cases h1
              intro t' u hu
              rw [gt_cons]
              by_cases e : d = t'
              · subst e; rw [hu] at c3; cases c3
              · rw [if_neg e]; exact hM t' u hu
          · cases h1
        · cases h
theorem Sub.ev {L M : Env} (hM : Sub L M) {x : Operand} {v : Value} (hx : ev L x = some v) : ev M x = some v := by
  cases x with
  | tmp t => exact hM t v hx
  | const _ => exact hx
  | func _ => exact hx
  | _ => exact hx
/-- The group under a guard, then the pick of two bools: the first under the guard. -/
theorem S_pickT (k j : Nat) {t : Nat} {b r s : Bool} {c x y : Operand} {l l' : List Oper} {L1 : Env} (hj : ((ops[j]?).bind (·.dst)) = some t) (hb : gt L t = some (.bool b))
    (hg : puG n j true L k l L = some (⟨some d, .pick c x y, ty, pos, af, none⟩ :: l', L1)) (hc : ev L c = some (.bool b)) (hx : ev L1 x = some (.bool r)) (hy : ev L y = some (.bool s)) (hn : Nat.blt d n.n = true)
    (h : S P n ops Q l' ((d, .bool (bif b then r else s)) :: L) w) : S P n ops Q l L w := by
  have hsub : Sub L L1 := puG_sub k (Sub.refl L) hg
  cases b with
  | true =>
    refine S_group_yes (L0 := L) hj k hb hb hg ?_
    refine S_value rfl rfl hn (v := .bool r) (w' := w) (fun ρ hρ => by simp [execOp, hρ c _ (Sub.ev hsub hc), hρ x _ hx, asBool]) ?_
    exact S.sub h hsub.both
  | false =>
    refine S_group_no (L0 := L) (want := true) hj k (Sub.refl L) hb hg fun M hM => ?_
    refine S_value rfl rfl hn (v := .bool s) (w' := w) (fun ρ hρ => by simp [execOp, hρ c _ (Sub.ev hM hc), hρ y _ (Sub.ev hM hy), asBool]) ?_
    exact S.sub h hM.both
theorem S_pickF (k j : Nat) {t : Nat} {b r s : Bool} {c x y : Operand} {l l' : List Oper} {L1 : Env} (hj : ((ops[j]?).bind (·.dst)) = some t) (hb : gt L t = some (.bool b))
    (hg : puG n j false L k l L = some (⟨some d, .pick c x y, ty, pos, af, none⟩ :: l', L1)) (hc : ev L c = some (.bool b)) (hx : ev L x = some (.bool r)) (hy : ev L1 y = some (.bool s)) (hn : Nat.blt d n.n = true)
    (h : S P n ops Q l' ((d, .bool (bif b then r else s)) :: L) w) : S P n ops Q l L w := by
  have hsub : Sub L L1 := puG_sub k (Sub.refl L) hg
  cases b with
  | false =>
    refine S_group_yes (L0 := L) hj k hb hb hg ?_
    refine S_value rfl rfl hn (v := .bool s) (w' := w) (fun ρ hρ => by simp [execOp, hρ c _ (Sub.ev hsub hc), hρ y _ hy, asBool]) ?_
    exact S.sub h hsub.both
  | true =>
    refine S_group_no (L0 := L) (want := false) hj k (Sub.refl L) hb hg fun M hM => ?_
    refine S_value rfl rfl hn (v := .bool r) (w' := w) (fun ρ hρ => by simp [execOp, hρ c _ (Sub.ev hM hc), hρ x _ (Sub.ev hM hx), asBool]) ?_
    exact S.sub h hM.both
theorem dec_and {p q : Prop} [Decidable p] [Decidable q] : (bif decide p then decide q else false) = decide (p ∧ q) := by by_cases hp : p <;> simp [hp]
/-- 'a && b', both decided propositions. -/
theorem S_and (k j : Nat) {t : Nat} {p q : Prop} [Decidable p] [Decidable q] {c x : Operand} {l l' : List Oper} {L1 : Env} (hj : ((ops[j]?).bind (·.dst)) = some t) (hb : gt L t = some (.bool (decide p)))
    (hg : puG n j true L k l L = some (⟨some d, .pick c x (.const (.bool false)), ty, pos, af, none⟩ :: l', L1)) (hc : ev L c = some (.bool (decide p))) (hx : ev L1 x = some (.bool (decide q))) (hn : Nat.blt d n.n = true)
    (h : S P n ops Q l' ((d, .bool (decide (p ∧ q))) :: L) w) : S P n ops Q l L w :=
  S_pickT k j hj hb hg hc hx rfl hn (by rw [dec_and]; exact h)
end
end Go.E
