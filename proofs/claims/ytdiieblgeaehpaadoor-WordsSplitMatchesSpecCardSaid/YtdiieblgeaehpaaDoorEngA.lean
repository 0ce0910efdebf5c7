/- The frame by live slots, and rules for code and for operations that only compute; no program in sight. -/
import Derived.WalkKit
import Derived.ProofKit
namespace Go.E
open Go

abbrev Env := List (Nat × Value)

def gt : Env → Nat → Option Value
  | [], _ => none
  | (k, v) :: L, t => bif Nat.beq k t then some v else gt L t

def ev (L : Env) : Operand → Option Value
  | .tmp t => gt L t
  | .const v => some v
  | .global g => some (.pointer (some ⟨g, 0, none⟩))
  | .func f => some (.func (.func f) #[] #[])

def evl (L : Env) : List Operand → Option (List Value)
  | [] => some []
  | x :: xs => match ev L x, evl L xs with
    | some v, some vs => some (v :: vs)
    | _, _ => none

/-- The size of a frame, and what it has deferred. -/
structure Sz where
  n : Nat
  d : List Deferred
structure Fr (n : Sz) (a : Act) (L : Env) : Prop where
  size : a.tmps.size = n.n
  defers : a.defers = n.d
  get : ∀ t v, gt L t = some v → a.tmps[t]? = some v

theorem gt_cons {k t : Nat} {v : Value} {L : Env} : gt ((k, v) :: L) t = if k = t then some v else gt L t := by
  show (bif Nat.beq k t then some v else gt L t) = _
  by_cases h : k = t
  · subst h; simp
  · have : Nat.beq k t = false := by
      cases hb : Nat.beq k t with
      | true => exact absurd (Nat.eq_of_beq_eq_true hb) h
      | false => rfl
    rw [this, if_neg h]; rfl

theorem Fr.eval {n : Sz} {a : Act} {L : Env} (h : Fr n a L) {x : Operand} {v : Value} (hx : ev L x = some v) : a.eval x = v := by
  cases x with
  | tmp t => simp only [ev] at hx; have := h.get t v hx; simp [Act.eval, Array.getD_eq_getD_getElem?, this]
  | const u => simp only [ev, Option.some.injEq] at hx; simpa [Act.eval] using hx
  | func f => simp only [ev, Option.some.injEq] at hx; simpa [Act.eval] using hx
  | _ => simp only [ev, Option.some.injEq] at hx; simpa [Act.eval] using hx

theorem Fr.put {n : Sz} {a : Act} {L : Env} (h : Fr n a L) {d : Nat} {v : Value} (hd : Nat.blt d n.n = true) : Fr n (a.put (some d) v) ((d, v) :: L) := by
  have hd' : d < n.n := by simpa [Nat.blt_eq] using hd
  refine ⟨by simp [Act.put, h.size], by simp [Act.put, h.defers], fun t u ht => ?_⟩
  rw [gt_cons] at ht
  by_cases e : d = t
  · subst e
    rw [if_pos rfl] at ht
    cases ht
    simp [Act.put, h.size, hd']
  · rw [if_neg e] at ht
    have := h.get t u ht
    simp only [Act.put]
    rw [Array.getElem?_setIfInBounds_ne e]
    exact this

theorem Fr.putNone {n : Sz} {a : Act} {L : Env} (h : Fr n a L) {v : Value} : Fr n (a.put none v) L := h

def Sub (L' L : Env) : Prop := ∀ t v, gt L' t = some v → gt L t = some v
theorem Sub.refl (L : Env) : Sub L L := fun _ _ h => h
theorem Sub.nil (L : Env) : Sub [] L := fun _ _ h => by cases h
theorem Sub.cons {t : Nat} {v : Value} {L' L : Env} (hg : gt L t = some v) (h : Sub L' L) : Sub ((t, v) :: L') L := fun t' u hu => by
  rw [gt_cons] at hu
  by_cases e : t = t'
  · subst e; rw [if_pos rfl] at hu; cases hu; exact hg
  · rw [if_neg e] at hu; exact h t' u hu
theorem Sub.int {t : Nat} {k : IntKind} {x y : Int} {L' L : Env} (hg : gt L t = some (.int k x)) (he : x = y) (h : Sub L' L) : Sub ((t, .int k y) :: L') L := .cons (he ▸ hg) h
theorem Sub.cons' {t : Nat} {u v : Value} {L' L : Env} (hg : gt L t = some u) (he : u = v) (h : Sub L' L) : Sub ((t, v) :: L') L := .cons (he ▸ hg) h
theorem Fr.sub {n : Sz} {a : Act} {L L' : Env} (h : Fr n a L) (hs : Sub L' L) : Fr n a L' := ⟨h.size, h.defers, fun t v ht => h.get t v (hs t v ht)⟩

/-- Code, from every frame that has these slots. -/
def W (P : Program) (n : Sz) (c : Code) (Q : Exit → Act → World → Prop) (L : Env) (w : World) : Prop := ∀ a, Fr n a L → c.wp P Q a w
/-- A list of operations. -/
def S (P : Program) (n : Sz) (ops : Array Oper) (Q : Exit → Act → World → Prop) (l : List Oper) (L : Env) (w : World) : Prop := ∀ a, Fr n a L → wpList P ops Q l a w
/-- A post at an exit. -/
def At (n : Sz) (Q : Exit → Act → World → Prop) (e : Exit) (L : Env) (w : World) : Prop := ∀ a, Fr n a L → Q e a w

def seqQ (P : Program) (y : Code) (Q : Exit → Act → World → Prop) : Exit → Act → World → Prop := Exit.then (y.wp P Q) Q
def cutQ {σ : Type} (n : Sz) (I : σ → Env) (R : σ → World → Prop) (Q : Exit → Act → World → Prop) : Exit → Act → World → Prop :=
  Exit.then (fun a w => ∃ s, Fr n a (I s) ∧ R s w) Q
def loopQ {σ : Type} (n : Sz) (I : σ → Env) (R : σ → World → Prop) (μ : σ → Nat) (x : σ) (Q : Exit → Act → World → Prop) : Exit → Act → World → Prop :=
  Exit.then (fun a w => ∃ s, Fr n a (I s) ∧ R s w ∧ μ s < μ x) Q

section
variable {P : Program} {n : Sz} {Q : Exit → Act → World → Prop} {L : Env} {w : World} {x y c : Code}

theorem W.sub {L' : Env} (h : W P n c Q L' w) (hs : Sub L' L) : W P n c Q L w := fun a fr => h a (fr.sub hs)
theorem S.sub {ops : Array Oper} {l : List Oper} {L' : Env} (h : S P n ops Q l L' w) (hs : Sub L' L) : S P n ops Q l L w := fun a fr => h a (fr.sub hs)

theorem W_seq (h : W P n x (seqQ P y Q) L w) : W P n (.seq x y) Q L w := fun a fr => wp_seq (h a fr)
theorem W_skip (h : At n Q .normal L w) : W P n .skip Q L w := fun a fr => wp_skip (h a fr)
theorem W_ret (h : At n Q .ret L w) : W P n .ret Q L w := fun a fr => wp_ret (h a fr)
theorem W_exit {id : Nat} (h : At n Q (.exit id) L w) : W P n (.exit id) Q L w := fun a fr => wp_exit (h a fr)
theorem W_block {id : Nat} (h : W P n c (Exit.inBlock id Q) L w) : W P n (.block id c) Q L w := fun a fr => wp_block (h a fr)
theorem W_region {id : Nat} {l : List Oper} (h : S P n l.toArray Q l L w) : W P n (.region id l.toArray false) Q L w := fun a fr => wp_region_lit (h a fr)
theorem W_seqr {id : Nat} {l : List Oper} (h : S P n l.toArray (seqQ P y Q) l L w) : W P n (.seq (.region id l.toArray false) y) Q L w := W_seq (W_region h)
theorem W_cond {t : Operand} {b : Bool} (hc : ev L t = some (.bool b)) (ht : b = true → W P n x Q L w) (hf : b = false → W P n y Q L w) : W P n (.cond t x y) Q L w :=
  fun a fr => wp_cond_split (fr.eval hc) (fun e => ht e a fr) (fun e => hf e a fr)
theorem W_if {t : Operand} {p : Prop} [Decidable p] (hc : ev L t = some (.bool (decide p))) (ht : p → W P n x Q L w) (hf : ¬ p → W P n y Q L w) : W P n (.cond t x y) Q L w :=
  W_cond hc (fun e => ht (of_decide_eq_true e)) (fun e => hf (of_decide_eq_false e))
theorem W_ifn {t : Operand} {p : Prop} [Decidable p] (hc : ev L t = some (.bool (!decide p))) (ht : ¬ p → W P n x Q L w) (hf : p → W P n y Q L w) : W P n (.cond t x y) Q L w :=
  W_cond hc (fun e => ht (by simpa using e)) (fun e => hf (by simpa using e))
theorem W_true {t : Operand} (hc : ev L t = some (.bool true)) (h : W P n x Q L w) : W P n (.cond t x y) Q L w := fun a fr => wp_cond_true (fr.eval hc) (h a fr)
theorem W_false {t : Operand} (hc : ev L t = some (.bool false)) (h : W P n y Q L w) : W P n (.cond t x y) Q L w := fun a fr => wp_cond_false (fr.eval hc) (h a fr)

theorem W_loop {σ : Type} (I : σ → Env) (R : σ → World → Prop) (μ : σ → Nat) (x0 : σ) (hs : Sub (I x0) L) (hR : R x0 w)
    (round : ∀ s w, R s w → W P n c (loopQ n I R μ s Q) (I s) w) : W P n (.loop c) Q L w := by
  intro a fr b k cs
  have key : ∀ m s a w, μ s = m → Fr n a (I s) → R s w →
      ∃ e a' w', Q e a' w' ∧ Arrives P (lone (b.at a (.code c :: .inLoop c :: k)) cs w) b k cs e a' w' := by
    intro m
    induction m using Nat.strongRecOn with
    | _ m ih =>
      intro s a w hm fr hR
      obtain ⟨e, a₁, w₁, hq, harr⟩ := round s w hR a fr b (.inLoop c :: k) cs
      cases e with
      | normal =>
        obtain ⟨s', fr', hR', hlt⟩ := hq
        obtain ⟨e₂, a₂, w₂, hq₂, harr₂⟩ := ih (μ s') (hm ▸ hlt) s' a₁ w₁ rfl fr' hR'
        exact ⟨e₂, a₂, w₂, hq₂, .of_steps (Steps.trans harr (.one step_inLoop)) harr₂⟩
      | exit id => exact ⟨_, a₁, w₁, hq, .pass (x := .inLoop c) rfl (fun _ _ => .inl (by simp)) harr⟩
      | goto l => exact ⟨_, a₁, w₁, hq, .pass (x := .inLoop c) rfl (fun _ _ => .inl (by simp)) harr⟩
      | ret => exact ⟨_, a₁, w₁, hq, .pass (x := .inLoop c) rfl (fun _ _ => .inl (by simp)) harr⟩
      | panic ch => exact ⟨_, a₁, w₁, hq, .pass (x := .inLoop c) rfl (fun _ _ => .inl (by simp)) harr⟩
      | outgrown => exact ⟨_, a₁, w₁, hq, .pass (x := .inLoop c) rfl (fun _ _ => .inl (by simp)) harr⟩
  obtain ⟨e, a', w', hq, harr⟩ := key _ x0 a w rfl (fr.sub hs) hR
  exact ⟨e, a', w', hq, .of_steps (.one step_loop) harr⟩

/-- The ways through the first part meet again. -/
theorem W_cut {σ : Type} (I : σ → Env) (R : σ → World → Prop) (h1 : W P n x (cutQ n I R Q) L w) (h2 : ∀ s w, R s w → W P n y Q (I s) w) : W P n (.seq x y) Q L w :=
  fun a fr => wp_seq (wp_mono (h1 a fr) fun e a' w' q => by
    cases e with
    | normal => obtain ⟨s, fr', hR⟩ := q; exact h2 s w' hR a' fr'
    | exit id => exact q
    | goto l => exact q
    | ret => exact q
    | panic ch => exact q
    | outgrown => exact q)

theorem At_seq (h : W P n y Q L w) : At n (seqQ P y Q) .normal L w := h
theorem At_cut {σ : Type} {I : σ → Env} {R : σ → World → Prop} (s : σ) (hs : Sub (I s) L) (hR : R s w) : At n (cutQ n I R Q) .normal L w := fun _ fr => ⟨s, fr.sub hs, hR⟩
theorem At_round {σ : Type} {I : σ → Env} {R : σ → World → Prop} {μ : σ → Nat} {s0 : σ} (s : σ) (hs : Sub (I s) L) (hR : R s w) (hm : μ s < μ s0) : At n (loopQ n I R μ s0 Q) .normal L w :=
  fun _ fr => ⟨s, fr.sub hs, hR, hm⟩
theorem At_block {id : Nat} (h : At n Q .normal L w) : At n (Exit.inBlock id Q) .normal L w := h
theorem At_exit {id : Nat} (h : At n Q .normal L w) : At n (Exit.inBlock id Q) (.exit id) L w := fun a fr => by simpa [Exit.inBlock] using h a fr
theorem At_exit_ne {id id' : Nat} (hne : Nat.beq id' id = false) (h : At n Q (.exit id') L w) : At n (Exit.inBlock id Q) (.exit id') L w := fun a fr => by
  have : id' ≠ id := fun e => by subst e; simp at hne
  simpa [Exit.inBlock, this] using h a fr
theorem At_seq_exit {id : Nat} (h : At n Q (.exit id) L w) : At n (seqQ P y Q) (.exit id) L w := h
theorem At_cut_exit {σ : Type} {I : σ → Env} {R : σ → World → Prop} {id : Nat} (h : At n Q (.exit id) L w) : At n (cutQ n I R Q) (.exit id) L w := h
theorem At_loop_exit {σ : Type} {I : σ → Env} {R : σ → World → Prop} {μ : σ → Nat} {s0 : σ} {id : Nat} (h : At n Q (.exit id) L w) : At n (loopQ n I R μ s0 Q) (.exit id) L w := h
theorem At_seq_ret (h : At n Q .ret L w) : At n (seqQ P y Q) .ret L w := h
theorem At_cut_ret {σ : Type} {I : σ → Env} {R : σ → World → Prop} (h : At n Q .ret L w) : At n (cutQ n I R Q) .ret L w := h
theorem At_loop_ret {σ : Type} {I : σ → Env} {R : σ → World → Prop} {μ : σ → Nat} {s0 : σ} (h : At n Q .ret L w) : At n (loopQ n I R μ s0 Q) .ret L w := h
theorem At_block_ret {id : Nat} (h : At n Q .ret L w) : At n (Exit.inBlock id Q) .ret L w := h
end

/-! ### Contracts -/
def Callable (P : Program) (f : FuncId) : Prop := ∃ fn c, P.funcs[f]? = some fn ∧ (fn.name == "runtime.NumGoroutine") = false ∧ fn.body = some c

def Rq (R : Value → World → Prop) : Ending → World → Prop := fun e w' => ∃ v, e = .returned v ∧ R v w'

/-- The call returns a value as told. -/
def Ok (P : Program) (f : FuncId) (args : List Value) (w : World) (R : Value → World → Prop) : Prop :=
  Callable P f ∧ Calls P f args.toArray w (Rq R)

theorem Ok.mono {P : Program} {f : FuncId} {args : List Value} {w : World} {R R' : Value → World → Prop} (h : Ok P f args w R) (hr : ∀ v w', R v w' → R' v w') : Ok P f args w R' :=
  ⟨h.1, h.2.mono fun _ w' ⟨v, he, hv⟩ => ⟨v, he, hr v w' hv⟩⟩

def argEnv : Nat → List Value → Env
  | _, [] => []
  | k, v :: l => (k, v) :: argEnv (k + 1) l

theorem gt_argEnv : ∀ (l : List Value) (k t : Nat) (v : Value), gt (argEnv k l) t = some v → k ≤ t ∧ l[t - k]? = some v
  | [], _, _, _, h => by cases h
  | u :: l, k, t, v, h => by
    simp only [argEnv, gt_cons] at h
    by_cases e : k = t
    · subst e; rw [if_pos rfl] at h; cases h; simp
    · rw [if_neg e] at h
      have ⟨h1, h2⟩ := gt_argEnv l (k + 1) t v h
      refine ⟨by omega, ?_⟩
      have : t - k = (t - (k + 1)) + 1 := by omega
      rw [this, List.getElem?_cons_succ]
      exact h2

def bodyQ (P : Program) (fn : Func) (R : Value → World → Prop) : Exit → Act → World → Prop := bodyPost P fn (Rq R)

theorem Ok_enter {P : Program} {f : FuncId} {fn : Func} {c : Code} {args : List Value} {w : World} {R : Value → World → Prop} {n : Nat} (L : Env)
    (hf : P.funcs[f]? = some fn) (hname : (fn.name == "runtime.NumGoroutine") = false) (hb : fn.body = some c) (hn : fn.ntmps = n) (hk : Nat.ble args.length n = true) (hL : argEnv 0 args = L)
    (h : W P ⟨n, []⟩ c (bodyQ P fn R) L w) : Ok P f args w R := by
  refine ⟨⟨fn, c, hf, hname, hb⟩, calls_of_wp hf hb ?_⟩
  have hk' : args.length ≤ n := by simpa [Nat.ble_eq] using hk
  refine h _ ⟨?_, rfl, ?_⟩
  · simp [hn]; omega
  · intro t v ht
    subst hL
    have ⟨_, h2⟩ := gt_argEnv args 0 t v ht
    simp only [Nat.sub_zero] at h2
    have hlt : t < args.length := (List.getElem?_eq_some_iff.1 h2).1
    simp only [List.size_toArray]
    rw [Array.getElem?_append_left (by simpa using hlt)]
    simpa using h2

def resultOf : List ResultVar → Env → Option Value
  | [.tmp t], L => gt L t
  | [.tmp t, .tmp u], L => match gt L t, gt L u with | some a, some b => some (.tuple #[a, b]) | _, _ => none
  | [.tmp t, .tmp u, .tmp s], L => match gt L t, gt L u, gt L s with | some a, some b, some c => some (.tuple #[a, b, c]) | _, _, _ => none
  | _, _ => none

theorem results_of {P : Program} {fn : Func} {n : Sz} {a : Act} {L : Env} {w : World} {l : List ResultVar} {v : Value} (fr : Fr n a L) (hl : fn.results = l.toArray) (h : resultOf l L = some v) :
    (results fn a.tmps).run P w = .ok v w := by
  unfold resultOf at h
  split at h
  · rename_i t; rw [results_tmp hl]; have := fr.get t v h; simp [Array.getD_eq_getD_getElem?, this]
  · rename_i t u
    split at h
    · rename_i x y h1 h2; cases h
      rw [results_tmp2 hl]; have e1 := fr.get t x h1; have e2 := fr.get u y h2; simp [Array.getD_eq_getD_getElem?, e1, e2]
    · cases h
  · rename_i t u s
    split at h
    · rename_i x y z h1 h2 h3; cases h
      rw [results_tmp3 hl]; have e1 := fr.get t x h1; have e2 := fr.get u y h2; have e3 := fr.get s z h3; simp [Array.getD_eq_getD_getElem?, e1, e2, e3]
    · cases h
  · cases h

theorem At_body {P : Program} {fn : Func} {R : Value → World → Prop} {n : Nat} {L : Env} {w : World} {l : List ResultVar} {v : Value} (hl : fn.results = l.toArray) (h : resultOf l L = some v) (hR : R v w) : At ⟨n, []⟩ (bodyQ P fn R) .ret L w :=
  fun _ fr => ⟨fr.defers, v, results_of fr hl h, v, rfl, hR⟩
theorem At_body_end {P : Program} {fn : Func} {R : Value → World → Prop} {n : Nat} {L : Env} {w : World} {l : List ResultVar} {v : Value} (hl : fn.results = l.toArray) (h : resultOf l L = some v) (hR : R v w) : At ⟨n, []⟩ (bodyQ P fn R) .normal L w :=
  fun _ fr => ⟨fr.defers, v, results_of fr hl h, v, rfl, hR⟩

/-! ### Operations -/
section
variable {P : Program} {n : Sz} {ops : Array Oper} {Q : Exit → Act → World → Prop} {L : Env} {w : World} {rest : List Oper}
  {d : Nat} {ty : TypeId} {pos : String} {af : Array Edge}

def Rho (L : Env) (ρ : Operand → Value) : Prop := ∀ x u, ev L x = some u → ρ x = u
theorem Fr.rho {a : Act} (fr : Fr n a L) : Rho L a.eval := fun _ _ h => fr.eval h
theorem Rho.map {ρ : Operand → Value} (h : Rho L ρ) : ∀ (l : List Operand) (vs : List Value), evl L l = some vs → l.map ρ = vs
  | [], vs, e => by simp only [evl, Option.some.injEq] at e; simpa using e
  | x :: l, vs, e => by
    unfold evl at e
    split at e
    · rename_i v us h1 h2; cases e; simp [h x v h1, Rho.map h l us h2]
    · cases e

theorem S_nil (h : At n Q .normal L w) : S P n ops Q [] L w := fun a fr => h a fr
theorem S_seqnil {y : Code} (h : W P n y Q L w) : S P n ops (seqQ P y Q) [] L w := fun a fr => h a fr

theorem S_op {o : Oper} (hg : o.guard = none) (h : ∀ a, Fr n a L → o.wp P a w (wpList P ops Q rest) Q) : S P n ops Q (o :: rest) L w :=
  fun a fr => by
    unfold wpList
    rw [if_pos (by simp [Region.wanted, hg])]
    exact .inl (h a fr)

theorem S_value {o : Oper} {v : Value} {w' : World} (hg : o.guard = none) (hd : o.dst = some d) (hn : Nat.blt d n.n = true)
    (hrun : ∀ ρ, Rho L ρ → (execOp ρ o).run P w = .ok (.value v) w') (h : S P n ops Q rest ((d, v) :: L) w') : S P n ops Q (o :: rest) L w :=
  S_op hg fun a fr => by
    unfold Oper.wp
    rw [hrun _ fr.rho]
    show wpList P ops Q rest (a.put o.dst v) w'
    rw [hd]
    exact h _ (fr.put hn)

theorem S_value0 {o : Oper} {v : Value} {w' : World} (hg : o.guard = none) (hd : o.dst = none)
    (hrun : ∀ ρ, Rho L ρ → (execOp ρ o).run P w = .ok (.value v) w') (h : S P n ops Q rest L w') : S P n ops Q (o :: rest) L w :=
  S_op hg fun a fr => by
    unfold Oper.wp
    rw [hrun _ fr.rho]
    show wpList P ops Q rest (a.put o.dst v) w'
    rw [hd]
    exact h _ fr

theorem S_effect {o : Oper} {w' : World} (hg : o.guard = none) (hd : o.dst = none)
    (hrun : ∀ ρ, Rho L ρ → (execOp ρ o).run P w = .ok .skip w') (h : S P n ops Q rest L w') : S P n ops Q (o :: rest) L w :=
  S_op hg fun a fr => by
    unfold Oper.wp
    rw [hrun _ fr.rho]
    show wpList P ops Q rest (a.put o.dst undef) w'
    rw [hd]
    exact h _ fr

/-- An operation under a guard that says yes. -/
theorem S_guarded {dst : Option Tmp} {op : Op} {j : Nat} {want b : Bool} {t : Nat} (hj : ((ops[j]?).bind (·.dst)) = some t) (hb : gt L t = some (.bool b)) (hw : b = want)
    (h : S P n ops Q (⟨dst, op, ty, pos, af, none⟩ :: rest) L w) : S P n ops Q (⟨dst, op, ty, pos, af, some (j, want)⟩ :: rest) L w := fun a fr => by
  have h1 := h a fr
  simp only [wpList] at h1 ⊢
  have hy : yielded ops a.tmps j = some b := by simp [yielded, hj, fr.get t _ hb]
  have hwant : Region.wanted ⟨dst, op, ty, pos, af, some (j, want)⟩ (yielded ops a.tmps) = true := by simp [Region.wanted, hy, hw]
  rw [if_pos hwant]
  have h0 : Region.wanted ⟨dst, op, ty, pos, af, none⟩ (yielded ops a.tmps) = true := by simp [Region.wanted]
  rw [if_pos h0] at h1
  exact h1

/-- An operation under a guard that says no. -/
theorem S_unwanted {op : Op} {j : Nat} {want b : Bool} {t : Nat} (hj : ((ops[j]?).bind (·.dst)) = some t) (hb : gt L t = some (.bool b)) (hw : b = !want) (hn : Nat.blt d n.n = true)
    (h : S P n ops Q rest ((d, undef) :: L) w) : S P n ops Q (⟨some d, op, ty, pos, af, some (j, want)⟩ :: rest) L w := fun a fr => by
  simp only [wpList]
  have hy : yielded ops a.tmps j = some b := by simp [yielded, hj, fr.get t _ hb]
  have hwant : Region.wanted ⟨some d, op, ty, pos, af, some (j, want)⟩ (yielded ops a.tmps) = false := by simp [Region.wanted, hy, hw]
  rw [hwant]
  exact h _ (fr.put hn)
/-- The guard itself was passed over. -/
theorem S_unwanted2 {op : Op} {j : Nat} {want : Bool} {t : Nat} (hj : ((ops[j]?).bind (·.dst)) = some t) (hb : gt L t = some undef) (hn : Nat.blt d n.n = true)
    (h : S P n ops Q rest ((d, undef) :: L) w) : S P n ops Q (⟨some d, op, ty, pos, af, some (j, want)⟩ :: rest) L w := fun a fr => by
  simp only [wpList]
  have hy : yielded ops a.tmps j = none := by simp [yielded, hj, fr.get t _ hb, undef]
  have hwant : Region.wanted ⟨some d, op, ty, pos, af, some (j, want)⟩ (yielded ops a.tmps) = false := by simp [Region.wanted, hy]
  rw [hwant]
  exact h _ (fr.put hn)
end
end Go.E
