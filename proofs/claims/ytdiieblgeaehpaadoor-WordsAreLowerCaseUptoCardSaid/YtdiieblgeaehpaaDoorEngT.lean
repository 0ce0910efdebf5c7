/- Range over a function: regions in which yield is called, a round, the statement itself. No program in sight. -/
import Derived.Test.YtdiieblgeaehpaaDoorEngS
import Derived.RangeFuncSeq
import Derived.RangeFuncLeaves
import Derived.RangeFuncCalls
import Derived.OrdersIn
import Derived.Scope
namespace Go.E
open Go Go.RowKit

/-- The post lets nothing outgrow. -/
def NoOut (Q : Exit → Act → World → Prop) : Prop := ∀ a w, ¬ Q .outgrown a w
section
variable {P : Program} {n : Sz} {Q : Exit → Act → World → Prop} {L : Env} {w : World}
theorem no_body {fn : Func} {R : Value → World → Prop} : NoOut (bodyQ P fn R) := fun _ _ ⟨_, h, _⟩ => by cases h
theorem no_bodyX {fn : Func} {pv : Value} {R : Option Value → World → Prop} : NoOut (bodyX P fn pv R) := fun _ _ h => h
theorem no_seq {y : Code} (h : NoOut Q) : NoOut (seqQ P y Q) := fun a w k => h a w k
theorem no_cut {σ : Type} {I : σ → Env} {R : σ → World → Prop} (h : NoOut Q) : NoOut (cutQ n I R Q) := fun a w k => h a w k
theorem no_loop {σ : Type} {I : σ → Env} {R : σ → World → Prop} {μ : σ → Nat} {x : σ} (h : NoOut Q) : NoOut (loopQ n I R μ x Q) := fun a w k => h a w k
theorem no_block {id : Nat} (h : NoOut Q) : NoOut (Exit.inBlock id Q) := fun a w k => h a w k
theorem no_scope (h : NoOut Q) : NoOut (Exit.noGoto Q) := fun a w k => h a w k

/-! ### Scopes and labels that nobody jumps to -/
theorem W_scope {c : Code} (h : W P n c (Exit.noGoto Q) L w) : W P n (.scope c) Q L w := fun a fr => wp_scope_straight (h a fr)
theorem W_label {l : Nat} (h : At n Q .normal L w) : W P n (.label l) Q L w := fun a fr => wp_label (h a fr)
theorem At_scope (h : At n Q .normal L w) : At n (Exit.noGoto Q) .normal L w := h
theorem At_scope_exit {id : Nat} (h : At n Q (.exit id) L w) : At n (Exit.noGoto Q) (.exit id) L w := h
theorem At_scope_ret (h : At n Q .ret L w) : At n (Exit.noGoto Q) .ret L w := h
theorem At_scope_panic {c : List PanicEntry} (h : At n Q (.panic c) L w) : At n (Exit.noGoto Q) (.panic c) L w := h
theorem np_scope (h : NoPanic Q) : NoPanic (Exit.noGoto Q) := fun c a d v w k => h c a d v w k
end

/-! ### Operations inside a fence that lets everything in -/
/-- The wide fence, for a frame of a function or of a round. -/
def Wid (F : Fence) : Prop := F = Fence.wide ∨ ∃ l, F = Fence.wide.inRound l
theorem Wid.fn {F : Fence} (h : Wid F) (f : FuncId) : F.fn f := by rcases h with rfl | ⟨l, rfl⟩ <;> exact trivial
theorem Wid.dep {F : Fence} (h : Wid F) : F.depth = none := by rcases h with rfl | ⟨l, rfl⟩ <;> rfl
theorem Wid.calls {F : Fence} (h : Wid F) {n : Nat} {P : Program} {f : FuncId} {args : Array Value} {w : World} {R : Ending → World → Prop} (k : Calls P f args w R) : CallsIn F n P f args w R := by
  rcases h with rfl | ⟨l, rfl⟩
  · exact callsIn_wide.2 k
  · exact (callsIn_wide.2 k).inRound l
theorem Wid.rows {F : Fence} (h : Wid F) {n : Nat} {P : Program} {row : String} {args : Array Value} {w : World} {R : Value → World → Prop} (k : Rows P row args w R) : RowsIn F n P row args w R := by
  intro c cs _
  obtain ⟨v, w', hR, hs⟩ := k c cs
  refine ⟨v, w', hR, ?_⟩
  rcases h with rfl | ⟨l, rfl⟩
  · exact stepsIn_wide.2 hs
  · rw [fenced_inRound]; exact stepsIn_wide.2 hs

def isDefer : Op → Bool
  | .defer _ => true
  | _ => false
theorem notDefer {o : Op} (h : isDefer o = false) : ∀ c, o ≠ .defer c := fun c e => by subst e; cases h
section
variable {P : Program} {n : Sz} {ops : Array Oper} {Q : Exit → Act → World → Prop} {L : Env} {w : World} {rest : List Oper}
theorem wpIn_of_wp {F : Fence} (hF : Wid F) {o : Oper} (hd : isDefer o.op = false) {next : Act → World → Prop} {a : Act} (h : o.wp P a w next Q) : o.wpIn F 0 P a w next Q := by
  refine ⟨fun f _ => hF.fn f, ?_⟩
  rw [Oper.semAt_eq _ _ _ (notDefer hd)]
  unfold Oper.wp at h
  generalize (execOp a.eval o).run P w = r at h ⊢
  have hd0 : F.depth.isSome = true → 1 ≤ 0 := fun e => by rw [hF.dep] at e; cases e
  cases r with
  | ok nx w' =>
    cases nx <;> simp only [Oper.upon] at h <;> simp only [Oper.uponIn]
    case value v => exact h
    case skip => exact h
    case defer d => exact h
    case enter f args => exact ⟨hd0, (hF.calls h).mono fun e w' k => by cases e <;> exact k⟩
    case row row args => exact ⟨hd0, hF.rows h⟩
  | halt x w' => cases x <;> simp only [Oper.upon] at h <;> simp only [Oper.uponIn]; exact h
theorem wpListIn_of_wpList {F : Fence} (hF : Wid F) (hq : NoOut Q) : ∀ (l : List Oper) (a : Act) (w : World), l.all (fun o => !isDefer o.op) = true → wpList P ops Q l a w → wpListIn F 0 P ops Q l a w
  | [], _, _, _, h => h
  | o :: l, a, w, hd, h => by
    simp only [List.all_cons, Bool.and_eq_true, Bool.not_eq_true'] at hd
    simp only [wpList] at h
    simp only [wpListIn]
    split
    · rename_i hw
      rw [if_pos hw] at h
      rcases h with h | ⟨_, a', w', h⟩
      · have h1 := wpIn_of_wp hF hd.1 h
        exact Oper.wpIn_mono (fun a w k => wpListIn_of_wpList hF hq l a w (by simpa using hd.2) k) h1
      · exact absurd h (hq a' w')
    · rename_i hw
      rw [if_neg hw] at h
      exact ⟨fun f _ => hF.fn f, wpListIn_of_wpList hF hq l _ _ (by simpa using hd.2) h⟩

/-! ### A region in which yield is called -/
def SY (P : Program) (n : Sz) (ops : Array Oper) (Q : Exit → Act → World → Prop) (l : List Oper) (L : Env) (w : World) : Prop := ∀ a, Fr n a L → wpListIn Fence.wide 0 P ops Q l a w
def yQ (P : Program) (ops : Array Oper) (Q : Exit → Act → World → Prop) (rest : List Oper) : Exit → Act → World → Prop := Exit.then (fun a w => wpListIn Fence.wide 0 P ops Q rest a w) Q
theorem W_regY {id : Nat} {l : List Oper} (h : SY P n l.toArray Q l L w) : W P n (.region id l.toArray false) Q L w := fun a fr => (wpIn_wide (n := 0)).1 (wpIn_region_lit (h a fr))
theorem W_seqY {id : Nat} {l : List Oper} {y : Code} (h : SY P n l.toArray (seqQ P y Q) l L w) : W P n (.seq (.region id l.toArray false) y) Q L w := W_seq (W_regY h)
theorem SY_nil (h : At n Q .normal L w) : SY P n ops Q [] L w := fun a fr => h a fr
theorem SY_seqnil {y : Code} (h : W P n y Q L w) : SY P n ops (seqQ P y Q) [] L w := fun a fr => h a fr
theorem SY_op {o : Oper} (hq : NoOut Q) (hd : isDefer o.op = false) (h : S P n ops (yQ P ops Q rest) [o] L w) : SY P n ops Q (o :: rest) L w := fun a fr => by
  have h1 := h a fr
  simp only [wpList] at h1
  simp only [wpListIn]
  split
  · rename_i hw
    rw [if_pos hw] at h1
    rcases h1 with h1 | ⟨_, a', w', h1⟩
    · have h2 := wpIn_of_wp (.inl rfl) hd h1
      have hm : ∀ {r : Result Next}, o.uponIn Fence.wide 0 P a (fun a w => yQ P ops Q rest .normal a w) (yQ P ops Q rest) r → o.uponIn Fence.wide 0 P a (wpListIn Fence.wide 0 P ops Q rest) Q r := by
        intro r hr
        cases r with
        | ok nx w' => cases nx <;> exact hr
        | halt x w' => cases x <;> exact hr
      exact ⟨h2.1, hm h2.2⟩
    · exact absurd h1 (hq a' w')
  · rename_i hw
    rw [if_neg hw] at h1
    exact ⟨fun _ _ => trivial, h1⟩
theorem SY_back (h : SY P n ops Q rest L w) : S P n ops (yQ P ops Q rest) [] L w := fun a fr => h a fr
theorem SY_split {s : Nat} {b : Bool} (_hb : gt L s = some (.bool b)) (h1 : b = true → SY P n ops Q rest L w) (h2 : b = false → SY P n ops Q rest L w) : SY P n ops Q rest L w := by
  cases b
  · exact h2 rfl
  · exact h1 rfl
/-- A call of yield whose round hands back true. -/
theorem SY_yield {d l : Nat} {fo : Operand} {args : List Operand} {vs : List Value} {at_ : Array TypeId} {ty : TypeId} {pos : String} {af : Array Edge} {R : World → Prop} (hf : ev L fo = some (.func (.yield l) #[] #[])) (ha : evl L args = some vs) (hn : Nat.blt d n.n = true)
    (hy : YieldAt Fence.wide 0 P l vs.toArray w (fun e w' => e = .returned (.bool true) ∧ R w')) (h : ∀ w', R w' → SY P n ops Q rest ((d, .bool true) :: L) w') : SY P n ops Q (⟨some d, .call ⟨.value fo, args.toArray, at_⟩, ty, pos, af, none⟩ :: rest) L w := fun a fr => by
  obtain ⟨fn, tmps, assign, body, hrun, hround⟩ := hy
  simp only [wpListIn]
  rw [if_pos (by simp [Region.wanted])]
  refine ⟨fun _ _ => trivial, ?_⟩
  have e1 := fr.rho.map _ _ ha
  have e : (Oper.semAt Fence.wide.round a.eval ⟨some d, .call ⟨.value fo, args.toArray, at_⟩, ty, pos, af, none⟩).run P w = .ok (.round l fn tmps assign body) w := by
    rw [Oper.semAt_eq _ _ _ (fun c h => by cases h)]
    simp [execOp, resolve, fr.rho fo _ hf, Deferred.ofValue, invoke, e1, hrun]
  rw [e]
  refine ⟨fun h => by simp [Fence.wide] at h, hround.mono fun e w' ⟨he, hR⟩ => ?_⟩
  subst he
  exact h w' hR _ (fr.put hn)
theorem SY_guarded {dst : Option Tmp} {op : Op} {j : Nat} {want b : Bool} {t : Nat} {ty : TypeId} {pos : String} {af : Array Edge} (hj : ((ops[j]?).bind (·.dst)) = some t) (hb : gt L t = some (.bool b)) (hw : b = want)
    (h : SY P n ops Q (⟨dst, op, ty, pos, af, none⟩ :: rest) L w) : SY P n ops Q (⟨dst, op, ty, pos, af, some (j, want)⟩ :: rest) L w := fun a fr => by
  have h1 := h a fr
  simp only [wpListIn] at h1 ⊢
  have hy : yielded ops a.tmps j = some b := by simp [yielded, hj, fr.get t _ hb]
  have hwant : Region.wanted ⟨dst, op, ty, pos, af, some (j, want)⟩ (yielded ops a.tmps) = true := by simp [Region.wanted, hy, hw]
  rw [if_pos hwant]
  have h0 : Region.wanted ⟨dst, op, ty, pos, af, none⟩ (yielded ops a.tmps) = true := by simp [Region.wanted]
  rw [if_pos h0] at h1
  exact h1
end

/-! ### A loop whose rounds append the element to a slice in a variable -/
/-- What such a loop owns: its record, the block of its deferred calls, the variable, the slice's row. -/
abbrev yR (l D b : Nat) (rec : Loop) (tb te : TypeId) (sz : Nat) (v : Value) (k : Nat) (xs : List Value) : List Res :=
  [.obj l (.loop rec), .obj D (.deferred (some [])), .box b [v] tb, .row v te sz k xs]
/-- A call of its yield appends. -/
def YSpec (P : Program) {α : Type} (r : Rp α) (sz bt : Nat) (l D b : Nat) (rec : Loop) (tb te : TypeId) : Prop :=
  ∀ {w0 w : World} {H : PH} {O : List Res} {v u : Value} {xs c : List Value} {l0 : List α} {x : α}, Le H (hp w0) → Lcl w0 (yR l D b rec tb te sz v l0.length xs ++ O) w →
    Elems r (gz H w0 w (yR l D b rec tb te sz v l0.length xs ++ O)) l0 xs → u.cells.toList = c → r.rel (gz H w0 w (yR l D b rec tb te sz v l0.length xs ++ O)) x c → Cap bt (l0.length + 1) →
    YieldAt Fence.wide 0 P l #[u] w (fun e w' => e = .returned (.bool true) ∧ ∃ v' xs', Lcl w0 (yR l D b rec tb te sz v' (l0 ++ [x]).length xs' ++ O) w' ∧
      Le (fz w (yR l D b rec tb te sz v l0.length xs ++ O)) (fz w' (yR l D b rec tb te sz v' (l0 ++ [x]).length xs' ++ O)) ∧ Elems r (gz H w0 w' (yR l D b rec tb te sz v' (l0 ++ [x]).length xs' ++ O)) (l0 ++ [x]) xs')

/-- A round's code. -/
def WR (P : Program) (l : Nat) (n : Sz) (c : Code) (Q : Exit → Act → World → Prop) (L : Env) (w : World) : Prop := ∀ a, Fr n a L → c.wpIn (Fence.wide.inRound l) 0 P Q a w
section
variable {P : Program} {j : Nat} {n : Sz} {Q : Exit → Act → World → Prop} {L : Env} {w : World}
theorem WR_region {id : Nat} {l : List Oper} (hd : l.all (fun o => !isDefer o.op) = true) (hq : NoOut Q) (h : S P n l.toArray Q l L w) : WR P j n (.region id l.toArray false) Q L w := fun a fr =>
  wpIn_region_lit (wpListIn_of_wpList (.inr ⟨j, rfl⟩) hq l a w hd (h a fr))
theorem WR_block {id : Nat} {c : Code} (h : WR P j n c (Exit.inBlock id Q) L w) : WR P j n (.block id c) Q L w := fun a fr => wpIn_block (h a fr)

/-- An object that is owned is turned into another one. -/
theorem Lcl.putAt {w0 : World} {O : List Res} {i b : Nat} {o : Obj} (o' : Obj) (hL : Lcl w0 O w) (hi : nthR O i = some (.obj b o)) : Lcl w0 (setR O i (.obj b o')) (w.putObj b o') ∧ Le (fz w O) (fz (w.putObj b o') (setR O i (.obj b o'))) := by
  have hg : w.grownBy (w.putObj b o') (some b) := ⟨rfl, rfl, rfl, by simp, fun k _ hk => World.putObj_heap_other (fun e => hk (by rw [e]))⟩
  have hlt : b < w.heap.size := (hL.at hi).lt rfl
  exact ⟨hL.turnAt hi (Nat.le_refl _) hg (World.putObj_heap_same hlt) (fun k e => .inl e), fz_turnAt hL hi hg (fun k e => .inl e)⟩

/-- What is asked behind the assignment of a round: the record is busy from now on. -/
def begQ (P : Program) (l : Nat) (body : Code) (R : Ending → World → Prop) : Exit → Act → World → Prop :=
  Exit.then (fun a₁ w₁ => ∃ w₂, (Instr.beginRound l).run P w₁ = .ok () w₂ ∧ body.wpIn (Fence.wide.inRound l) 0 P (roundPost P l R) a₁ w₂) (fun _ _ _ => False)
theorem no_begQ {l : Nat} {body : Code} {R : Ending → World → Prop} : NoOut (begQ P l body R) := fun _ _ h => h
theorem no_round {l : Nat} {R : Ending → World → Prop} : NoOut (roundPost P l R) := fun _ _ h => h
theorem At_begin {l i : Nat} {rec : Loop} {body : Code} {R : Ending → World → Prop} {w0 : World} {O : List Res} (hst : rec.state = .ready) (hL : Lcl w0 O w) (hi : nthR O i = some (.obj l (.loop rec)))
    (h : ∀ w', Lcl w0 (setR O i (.obj l (.loop { rec with state := .busy }))) w' → Le (fz w O) (fz w' (setR O i (.obj l (.loop { rec with state := .busy })))) → WR P l n body (roundPost P l R) L w') : At n (begQ P l body R) .normal L w := fun a fr => by
  have h1 := hL.at hi
  have hp := hL.putAt (.loop { rec with state := .busy }) hi
  exact ⟨_, run_beginRound h1 hst, h _ hp.1 hp.2 a fr⟩
theorem At_round_end {l i : Nat} {rec : Loop} {R : Ending → World → Prop} {w0 : World} {O : List Res} (hL : Lcl w0 O w) (hi : nthR O i = some (.obj l (.loop rec)))
    (h : ∀ w', Lcl w0 (setR O i (.obj l (.loop { rec with state := .ready, pending := none }))) w' → Le (fz w O) (fz w' (setR O i (.obj l (.loop { rec with state := .ready, pending := none })))) → R (.returned (.bool true)) w') : At n (roundPost P l R) .normal L w := fun a _ => by
  have h1 := hL.at hi
  have hp := hL.putAt (.loop { rec with state := .ready, pending := none }) hi
  exact ⟨_, _, run_endRound none h1, h _ hp.1 hp.2⟩

/-- The contract of yield out of its round's code. -/
theorem ySpec_of {α : Type} {r : Rp α} {sz bt l D b p k : Nat} {rec : Loop} {tb te : TypeId} {Lr : Env} (_hst : rec.state = .ready) (_hpe : rec.pending = none) (hps : rec.params = #[p]) (fr : Fr ⟨k, []⟩ ⟨rec.tmps, []⟩ Lr) (hpk : Nat.blt p k = true)
    (hround : ∀ {w0 w : World} {H : PH} {O : List Res} {v u : Value} {xs c : List Value} {l0 : List α} {x : α}, Le H (hp w0) → Lcl w0 (yR l D b rec tb te sz v l0.length xs ++ O) w →
      Elems r (gz H w0 w (yR l D b rec tb te sz v l0.length xs ++ O)) l0 xs → u.cells.toList = c → r.rel (gz H w0 w (yR l D b rec tb te sz v l0.length xs ++ O)) x c → Cap bt (l0.length + 1) →
      WR P l ⟨k, []⟩ rec.assign (begQ P l rec.body (fun e w' => e = .returned (.bool true) ∧ ∃ v' xs', Lcl w0 (yR l D b rec tb te sz v' (l0 ++ [x]).length xs' ++ O) w' ∧
        Le (fz w (yR l D b rec tb te sz v l0.length xs ++ O)) (fz w' (yR l D b rec tb te sz v' (l0 ++ [x]).length xs' ++ O)) ∧ Elems r (gz H w0 w' (yR l D b rec tb te sz v' (l0 ++ [x]).length xs' ++ O)) (l0 ++ [x]) xs')) ((p, u) :: Lr) w) :
    YSpec P r sz bt l D b rec tb te := fun {w0 w H O v u xs c l0 x} hH hL he hu hx hc => by
  refine ⟨rec.fn, _, rec.assign, rec.body, run_yield (hL.at (i := 0) rfl) (by rw [hps]; rfl), roundIn_of_wpIn trivial ?_⟩
  rw [hps]
  have e : ((#[p] : Array Tmp).zip #[u]).foldl (fun tmps (x : Tmp × Value) => tmps.setIfInBounds x.1 x.2) rec.tmps = rec.tmps.setIfInBounds p u := by simp
  rw [show _ = _ from e]
  exact hround hH hL he hu hx hc _ (fr.put (d := p) (v := u) hpk)

/-- The statement, around a call that leaves the loop's record as it is and calls yield only. -/
theorem W_range {g : FuncId} {cap : List Value} {go : Operand} {ps : Array Tmp} {assign body : Code} (hg : ev L go = some (.func (.func g) #[] cap.toArray)) (hc : Callable P g) {w0 : World} {O : List Res} (hL : Lcl w0 O w)
    (h : ∀ (a : Act), Fr n a L → ∀ (fn : FuncId) (l D : Nat) (w1 : World) (rec : Loop), rec = { state := .ready, pending := none, fn, tmps := a.tmps, params := ps, assign, body, defers := D } →
      Lcl w0 (.obj l (.loop rec) :: .obj D (.deferred (some [])) :: O) w1 → Le (fz w O) (fz w1 (.obj l (.loop rec) :: .obj D (.deferred (some [])) :: O)) →
      Calls P g (#[.func (.yield l) #[] #[]] ++ cap.toArray) w1 (fun e w2 => (∃ v, e = .returned v) ∧ ∃ O', Lcl w0 (.obj l (.loop rec) :: O') w2 ∧
        ∀ w3, Lcl w0 (.obj l (.loop { rec with state := .exhausted }) :: O') w3 → Le (fz w2 (.obj l (.loop rec) :: O')) (fz w3 (.obj l (.loop { rec with state := .exhausted }) :: O')) →
          At ⟨n.n, { target := .collected D, args := #[] } :: n.d⟩ Q .normal L w3)) : W P n (.rangeFunc go ps assign body) Q L w := fun a fr => by
  refine (wpIn_wide (n := 0)).1 (wpIn_rangeFunc fun fn _ => ?_)
  obtain ⟨fn', c, h1, h2, h3⟩ := hc
  have h2' : ¬ fn'.name = "runtime.NumGoroutine" := by simpa using h2
  have n1 := hL.new (r := .obj w.heap.size (.deferred (some []))) (ext_alloc w (.deferred (some []))) (show (w.alloc _).heap[w.heap.size]? = _ from World.alloc_heap_new w _) (fun b hb => by cases hb; exact Nat.le_refl _)
  have f1 := fz_new hL (r := .obj w.heap.size (.deferred (some []))) (ext_alloc w (.deferred (some []))) (fun b hb => by cases hb; exact Nat.le_refl _)
  have hs : (w.alloc (.deferred (some []))).heap.size = w.heap.size + 1 := by simp
  have n2 := n1.new (r := .obj (w.heap.size + 1) (.loop { state := .ready, pending := none, fn, tmps := a.tmps, params := ps, assign, body, defers := w.heap.size })) (ext_alloc _ _)
    (by rw [← hs]; exact World.alloc_heap_new _ _) (fun b hb => by cases hb; exact Nat.le_of_eq hs)
  have f2 := fz_new n1 (r := .obj (w.heap.size + 1) (.loop { state := .ready, pending := none, fn, tmps := a.tmps, params := ps, assign, body, defers := w.heap.size })) (ext_alloc _ (.loop { state := .ready, pending := none, fn, tmps := a.tmps, params := ps, assign, body, defers := w.heap.size }))
    (fun b hb => by cases hb; exact Nat.le_of_eq hs)
  obtain ⟨W1, hW1⟩ : ∃ W1, W1 = (w.alloc (.deferred (some []))).alloc (.loop { state := .ready, pending := none, fn, tmps := a.tmps, params := ps, assign, body, defers := w.heap.size }) := ⟨_, rfl⟩
  rw [← hW1] at n2 f2
  have hcall := h a fr fn (w.heap.size + 1) w.heap.size W1 _ rfl n2 (f1.trans f2)
  refine ⟨w.heap.size + 1, [{ target := .collected w.heap.size, args := #[] }], W1, { target := .fn (.func g) cap.toArray, args := #[.func (.yield (w.heap.size + 1)) #[] #[]] }, W1, g, #[.func (.yield (w.heap.size + 1)) #[] #[]] ++ cap.toArray, W1, by rw [hW1]; exact run_enterLoop_outer _ _ _ _ _, ?_, fun _ _ => trivial, ?_, fun e => by simp [Fence.wide] at e, ?_⟩
  · have hgo := fr.rho go _ hg
    simp only [resolve, hgo]
    simp [Deferred.ofValue, Act.eval]
  · simp [invoke, callFunc, h1, h2', h3]
  · refine (callsIn_wide.2 hcall).mono fun e w2 ⟨⟨v, he⟩, O', hL2, hk⟩ => ?_
    subst he
    have hp := hL2.putAt (i := 0) (.loop { state := .exhausted, pending := none, fn, tmps := a.tmps, params := ps, assign, body, defers := w.heap.size }) rfl
    refine ⟨none, _, run_endLoop (hL2.at (i := 0) rfl) (by simp), ?_⟩
    exact hk _ hp.1 hp.2 { a with defers := [{ target := .collected w.heap.size, args := #[] }] ++ a.defers } ⟨fr.size, by rw [fr.defers]; rfl, fr.get⟩

/-! ### The function that holds the statement -/
def bodyM (P : Program) (fn : Func) (R : Value → World → Prop) : Exit → Act → World → Prop := bodyPostM Fence.wide 0 P fn (Rq R)
theorem OkM_enter {f : FuncId} {fn : Func} {c : Code} {args : List Value} {R : Value → World → Prop} {k : Nat} (L : Env)
    (hf : P.funcs[f]? = some fn) (hname : (fn.name == "runtime.NumGoroutine") = false) (hb : fn.body = some c) (hn : fn.ntmps = k) (hk : Nat.ble args.length k = true) (hL : argEnv 0 args = L)
    (h : W P ⟨k, []⟩ c (bodyM P fn R) L w) : Ok P f args w R :=
  ⟨⟨fn, c, hf, hname, hb⟩, callsIn_wide.1 (callsIn_of_wp_marks hf hb trivial ((wpIn_wide (n := 0)).2 (h _ (by rw [hn]; exact args_fr hk hL))))⟩
theorem At_retM {k D i : Nat} {fn : Func} {R : Value → World → Prop} {l : List ResultVar} {v : Value} {w0 : World} {O : List Res} (hl : fn.results = l.toArray) (hr : resultOf l L = some v) (hL : Lcl w0 O w) (hi : nthR O i = some (.obj D (.deferred (some []))))
    (h : ∀ w', Lcl w0 (setR O i (.obj D (.deferred none))) w' → Le (fz w O) (fz w' (setR O i (.obj D (.deferred none)))) → R v w') : At ⟨k, [{ target := .collected D, args := #[] }]⟩ (bodyM P fn R) .ret L w := fun a fr => by
  show LeavesInM Fence.wide 0 P fn a.tmps (Rq R) a.defers .returning w
  rw [fr.defers]
  have hp := hL.putAt (.deferred none) hi
  exact ⟨by simp, .inl ⟨_, _, rfl, run_takeDeferred (hL.at hi), v, results_of fr hl hr, v, rfl, h _ hp.1 hp.2⟩⟩
end
end Go.E
