/- Calls that may panic with a value that is known, and deferred calls that recover. No program in sight. -/
import Derived.Test.YtdiieblgeaehpaaGreatDoorEngR
import Derived.Recover
import Derived.RangeFuncSeq
import Derived.RangeFuncLeaves
import Derived.RangeFuncCalls
import Derived.OrdersIn
import Derived.Scope
namespace Go.L
/-- What may have panicked: none leads to ex. -/
def onX {α β : Type} (x : Option α) (ex : Option β) (k : α → Option β) : Option β := match x with
  | none => ex
  | some y => k y
theorem onX_none {α β : Type} {ex : Option β} {k : α → Option β} {e : β} (h : onX none ex k = some e) : ex = some e := h
theorem onX_some {α β : Type} {y : α} {ex : Option β} {k : α → Option β} {e : β} (h : onX (some y) ex k = some e) : k y = some e := h
end Go.L
namespace Go.E
open Go Go.RowKit
/-- What a call that may panic yields, against what the plain function tells. -/
def XPo {α : Type} (r : Option α) (v : Option Value) (R : α → Value → Prop) (N : Prop) : Prop := match r, v with
  | none, none => N
  | some x, some u => R x u
  | _, _ => False
theorem XPo_some {α : Type} {x : α} {u : Value} {R : α → Value → Prop} {N : Prop} (h : R x u) : XPo (some x) (some u) R N := h
theorem XPo_none {α : Type} {R : α → Value → Prop} {N : Prop} (h : N) : XPo none none R N := h
/-- One panic, not recovered. -/
abbrev pch (v : Value) : List PanicEntry := [{ v := v, recovered := false }]
/-- The same one, recovered. -/
abbrev pchR (v : Value) : List PanicEntry := [{ v := v, recovered := true }]
/-- The ending of a call that may panic with this value (then: none). -/
def RqX (pv : Value) (R : Option Value → World → Prop) : Ending → World → Prop
  | .returned v, w => R (some v) w
  | .panicked c, w => c = pch pv ∧ R none w
  | .outgrown, _ => False
def OkX (P : Program) (f : FuncId) (args : List Value) (w : World) (pv : Value) (R : Option Value → World → Prop) : Prop :=
  Callable P f ∧ Calls P f args.toArray w (RqX pv R)
theorem OkX.mono {P : Program} {f : FuncId} {args : List Value} {w : World} {pv : Value} {R R' : Option Value → World → Prop} (h : OkX P f args w pv R) (hr : ∀ v w', R v w' → R' v w') : OkX P f args w pv R' :=
  ⟨h.1, h.2.mono fun e w' k => by
    cases e with
    | returned v => exact hr _ _ k
    | panicked c => exact ⟨k.1, hr _ _ k.2⟩
    | outgrown => exact k⟩
def bodyX (P : Program) (fn : Func) (pv : Value) (R : Option Value → World → Prop) : Exit → Act → World → Prop := bodyPost P fn (RqX pv R)
def bodyD (P : Program) (fn : Func) (R : Value → World → Prop) : Exit → Act → World → Prop := bodyPostD P fn (Rq R)
theorem args_fr {args : List Value} {L : Env} {k : Nat} (hk : Nat.ble args.length k = true) (hL : argEnv 0 args = L) : Fr ⟨k, []⟩ { tmps := args.toArray ++ Array.replicate (k - args.toArray.size) undef, defers := [] } L := by
  have hk' : args.length ≤ k := by simpa [Nat.ble_eq] using hk
  refine ⟨?_, rfl, ?_⟩
  · simp; omega
  · intro t v ht
    subst hL
    have ⟨_, h2⟩ := gt_argEnv args 0 t v ht
    simp only [Nat.sub_zero] at h2
    have hlt : t < args.length := (List.getElem?_eq_some_iff.1 h2).1
    simp only [List.size_toArray]
    rw [Array.getElem?_append_left (by simpa using hlt)]
    simpa using h2
theorem OkX_enter {P : Program} {f : FuncId} {fn : Func} {c : Code} {args : List Value} {w : World} {pv : Value} {R : Option Value → World → Prop} {n : Nat} (L : Env)
    (hf : P.funcs[f]? = some fn) (hname : (fn.name == "runtime.NumGoroutine") = false) (hb : fn.body = some c) (hn : fn.ntmps = n) (hk : Nat.ble args.length n = true) (hL : argEnv 0 args = L)
    (h : W P ⟨n, []⟩ c (bodyX P fn pv R) L w) : OkX P f args w pv R :=
  ⟨⟨fn, c, hf, hname, hb⟩, calls_of_wp hf hb (h _ (by rw [hn]; exact args_fr hk hL))⟩
theorem OkD_enter {P : Program} {f : FuncId} {fn : Func} {c : Code} {args : List Value} {w : World} {R : Value → World → Prop} {n : Nat} (L : Env)
    (hf : P.funcs[f]? = some fn) (hname : (fn.name == "runtime.NumGoroutine") = false) (hb : fn.body = some c) (hn : fn.ntmps = n) (hk : Nat.ble args.length n = true) (hL : argEnv 0 args = L)
    (h : W P ⟨n, []⟩ c (bodyD P fn R) L w) : Ok P f args w R :=
  ⟨⟨fn, c, hf, hname, hb⟩, calls_of_wp_defers hf hb (h _ (by rw [hn]; exact args_fr hk hL))⟩
section
variable {P : Program} {n : Sz} {ops : Array Oper} {Q : Exit → Act → World → Prop} {L : Env} {w : World} {rest : List Oper} {d : Nat} {dst : Option Tmp} {ty : TypeId} {pos : String} {af : Array Edge} {pv : Value}
/-- 'panic(x)'. -/
theorem S_panic {x : Operand} {t : TypeId} {u : Value} (hx : ev L x = some pv) (hp : pv = .iface t u) (h : At n Q (.panic (pch pv)) L w) : S P n ops Q (⟨dst, .panic x, ty, pos, af, none⟩ :: rest) L w :=
  S_op rfl fun a fr => by
    unfold Oper.wp
    have e : (execOp a.eval ⟨dst, .panic x, ty, pos, af, none⟩).run P w = .halt (.panic pv) w := by
      subst hp
      simp [execOp, fr.rho x _ hx, Instr.panic, goPanic]
    rw [e]
    exact h a fr
/-- A call that may panic. -/
theorem S_callX {f : FuncId} {args : List Operand} {vs : List Value} {at_ : Array TypeId} {R : Option Value → World → Prop} (ha : evl L args = some vs) (hn : Nat.blt d n.n = true) (hok : OkX P f vs w pv R)
    (h0 : ∀ w', R none w' → At n Q (.panic (pch pv)) L w') (h : ∀ v w', R (some v) w' → S P n ops Q rest ((d, v) :: L) w') : S P n ops Q (⟨some d, .call ⟨.value (.func f), args.toArray, at_⟩, ty, pos, af, none⟩ :: rest) L w :=
  S_op rfl fun a fr => by
    unfold Oper.wp
    rw [run_call hok.1 ha _ fr.rho]
    refine hok.2.mono fun e w' k => ?_
    cases e with
    | returned v => exact h v w' k _ (fr.put hn)
    | panicked c => obtain ⟨rfl, k⟩ := k; exact h0 w' k a fr
    | outgrown => exact k.elim
/-- The same, in the caller's frame. -/
theorem S_callXF {α : Type} {r : Option α} {f : FuncId} {args : List Operand} {vs : List Value} {at_ : Array TypeId} {R : World → α → Value → Prop} {N : World → Prop} (ha : evl L args = some vs) (hn : Nat.blt d n.n = true)
    (hok : OkX P f vs w pv (fun v w' => XPo r v (R w') (N w'))) (h0 : r = none → ∀ w', N w' → At n Q (.panic (pch pv)) L w')
    (h : ∀ y, r = some y → ∀ v w', R w' y v → S P n ops Q rest ((d, v) :: L) w') : S P n ops Q (⟨some d, .call ⟨.value (.func f), args.toArray, at_⟩, ty, pos, af, none⟩ :: rest) L w :=
  S_callX ha hn hok (fun w' hr => by
    cases r with
    | none => exact h0 rfl w' hr
    | some y => exact hr.elim) (fun v w' hr => by
    cases r with
    | none => exact hr.elim
    | some y => exact h y rfl v w' hr)
theorem At_seq_panic {y : Code} {c : List PanicEntry} (h : At n Q (.panic c) L w) : At n (seqQ P y Q) (.panic c) L w := h
theorem At_cut_panic {σ : Type} {I : σ → Env} {R : σ → World → Prop} {c : List PanicEntry} (h : At n Q (.panic c) L w) : At n (cutQ n I R Q) (.panic c) L w := h
theorem At_loop_panic {σ : Type} {I : σ → Env} {R : σ → World → Prop} {μ : σ → Nat} {s0 : σ} {c : List PanicEntry} (h : At n Q (.panic c) L w) : At n (loopQ n I R μ s0 Q) (.panic c) L w := h
theorem At_block_panic {id : Nat} {c : List PanicEntry} (h : At n Q (.panic c) L w) : At n (Exit.inBlock id Q) (.panic c) L w := h
theorem At_retX {k : Nat} {fn : Func} {R : Option Value → World → Prop} (h : At ⟨k, []⟩ (bodyQ P fn (fun v w => R (some v) w)) .ret L w) : At ⟨k, []⟩ (bodyX P fn pv R) .ret L w := fun a fr => by
  obtain ⟨h1, v, h2, u, h3, h4⟩ := h a fr
  cases h3
  exact ⟨h1, _, h2, h4⟩
theorem At_panX {k : Nat} {fn : Func} {R : Option Value → World → Prop} (h : R none w) : At ⟨k, []⟩ (bodyX P fn pv R) (.panic (pch pv)) L w := fun _ fr => ⟨fr.defers, rfl, h⟩
theorem np_bodyX {fn : Func} {R : Option Value → World → Prop} : NoPanic (bodyX P fn pv R) := fun _ _ d _ _ h => by cases d <;> exact h
def concT : TypeDesc → Bool
  | .interface _ => false
  | _ => true
theorem r_mkI {t t' : TypeId} {x : Operand} {v : Value} {w : World} {dd : TypeDesc} (hx : ev L x = some v) (ht : P.underlying t = some dd) (hd : concT dd = true) : RunsAt P L w (.makeInterface t x) t' (.iface t v) := fun w' _ ρ hρ dst pos af g => by
  cases dd <;> simp [concT] at hd <;> simp [execOp, hρ x _ hx, Instr.makeInterface, run_underlying ht]
theorem if_eq {t : TypeId} {ms : Array (String × TypeId)} {w : World} (ht : P.underlying t = some (.interface ms)) (x : Value) (hx : x = .nilIface ∨ ∃ u v, x = .iface u v) : (Op.equal t x .nilIface).run P w = .ok (match x with | .nilIface => true | _ => false) w := by
  unfold Op.equal
  obtain ⟨d, hd⟩ : ∃ d, Op.maxDepth = d + 1 := ⟨9999, rfl⟩
  rw [hd]
  rcases hx with rfl | ⟨u, v, rfl⟩ <;> simp [Op.equalIn, run_underlying ht]
theorem r_ifT {t t' : TypeId} {x : Operand} {u : TypeId} {v : Value} {w : World} {ms : Array (String × TypeId)} (hx : ev L x = some (.iface u v)) (ht : P.underlying t = some (.interface ms)) : RunsAt P L w (.binOp .neq t x (.const .nilIface) t') ty (.bool true) := fun w' _ ρ hρ dst pos af g => by
  have hy : ρ (.const .nilIface) = .nilIface := hρ _ _ rfl
  simp [execOp, hρ x _ hx, hy, eqGuard, binOp, if_eq ht (.iface u v) (.inr ⟨u, v, rfl⟩)]
theorem r_ifF {t t' : TypeId} {x : Operand} {w : World} {ms : Array (String × TypeId)} (hx : ev L x = some .nilIface) (ht : P.underlying t = some (.interface ms)) : RunsAt P L w (.binOp .neq t x (.const .nilIface) t') ty (.bool false) := fun w' _ ρ hρ dst pos af g => by
  have hy : ρ (.const .nilIface) = .nilIface := hρ _ _ rfl
  simp [execOp, hρ x _ hx, hy, eqGuard, binOp, if_eq ht .nilIface (.inl rfl)]
/-! ### Deferred calls -/
/-- The deferred call that is taken. -/
abbrev dfr (g : FuncId) (cap : List Value) : Deferred := { target := .fn (.func g) cap.toArray, args := #[] }
theorem S_defer {k : Nat} {ds : List Deferred} {g : FuncId} {cap : List Value} {fo : Operand} (hf : ev L fo = some (.func (.func g) #[] cap.toArray)) (h : S P ⟨k, dfr g cap :: ds⟩ ops Q rest L w) :
    S P ⟨k, ds⟩ ops Q (⟨none, .defer ⟨.value fo, #[], #[]⟩, ty, pos, af, none⟩ :: rest) L w :=
  S_op rfl fun a fr => by
    unfold Oper.wp
    have e : (execOp a.eval ⟨none, .defer ⟨.value fo, #[], #[]⟩, ty, pos, af, none⟩).run P w = .ok (.defer (dfr g cap)) w := by
      simp [execOp, resolve, fr.rho fo _ hf, Deferred.ofValue]
    rw [e]
    refine h _ ⟨fr.size, ?_, fr.get⟩
    show dfr g cap :: a.defers = _
    rw [fr.defers]
/-- A deferred call, made while its frame stands in mode u: it returns and leaves mode u'. -/
def OkF (P : Program) (g : FuncId) (cap : List Value) (u u' : FrameMode) (w : World) (R : World → Prop) : Prop :=
  Callable P g ∧ CallsD P g cap.toArray u w (fun e u1 w' => (∃ v, e = .returned v) ∧ u1 = u' ∧ R w')
theorem leaves_one {fn : Func} {tmps : Array Value} {R : Ending → World → Prop} {g : FuncId} {cap : List Value} {u u' : FrameMode} {Rd : World → Prop} (hu : u ≠ .run) (hs : settle u' = .returning) (h : OkF P g cap u u' w Rd)
    (hr : ∀ w', Rd w' → ∃ v, (results fn tmps).run P w' = .ok v w' ∧ R (.returned v) w') : Leaves P fn tmps R [dfr g cap] u w := by
  obtain ⟨fn', c, h1, h2, h3⟩ := h.1
  have h2' : ¬ fn'.name = "runtime.NumGoroutine" := by simpa using h2
  refine leaves_cons (f := g) (args := cap.toArray) hu (by simp [invoke, callFunc, h1, h2', h3]) (h.2.mono fun e u1 w' ⟨⟨v, he⟩, hu1, hR⟩ => ?_)
  subst he; subst hu1
  simp only [hs, Leaves]
  exact hr w' hR
theorem At_retD {k : Nat} {fn : Func} {R : Value → World → Prop} {g : FuncId} {cap : List Value} {Rd : World → Prop} (h : OkF P g cap .returning .returning w Rd)
    (hr : ∀ w', Rd w' → ∀ a, Fr ⟨k, [dfr g cap]⟩ a L → ∃ v, (results fn a.tmps).run P w' = .ok v w' ∧ R v w') : At ⟨k, [dfr g cap]⟩ (bodyD P fn R) .ret L w := fun a fr => by
  show Leaves P fn a.tmps (Rq R) a.defers .returning w
  rw [fr.defers]
  exact leaves_one (by simp) rfl h fun w' hR => by obtain ⟨v, h1, h2⟩ := hr w' hR a fr; exact ⟨v, h1, v, rfl, h2⟩
theorem At_panD {k : Nat} {fn : Func} {R : Value → World → Prop} {g : FuncId} {cap : List Value} {Rd : World → Prop} (h : OkF P g cap (.panicking (pch pv)) (.panicking (pchR pv)) w Rd)
    (hr : ∀ w', Rd w' → ∀ a, Fr ⟨k, [dfr g cap]⟩ a L → ∃ v, (results fn a.tmps).run P w' = .ok v w' ∧ R v w') : At ⟨k, [dfr g cap]⟩ (bodyD P fn R) (.panic (pch pv)) L w := fun a fr => by
  show Leaves P fn a.tmps (Rq R) a.defers (.panicking (pch pv)) w
  rw [fr.defers]
  exact leaves_one (by simp) rfl h fun w' hR => by obtain ⟨v, h1, h2⟩ := hr w' hR a fr; exact ⟨v, h1, v, rfl, h2⟩
/-- A return ahead of the statement that defers. -/
theorem At_retD0 {k : Nat} {fn : Func} {R : Value → World → Prop} (h : At ⟨k, []⟩ (bodyQ P fn R) .ret L w) : At ⟨k, []⟩ (bodyD P fn R) .ret L w := fun a fr => by
  obtain ⟨h1, v, h2, h3⟩ := h a fr
  show Leaves P fn a.tmps (Rq R) a.defers .returning w
  rw [fr.defers]
  exact ⟨v, h2, h3⟩
/-- The results of a function that lie in cells. -/
theorem res_got2 {fn : Func} {q q' : ResultVar} {v v' : Value} {a : Act} (hl : fn.results = #[q, q']) (h : Got P L w q v) (h' : Got P L w q' v') (fr : Fr n a L) : (results fn a.tmps).run P w = .ok (.tuple #[v, v']) w := by
  rw [results_eq, hl]
  simp [h.run fr, h'.run fr]
/-- The frame's mode behind 'recover()', and what it yields. -/
inductive RecAt (pv : Value) : FrameMode → FrameMode → Value → Prop
  | no : RecAt pv .returning .returning .nilIface
  | yes : RecAt pv (.panicking (pch pv)) (.panicking (pchR pv)) pv
/-- A deferred function whose first operations are 'recover()' and one that only looks. -/
theorem OkF_enter {g : FuncId} {fn : Func} {cap : List Value} {u u' : FrameMode} {rv v2 : Value} {k id d1 d2 : Nat} {op2 : Op} {ty1 ty2 : TypeId} {pos1 pos2 : String} {af1 af2 : Array Edge} {at_ : Array TypeId} {y : Code} {R : World → Prop} (L : Env)
    (hf : P.funcs[g]? = some fn) (hname : (fn.name == "runtime.NumGoroutine") = false)
    (hb : fn.body = some (.seq (.region id #[⟨some d1, .call ⟨.builtin .recover, #[], at_⟩, ty1, pos1, af1, none⟩, ⟨some d2, op2, ty2, pos2, af2, none⟩] false) y)) (hk : fn.ntmps = k) (hkl : Nat.ble cap.length k = true) (hL : argEnv 0 cap = L)
    (hd1 : Nat.blt d1 k = true) (hd2 : Nat.blt d2 k = true) (hrec : RecAt pv u u' rv) (h2 : RunsAt P ((d1, rv) :: L) w op2 ty2 v2)
    (h : W P ⟨k, []⟩ y (bodyQ P fn (fun _ w' => R w')) ((d2, v2) :: (d1, rv) :: L) w) : OkF P g cap u u' w R := by
  refine ⟨⟨fn, _, hf, hname, hb⟩, callsD_of_wpS hf hb fun c0 cs hu => ?_⟩
  have fr0 := args_fr (k := k) hkl hL
  rw [← hk] at fr0
  refine wpS_seq (wpS_region ?_)
  have e1 : ∀ ρ : Operand → Value, (execOp ρ ⟨some d1, .call ⟨.builtin .recover, #[], at_⟩, ty1, pos1, af1, none⟩).run P w = .ok .recover w := fun ρ => by
    simp [execOp, resolve, invoke, builtin]
  have fr1 : Fr ⟨k, []⟩ ((⟨cap.toArray ++ Array.replicate (fn.ntmps - cap.toArray.size) undef, []⟩ : Act).put (some d1) rv) ((d1, rv) :: L) := by rw [hk] at fr0 ⊢; exact fr0.put hd1
  have fr2 := fr1.put (v := v2) hd2
  have e2 := h2 w (Ext.refl w) _ fr1.rho (some d2) pos2 af2 none
  have hw := h _ fr2
  have hlast : ∀ c0' : Frame, c0'.mode = u' → ({ c0 with mode := u' } : Frame) = c0' → y.wpS P (bodyPostS P fn c0 cs fun e u1 w' => (∃ v, e = .returned v) ∧ u1 = u' ∧ R w')
      (((⟨cap.toArray ++ Array.replicate (fn.ntmps - cap.toArray.size) undef, []⟩ : Act).put (some d1) rv).put (some d2) v2) (c0' :: cs) w := by
    intro c0' _ he
    refine wpS_of_wp (wp_mono hw fun e a' w' q => ?_)
    cases e with
    | normal => obtain ⟨q1, v, q2, u, q3, q4⟩ := q; exact ⟨q1, u', by rw [he], v, q2, ⟨v, rfl⟩, rfl, q4⟩
    | ret => obtain ⟨q1, v, q2, u, q3, q4⟩ := q; exact ⟨q1, u', by rw [he], v, q2, ⟨v, rfl⟩, rfl, q4⟩
    | panic c => obtain ⟨_, v, q, _⟩ := q; cases q
    | exit id => exact q.elim
    | goto l => exact q.elim
    | outgrown => obtain ⟨v, q, _⟩ := q; cases q
  have hr : List.range (#[⟨some d1, .call ⟨.builtin .recover, #[], at_⟩, ty1, pos1, af1, none⟩, ⟨some d2, op2, ty2, pos2, af2, none⟩] : Array Oper).size = [0, 1] := rfl
  rw [hr]
  simp only [wpOpsS, List.getElem?_toArray, List.getElem?_cons_zero, List.getElem?_cons_succ, Region.wanted, if_true, e1]
  cases hrec with
  | no =>
    have : recoverD (c0 :: cs) = none := by simp [recoverD, hu]
    simp only [this, e2, Oper.upon]
    exact hlast c0 hu (by rw [← hu])
  | yes =>
    have : recoverD (c0 :: cs) = some (pv, { c0 with mode := .panicking (pchR pv) } :: cs) := by simp [recoverD, hu]
    simp only [this, e2, Oper.upon]
    exact hlast { c0 with mode := .panicking (pchR pv) } rfl rfl
end
end Go.E
namespace Go.E
open Go Go.RowKit
/-- The post lets nothing outgrow. -/
def NoOut (Q : Exit → Act → World → Prop) : Prop := ∀ a w, ¬ Q .outgrown a w
section
variable {P : Program} {n : Sz} {Q : Exit → Act → World → Prop} {L : Env} {w : World}
theorem no_body {fn : Func} {R : Value → World → Prop} : NoOut (bodyQ P fn R) := fun _ _ ⟨_, h, _⟩ => by cases h
theorem no_seq {y : Code} (h : NoOut Q) : NoOut (seqQ P y Q) := fun a w k => h a w k
theorem no_cut {σ : Type} {I : σ → Env} {R : σ → World → Prop} (h : NoOut Q) : NoOut (cutQ n I R Q) := fun a w k => h a w k
theorem no_loop {σ : Type} {I : σ → Env} {R : σ → World → Prop} {μ : σ → Nat} {x : σ} (h : NoOut Q) : NoOut (loopQ n I R μ x Q) := fun a w k => h a w k
theorem no_block {id : Nat} (h : NoOut Q) : NoOut (Exit.inBlock id Q) := fun a w k => h a w k
theorem no_scope (h : NoOut Q) : NoOut (Exit.noGoto Q) := fun a w k => h a w k
/-! ### Scopes and labels that nobody jumps to -/
theorem W_scope {c : Code} (h : W P n c (Exit.noGoto Q) L w) : W P n (.scope c) Q L w := fun a fr => wp_scope_straight (h a fr)
theorem W_label {l : Nat} (h : At n Q .normal L w) : W P n (.label l) Q L w := fun a fr => wp_label (h a fr)
theorem At_scope (h : At n Q .normal L w) : At n (Exit.noGoto Q) .normal L w := h
theorem At_scope_ret (h : At n Q .ret L w) : At n (Exit.noGoto Q) .ret L w := h
end
/-! ### Operations inside a fence that lets everything in -/
/-- The wide fence, for a frame of a function or of a round. -/
def Wid (F : Fence) : Prop := F = Fence.wide ∨ ∃ l, F = Fence.wide.inRound l
theorem Wid.fn {F : Fence} (h : Wid F) (f : FuncId) : F.fn f := by rcases h with rfl | ⟨l, rfl⟩ <;> exact trivial
theorem Wid.dep {F : Fence} (h : Wid F) : F.depth = none := by rcases h with rfl | ⟨l, rfl⟩ <;> rfl
theorem Wid.calls {F : Fence} (h : Wid F) {n : Nat} {P : Program} {f : FuncId} {args : Array Value} {w : World} {R : Ending → World → Prop} (k : Calls P f args w R) : CallsIn F n P f args w R := by
  rcases h with rfl | ⟨l, rfl⟩
  · exact callsIn_wide.2 k
  · exact (callsIn_wide.2 k).inRound l
theorem Wid.rows {F : Fence} (h : Wid F) {n : Nat} {P : Program} {row : String} {args : Array Value} {w : World} {R : Value → World → Prop} (k : Rows P row args w R) : RowsIn F n P row args w R := by
  intro c cs _
  obtain ⟨v, w', hR, hs⟩ := k c cs
  refine ⟨v, w', hR, ?_⟩
  rcases h with rfl | ⟨l, rfl⟩
  · exact stepsIn_wide.2 hs
  · rw [fenced_inRound]; exact stepsIn_wide.2 hs
def isDefer : Op → Bool
  | .defer _ => true
  | _ => false
theorem notDefer {o : Op} (h : isDefer o = false) : ∀ c, o ≠ .defer c := fun c e => by subst e; cases h
section
variable {P : Program} {n : Sz} {ops : Array Oper} {Q : Exit → Act → World → Prop} {L : Env} {w : World} {rest : List Oper}
theorem wpIn_of_wp {F : Fence} (hF : Wid F) {o : Oper} (hd : isDefer o.op = false) {next : Act → World → Prop} {a : Act} (h : o.wp P a w next Q) : o.wpIn F 0 P a w next Q := by
  refine ⟨fun f _ => hF.fn f, ?_⟩
  rw [Oper.semAt_eq _ _ _ (notDefer hd)]
  unfold Oper.wp at h
  generalize (execOp a.eval o).run P w = r at h ⊢
  have hd0 : F.depth.isSome = true → 1 ≤ 0 := fun e => by rw [hF.dep] at e; cases e
  cases r with
  | ok nx w' =>
    cases nx <;> simp only [Oper.upon] at h <;> simp only [Oper.uponIn]
    case value v => exact h
    case skip => exact h
    case defer d => exact h
    case enter f args => exact ⟨hd0, (hF.calls h).mono fun e w' k => by cases e <;> exact k⟩
    case row row args => exact ⟨hd0, hF.rows h⟩
  | halt x w' => cases x <;> simp only [Oper.upon] at h <;> simp only [Oper.uponIn]; exact h
theorem wpListIn_of_wpList {F : Fence} (hF : Wid F) (hq : NoOut Q) : ∀ (l : List Oper) (a : Act) (w : World), l.all (fun o => !isDefer o.op) = true → wpList P ops Q l a w → wpListIn F 0 P ops Q l a w
  | [], _, _, _, h => h
  | o :: l, a, w, hd, h => by
    simp only [List.all_cons, Bool.and_eq_true, Bool.not_eq_true'] at hd
    simp only [wpList] at h
    simp only [wpListIn]
    split
    · rename_i hw
      rw [if_pos hw] at h
      rcases h with h | ⟨_, a', w', h⟩
      · have h1 := wpIn_of_wp hF hd.1 h
        exact Oper.wpIn_mono (fun a w k => wpListIn_of_wpList hF hq l a w (by simpa using hd.2) k) h1
      · exact absurd h (hq a' w')
    · rename_i hw
      rw [if_neg hw] at h
      exact ⟨fun f _ => hF.fn f, wpListIn_of_wpList hF hq l _ _ (by simpa using hd.2) h⟩
/-! ### A region in which yield is called -/
def SY (P : Program) (n : Sz) (ops : Array Oper) (Q : Exit → Act → World → Prop) (l : List Oper) (L : Env) (w : World) : Prop := ∀ a, Fr n a L → wpListIn Fence.wide 0 P ops Q l a w
def yQ (P : Program) (ops : Array Oper) (Q : Exit → Act → World → Prop) (rest : List Oper) : Exit → Act → World → Prop := Exit.then (fun a w => wpListIn Fence.wide 0 P ops Q rest a w) Q
theorem W_regY {id : Nat} {l : List Oper} (h : SY P n l.toArray Q l L w) : W P n (.region id l.toArray false) Q L w := fun a fr => (wpIn_wide (n := 0)).1 (wpIn_region_lit (h a fr))
theorem W_seqY {id : Nat} {l : List Oper} {y : Code} (h : SY P n l.toArray (seqQ P y Q) l L w) : W P n (.seq (.region id l.toArray false) y) Q L w := W_seq (W_regY h)
theorem SY_seqnil {y : Code} (h : W P n y Q L w) : SY P n ops (seqQ P y Q) [] L w := fun a fr => h a fr
theorem SY_op {o : Oper} (hq : NoOut Q) (hd : isDefer o.op = false) (h : S P n ops (yQ P ops Q rest) [o] L w) : SY P n ops Q (o :: rest) L w := fun a fr => by
  have h1 := h a fr
  simp only [wpList] at h1
  simp only [wpListIn]
  split
  · rename_i hw
    rw [if_pos hw] at h1
    rcases h1 with h1 | ⟨_, a', w', h1⟩
    · have h2 := wpIn_of_wp (.inl rfl) hd h1
      have hm : ∀ {r : Result Next}, o.uponIn Fence.wide 0 P a (fun a w => yQ P ops Q rest .normal a w) (yQ P ops Q rest) r → o.uponIn Fence.wide 0 P a (wpListIn Fence.wide 0 P ops Q rest) Q r := by
        intro r hr
        cases r with
        | ok nx w' => cases nx <;> exact hr
        | halt x w' => cases x <;> exact hr
      exact ⟨h2.1, hm h2.2⟩
    · exact absurd h1 (hq a' w')
  · rename_i hw
    rw [if_neg hw] at h1
    exact ⟨fun _ _ => trivial, h1⟩
theorem SY_back (h : SY P n ops Q rest L w) : S P n ops (yQ P ops Q rest) [] L w := fun a fr => h a fr
theorem SY_split {s : Nat} {b : Bool} (_hb : gt L s = some (.bool b)) (h1 : b = true → SY P n ops Q rest L w) (h2 : b = false → SY P n ops Q rest L w) : SY P n ops Q rest L w := by
  cases b
  · exact h2 rfl
  · exact h1 rfl
/-- A call of yield whose round hands back true. -/
theorem SY_yield {d l : Nat} {fo : Operand} {args : List Operand} {vs : List Value} {at_ : Array TypeId} {ty : TypeId} {pos : String} {af : Array Edge} {R : World → Prop} (hf : ev L fo = some (.func (.yield l) #[] #[])) (ha : evl L args = some vs) (hn : Nat.blt d n.n = true)
    (hy : YieldAt Fence.wide 0 P l vs.toArray w (fun e w' => e = .returned (.bool true) ∧ R w')) (h : ∀ w', R w' → SY P n ops Q rest ((d, .bool true) :: L) w') : SY P n ops Q (⟨some d, .call ⟨.value fo, args.toArray, at_⟩, ty, pos, af, none⟩ :: rest) L w := fun a fr => by
  obtain ⟨fn, tmps, assign, body, hrun, hround⟩ := hy
  simp only [wpListIn]
  rw [if_pos (by simp [Region.wanted])]
  refine ⟨fun _ _ => trivial, ?_⟩
  have e1 := fr.rho.map _ _ ha
  have e : (Oper.semAt Fence.wide.round a.eval ⟨some d, .call ⟨.value fo, args.toArray, at_⟩, ty, pos, af, none⟩).run P w = .ok (.round l fn tmps assign body) w := by
    rw [Oper.semAt_eq _ _ _ (fun c h => by cases h)]
    simp [execOp, resolve, fr.rho fo _ hf, Deferred.ofValue, invoke, e1, hrun]
  rw [e]
  refine ⟨fun h => by simp [Fence.wide] at h, hround.mono fun e w' ⟨he, hR⟩ => ?_⟩
  subst he
  exact h w' hR _ (fr.put hn)
theorem SY_guarded {dst : Option Tmp} {op : Op} {j : Nat} {want b : Bool} {t : Nat} {ty : TypeId} {pos : String} {af : Array Edge} (hj : ((ops[j]?).bind (·.dst)) = some t) (hb : gt L t = some (.bool b)) (hw : b = want)
    (h : SY P n ops Q (⟨dst, op, ty, pos, af, none⟩ :: rest) L w) : SY P n ops Q (⟨dst, op, ty, pos, af, some (j, want)⟩ :: rest) L w := fun a fr => by
  have h1 := h a fr
  simp only [wpListIn] at h1 ⊢
  have hy : yielded ops a.tmps j = some b := by simp [yielded, hj, fr.get t _ hb]
  have hwant : Region.wanted ⟨dst, op, ty, pos, af, some (j, want)⟩ (yielded ops a.tmps) = true := by simp [Region.wanted, hy, hw]
  rw [if_pos hwant]
  have h0 : Region.wanted ⟨dst, op, ty, pos, af, none⟩ (yielded ops a.tmps) = true := by simp [Region.wanted]
  rw [if_pos h0] at h1
  exact h1
end
/-! ### A loop whose rounds append the element to a slice in a variable -/
/-- What such a loop owns: its record, the block of its deferred calls, the variable, the slice's row. -/
abbrev yR (l D b : Nat) (rec : Loop) (tb te : TypeId) (sz : Nat) (v : Value) (k : Nat) (xs : List Value) : List Res :=
  [.obj l (.loop rec), .obj D (.deferred (some [])), .box b [v] tb, .row v te sz k xs]
/-- A call of its yield appends. -/
def YSpec (P : Program) {α : Type} (r : Rp α) (sz bt : Nat) (l D b : Nat) (rec : Loop) (tb te : TypeId) : Prop :=
  ∀ {w0 w : World} {H : PH} {O : List Res} {v u : Value} {xs c : List Value} {l0 : List α} {x : α}, Le H (hp w0) → Lcl w0 (yR l D b rec tb te sz v l0.length xs ++ O) w →
    Elems r (gz H w0 w (yR l D b rec tb te sz v l0.length xs ++ O)) l0 xs → u.cells.toList = c → r.rel (gz H w0 w (yR l D b rec tb te sz v l0.length xs ++ O)) x c → Cap bt (l0.length + 1) →
    YieldAt Fence.wide 0 P l #[u] w (fun e w' => e = .returned (.bool true) ∧ ∃ v' xs', Lcl w0 (yR l D b rec tb te sz v' (l0 ++ [x]).length xs' ++ O) w' ∧
      Le (fz w (yR l D b rec tb te sz v l0.length xs ++ O)) (fz w' (yR l D b rec tb te sz v' (l0 ++ [x]).length xs' ++ O)) ∧ Elems r (gz H w0 w' (yR l D b rec tb te sz v' (l0 ++ [x]).length xs' ++ O)) (l0 ++ [x]) xs')
/-- A round's code. -/
def WR (P : Program) (l : Nat) (n : Sz) (c : Code) (Q : Exit → Act → World → Prop) (L : Env) (w : World) : Prop := ∀ a, Fr n a L → c.wpIn (Fence.wide.inRound l) 0 P Q a w
section
variable {P : Program} {j : Nat} {n : Sz} {Q : Exit → Act → World → Prop} {L : Env} {w : World}
theorem WR_region {id : Nat} {l : List Oper} (hd : l.all (fun o => !isDefer o.op) = true) (hq : NoOut Q) (h : S P n l.toArray Q l L w) : WR P j n (.region id l.toArray false) Q L w := fun a fr =>
  wpIn_region_lit (wpListIn_of_wpList (.inr ⟨j, rfl⟩) hq l a w hd (h a fr))
theorem WR_block {id : Nat} {c : Code} (h : WR P j n c (Exit.inBlock id Q) L w) : WR P j n (.block id c) Q L w := fun a fr => wpIn_block (h a fr)
/-- An object that is owned is turned into another one. -/
theorem Lcl.putAt {w0 : World} {O : List Res} {i b : Nat} {o : Obj} (o' : Obj) (hL : Lcl w0 O w) (hi : nthR O i = some (.obj b o)) : Lcl w0 (setR O i (.obj b o')) (w.putObj b o') ∧ Le (fz w O) (fz (w.putObj b o') (setR O i (.obj b o'))) := by
  have hg : w.grownBy (w.putObj b o') (some b) := ⟨rfl, rfl, rfl, by simp, fun k _ hk => World.putObj_heap_other (fun e => hk (by rw [e]))⟩
  have hlt : b < w.heap.size := (hL.at hi).lt rfl
  exact ⟨hL.turnAt hi (Nat.le_refl _) hg (World.putObj_heap_same hlt) (fun k e => .inl e), fz_turnAt hL hi hg (fun k e => .inl e)⟩
/-- What is asked behind the assignment of a round: the record is busy from now on. -/
def begQ (P : Program) (l : Nat) (body : Code) (R : Ending → World → Prop) : Exit → Act → World → Prop :=
  Exit.then (fun a₁ w₁ => ∃ w₂, (Instr.beginRound l).run P w₁ = .ok () w₂ ∧ body.wpIn (Fence.wide.inRound l) 0 P (roundPost P l R) a₁ w₂) (fun _ _ _ => False)
theorem no_begQ {l : Nat} {body : Code} {R : Ending → World → Prop} : NoOut (begQ P l body R) := fun _ _ h => h
theorem no_round {l : Nat} {R : Ending → World → Prop} : NoOut (roundPost P l R) := fun _ _ h => h
theorem At_begin {l i : Nat} {rec : Loop} {body : Code} {R : Ending → World → Prop} {w0 : World} {O : List Res} (hst : rec.state = .ready) (hL : Lcl w0 O w) (hi : nthR O i = some (.obj l (.loop rec)))
    (h : ∀ w', Lcl w0 (setR O i (.obj l (.loop { rec with state := .busy }))) w' → Le (fz w O) (fz w' (setR O i (.obj l (.loop { rec with state := .busy })))) → WR P l n body (roundPost P l R) L w') : At n (begQ P l body R) .normal L w := fun a fr => by
  have h1 := hL.at hi
  have hp := hL.putAt (.loop { rec with state := .busy }) hi
  exact ⟨_, run_beginRound h1 hst, h _ hp.1 hp.2 a fr⟩
theorem At_round_end {l i : Nat} {rec : Loop} {R : Ending → World → Prop} {w0 : World} {O : List Res} (hL : Lcl w0 O w) (hi : nthR O i = some (.obj l (.loop rec)))
    (h : ∀ w', Lcl w0 (setR O i (.obj l (.loop { rec with state := .ready, pending := none }))) w' → Le (fz w O) (fz w' (setR O i (.obj l (.loop { rec with state := .ready, pending := none })))) → R (.returned (.bool true)) w') : At n (roundPost P l R) .normal L w := fun a _ => by
  have h1 := hL.at hi
  have hp := hL.putAt (.loop { rec with state := .ready, pending := none }) hi
  exact ⟨_, _, run_endRound none h1, h _ hp.1 hp.2⟩
/-- The contract of yield out of its round's code. -/
theorem ySpec_of {α : Type} {r : Rp α} {sz bt l D b p k : Nat} {rec : Loop} {tb te : TypeId} {Lr : Env} (_hst : rec.state = .ready) (_hpe : rec.pending = none) (hps : rec.params = #[p]) (fr : Fr ⟨k, []⟩ ⟨rec.tmps, []⟩ Lr) (hpk : Nat.blt p k = true)
    (hround : ∀ {w0 w : World} {H : PH} {O : List Res} {v u : Value} {xs c : List Value} {l0 : List α} {x : α}, Le H (hp w0) → Lcl w0 (yR l D b rec tb te sz v l0.length xs ++ O) w →
      Elems r (gz H w0 w (yR l D b rec tb te sz v l0.length xs ++ O)) l0 xs → u.cells.toList = c → r.rel (gz H w0 w (yR l D b rec tb te sz v l0.length xs ++ O)) x c → Cap bt (l0.length + 1) →
      WR P l ⟨k, []⟩ rec.assign (begQ P l rec.body (fun e w' => e = .returned (.bool true) ∧ ∃ v' xs', Lcl w0 (yR l D b rec tb te sz v' (l0 ++ [x]).length xs' ++ O) w' ∧
        Le (fz w (yR l D b rec tb te sz v l0.length xs ++ O)) (fz w' (yR l D b rec tb te sz v' (l0 ++ [x]).length xs' ++ O)) ∧ Elems r (gz H w0 w' (yR l D b rec tb te sz v' (l0 ++ [x]).length xs' ++ O)) (l0 ++ [x]) xs')) ((p, u) :: Lr) w) :
    YSpec P r sz bt l D b rec tb te := fun {w0 w H O v u xs c l0 x} hH hL he hu hx hc => by
  refine ⟨rec.fn, _, rec.assign, rec.body, run_yield (hL.at (i := 0) rfl) (by rw [hps]; rfl), roundIn_of_wpIn trivial ?_⟩
  rw [hps]
  have e : ((#[p] : Array Tmp).zip #[u]).foldl (fun tmps (x : Tmp × Value) => tmps.setIfInBounds x.1 x.2) rec.tmps = rec.tmps.setIfInBounds p u := by simp
  rw [show _ = _ from e]
  exact hround hH hL he hu hx hc _ (fr.put (d := p) (v := u) hpk)
/-- The statement, around a call that leaves the loop's record as it is and calls yield only. -/
theorem W_range {g : FuncId} {cap : List Value} {go : Operand} {ps : Array Tmp} {assign body : Code} (hg : ev L go = some (.func (.func g) #[] cap.toArray)) (hc : Callable P g) {w0 : World} {O : List Res} (hL : Lcl w0 O w)
    (h : ∀ (a : Act), Fr n a L → ∀ (fn : FuncId) (l D : Nat) (w1 : World) (rec : Loop), rec = { state := .ready, pending := none, fn, tmps := a.tmps, params := ps, assign, body, defers := D } →
      Lcl w0 (.obj l (.loop rec) :: .obj D (.deferred (some [])) :: O) w1 → Le (fz w O) (fz w1 (.obj l (.loop rec) :: .obj D (.deferred (some [])) :: O)) →
      Calls P g (#[.func (.yield l) #[] #[]] ++ cap.toArray) w1 (fun e w2 => (∃ v, e = .returned v) ∧ ∃ O', Lcl w0 (.obj l (.loop rec) :: O') w2 ∧
        ∀ w3, Lcl w0 (.obj l (.loop { rec with state := .exhausted }) :: O') w3 → Le (fz w2 (.obj l (.loop rec) :: O')) (fz w3 (.obj l (.loop { rec with state := .exhausted }) :: O')) →
          At ⟨n.n, { target := .collected D, args := #[] } :: n.d⟩ Q .normal L w3)) : W P n (.rangeFunc go ps assign body) Q L w := fun a fr => by
  refine (wpIn_wide (n := 0)).1 (wpIn_rangeFunc fun fn _ => ?_)
  obtain ⟨fn', c, h1, h2, h3⟩ := hc
  have h2' : ¬ fn'.name = "runtime.NumGoroutine" := by simpa using h2
  have n1 := hL.new (r := .obj w.heap.size (.deferred (some []))) (ext_alloc w (.deferred (some []))) (show (w.alloc _).heap[w.heap.size]? = _ from World.alloc_heap_new w _) (fun b hb => by cases hb; exact Nat.le_refl _)
  have f1 := fz_new hL (r := .obj w.heap.size (.deferred (some []))) (ext_alloc w (.deferred (some []))) (fun b hb => by cases hb; exact Nat.le_refl _)
  have hs : (w.alloc (.deferred (some []))).heap.size = w.heap.size + 1 := by simp
  have n2 := n1.new (r := .obj (w.heap.size + 1) (.loop { state := .ready, pending := none, fn, tmps := a.tmps, params := ps, assign, body, defers := w.heap.size })) (ext_alloc _ _)
    (by rw [← hs]; exact World.alloc_heap_new _ _) (fun b hb => by cases hb; exact Nat.le_of_eq hs)
  have f2 := fz_new n1 (r := .obj (w.heap.size + 1) (.loop { state := .ready, pending := none, fn, tmps := a.tmps, params := ps, assign, body, defers := w.heap.size })) (ext_alloc _ (.loop { state := .ready, pending := none, fn, tmps := a.tmps, params := ps, assign, body, defers := w.heap.size }))
    (fun b hb => by cases hb; exact Nat.le_of_eq hs)
  obtain ⟨W1, hW1⟩ : ∃ W1, W1 = (w.alloc (.deferred (some []))).alloc (.loop { state := .ready, pending := none, fn, tmps := a.tmps, params := ps, assign, body, defers := w.heap.size }) := ⟨_, rfl⟩
  rw [← hW1] at n2 f2
  have hcall := h a fr fn (w.heap.size + 1) w.heap.size W1 _ rfl n2 (f1.trans f2)
  refine ⟨w.heap.size + 1, [{ target := .collected w.heap.size, args := #[] }], W1, { target := .fn (.func g) cap.toArray, args := #[.func (.yield (w.heap.size + 1)) #[] #[]] }, W1, g, #[.func (.yield (w.heap.size + 1)) #[] #[]] ++ cap.toArray, W1, by rw [hW1]; exact run_enterLoop_outer _ _ _ _ _, ?_, fun _ _ => trivial, ?_, fun e => by simp [Fence.wide] at e, ?_⟩
  · have hgo := fr.rho go _ hg
    simp only [resolve, hgo]
    simp [Deferred.ofValue, Act.eval]
  · simp [invoke, callFunc, h1, h2', h3]
  · refine (callsIn_wide.2 hcall).mono fun e w2 ⟨⟨v, he⟩, O', hL2, hk⟩ => ?_
    subst he
    have hp := hL2.putAt (i := 0) (.loop { state := .exhausted, pending := none, fn, tmps := a.tmps, params := ps, assign, body, defers := w.heap.size }) rfl
    refine ⟨none, _, run_endLoop (hL2.at (i := 0) rfl) (by simp), ?_⟩
    exact hk _ hp.1 hp.2 { a with defers := [{ target := .collected w.heap.size, args := #[] }] ++ a.defers } ⟨fr.size, by rw [fr.defers]; rfl, fr.get⟩
/-! ### The function that holds the statement -/
def bodyM (P : Program) (fn : Func) (R : Value → World → Prop) : Exit → Act → World → Prop := bodyPostM Fence.wide 0 P fn (Rq R)
theorem OkM_enter {f : FuncId} {fn : Func} {c : Code} {args : List Value} {R : Value → World → Prop} {k : Nat} (L : Env)
    (hf : P.funcs[f]? = some fn) (hname : (fn.name == "runtime.NumGoroutine") = false) (hb : fn.body = some c) (hn : fn.ntmps = k) (hk : Nat.ble args.length k = true) (hL : argEnv 0 args = L)
    (h : W P ⟨k, []⟩ c (bodyM P fn R) L w) : Ok P f args w R :=
  ⟨⟨fn, c, hf, hname, hb⟩, callsIn_wide.1 (callsIn_of_wp_marks hf hb trivial ((wpIn_wide (n := 0)).2 (h _ (by rw [hn]; exact args_fr hk hL))))⟩
theorem At_retM {k D i : Nat} {fn : Func} {R : Value → World → Prop} {l : List ResultVar} {v : Value} {w0 : World} {O : List Res} (hl : fn.results = l.toArray) (hr : resultOf l L = some v) (hL : Lcl w0 O w) (hi : nthR O i = some (.obj D (.deferred (some []))))
    (h : ∀ w', Lcl w0 (setR O i (.obj D (.deferred none))) w' → Le (fz w O) (fz w' (setR O i (.obj D (.deferred none)))) → R v w') : At ⟨k, [{ target := .collected D, args := #[] }]⟩ (bodyM P fn R) .ret L w := fun a fr => by
  show LeavesInM Fence.wide 0 P fn a.tmps (Rq R) a.defers .returning w
  rw [fr.defers]
  have hp := hL.putAt (.deferred none) hi
  exact ⟨by simp, .inl ⟨_, _, rfl, run_takeDeferred (hL.at hi), v, results_of fr hl hr, v, rfl, h _ hp.1 hp.2⟩⟩
end
end Go.E
