/- Calls that may panic with a value that is known, and deferred calls that recover. No program in sight. -/
import Derived.Test.YtdiieblgeaehpaaDoorEngR
import Derived.Recover
namespace Go.L
/-- What may have panicked: none leads to ex. -/
def onX {α β : Type} (x : Option α) (ex : Option β) (k : α → Option β) : Option β := match x with
  | none => ex
  | some y => k y
theorem onX_none {α β : Type} {ex : Option β} {k : α → Option β} {e : β} (h : onX none ex k = some e) : ex = some e := h
theorem onX_some {α β : Type} {y : α} {ex : Option β} {k : α → Option β} {e : β} (h : onX (some y) ex k = some e) : k y = some e := h
end Go.L
namespace Go.E
open Go Go.RowKit

/-- What a call that may panic yields, against what the plain function tells. -/
def XPo {α : Type} (r : Option α) (v : Option Value) (R : α → Value → Prop) (N : Prop) : Prop := match r, v with
  | none, none => N
  | some x, some u => R x u
  | _, _ => False
theorem XPo_some {α : Type} {x : α} {u : Value} {R : α → Value → Prop} {N : Prop} (h : R x u) : XPo (some x) (some u) R N := h
theorem XPo_none {α : Type} {R : α → Value → Prop} {N : Prop} (h : N) : XPo none none R N := h

/-- One panic, not recovered. -/
abbrev pch (v : Value) : List PanicEntry := [{ v := v, recovered := false }]
/-- The same one, recovered. -/
abbrev pchR (v : Value) : List PanicEntry := [{ v := v, recovered := true }]
/-- The ending of a call that may panic with this value (then: none). -/
def RqX (pv : Value) (R : Option Value → World → Prop) : Ending → World → Prop
  | .returned v, w => R (some v) w
  | .panicked c, w => c = pch pv ∧ R none w
  | .outgrown, _ => False
def OkX (P : Program) (f : FuncId) (args : List Value) (w : World) (pv : Value) (R : Option Value → World → Prop) : Prop :=
  Callable P f ∧ Calls P f args.toArray w (RqX pv R)
theorem OkX.mono {P : Program} {f : FuncId} {args : List Value} {w : World} {pv : Value} {R R' : Option Value → World → Prop} (h : OkX P f args w pv R) (hr : ∀ v w', R v w' → R' v w') : OkX P f args w pv R' :=
  ⟨h.1, h.2.mono fun e w' k => by
    cases e with
    | returned v => exact hr _ _ k
    | panicked c => exact ⟨k.1, hr _ _ k.2⟩
    | outgrown => exact k⟩
def bodyX (P : Program) (fn : Func) (pv : Value) (R : Option Value → World → Prop) : Exit → Act → World → Prop := bodyPost P fn (RqX pv R)
def bodyD (P : Program) (fn : Func) (R : Value → World → Prop) : Exit → Act → World → Prop := bodyPostD P fn (Rq R)

theorem args_fr {args : List Value} {L : Env} {k : Nat} (hk : Nat.ble args.length k = true) (hL : argEnv 0 args = L) : Fr ⟨k, []⟩ { tmps := args.toArray ++ Array.replicate (k - args.toArray.size) undef, defers := [] } L := by
  have hk' : args.length ≤ k := by simpa [Nat.ble_eq] using hk
  refine ⟨?_, rfl, ?_⟩
  · simp; omega
  · intro t v ht
    subst hL
    have ⟨_, h2⟩ := gt_argEnv args 0 t v ht
    simp only [Nat.sub_zero] at h2
    have hlt : t < args.length := (List.getElem?_eq_some_iff.1 h2).1
    simp only [List.size_toArray]
    rw [Array.getElem?_append_left (by simpa using hlt)]
    simpa using h2

theorem OkX_enter {P : Program} {f : FuncId} {fn : Func} {c : Code} {args : List Value} {w : World} {pv : Value} {R : Option Value → World → Prop} {n : Nat} (L : Env)
    (hf : P.funcs[f]? = some fn) (hname : (fn.name == "runtime.NumGoroutine") = false) (hb : fn.body = some c) (hn : fn.ntmps = n) (hk : Nat.ble args.length n = true) (hL : argEnv 0 args = L)
    (h : W P ⟨n, []⟩ c (bodyX P fn pv R) L w) : OkX P f args w pv R :=
  ⟨⟨fn, c, hf, hname, hb⟩, calls_of_wp hf hb (h _ (by rw [hn]; exact args_fr hk hL))⟩
theorem OkD_enter {P : Program} {f : FuncId} {fn : Func} {c : Code} {args : List Value} {w : World} {R : Value → World → Prop} {n : Nat} (L : Env)
    (hf : P.funcs[f]? = some fn) (hname : (fn.name == "runtime.NumGoroutine") = false) (hb : fn.body = some c) (hn : fn.ntmps = n) (hk : Nat.ble args.length n = true) (hL : argEnv 0 args = L)
    (h : W P ⟨n, []⟩ c (bodyD P fn R) L w) : Ok P f args w R :=
  ⟨⟨fn, c, hf, hname, hb⟩, calls_of_wp_defers hf hb (h _ (by rw [hn]; exact args_fr hk hL))⟩

section
variable {P : Program} {n : Sz} {ops : Array Oper} {Q : Exit → Act → World → Prop} {L : Env} {w : World} {rest : List Oper} {d : Nat} {dst : Option Tmp} {ty : TypeId} {pos : String} {af : Array Edge} {pv : Value}
/-- 'panic(x)'. -/
theorem S_panic {x : Operand} {t : TypeId} {u : Value} (hx : ev L x = some pv) (hp : pv = .iface t u) (h : At n Q (.panic (pch pv)) L w) : S P n ops Q (⟨dst, .panic x, ty, pos, af, none⟩ :: rest) L w :=
  S_op rfl fun a fr => by
    unfold Oper.wp
    have e : (execOp a.eval ⟨dst, .panic x, ty, pos, af, none⟩).run P w = .halt (.panic pv) w := by
      subst hp
      simp [execOp, fr.rho x _ hx, Instr.panic, goPanic]
    rw [e]
    exact h a fr
/-- A call that may panic. -/
theorem S_callX {f : FuncId} {args : List Operand} {vs : List Value} {at_ : Array TypeId} {R : Option Value → World → Prop} (ha : evl L args = some vs) (hn : Nat.blt d n.n = true) (hok : OkX P f vs w pv R)
    (h0 : ∀ w', R none w' → At n Q (.panic (pch pv)) L w') (h : ∀ v w', R (some v) w' → S P n ops Q rest ((d, v) :: L) w') : S P n ops Q (⟨some d, .call ⟨.value (.func f), args.toArray, at_⟩, ty, pos, af, none⟩ :: rest) L w :=
  S_op rfl fun a fr => by
    unfold Oper.wp
    rw [run_call hok.1 ha _ fr.rho]
    refine hok.2.mono fun e w' k => ?_
    cases e with
    | returned v => exact h v w' k _ (fr.put hn)
    | panicked c => obtain ⟨rfl, k⟩ := k; exact h0 w' k a fr
    | outgrown => exact k.elim
/-- The same, of a call that leaves old memory as it was. -/
theorem S_callXL {α : Type} {r : Option α} {f : FuncId} {args : List Operand} {vs : List Value} {at_ : Array TypeId} {R : World → α → Value → Prop} {w0 : World} {O : List Res} (ha : evl L args = some vs) (hn : Nat.blt d n.n = true) (hL : Lcl w0 O w)
    (hok : OkX P f vs w pv (fun v w' => Ext w w' ∧ XPo r v (R w') True))
    (h0 : r = none → ∀ w', Ext w w' → Lcl w0 O w' → Le (fz w O) (fz w' O) → At n Q (.panic (pch pv)) L w')
    (h : ∀ y, r = some y → ∀ v w', R w' y v → Ext w w' → Lcl w0 O w' → Le (fz w O) (fz w' O) → S P n ops Q rest ((d, v) :: L) w') : S P n ops Q (⟨some d, .call ⟨.value (.func f), args.toArray, at_⟩, ty, pos, af, none⟩ :: rest) L w :=
  S_callX ha hn hok (fun w' ⟨hx, hr⟩ => by
    cases r with
    | none => exact h0 rfl w' hx (hL.call hx) (fz_ext hL hx)
    | some y => exact hr.elim) (fun v w' ⟨hx, hr⟩ => by
    cases r with
    | none => exact hr.elim
    | some y => exact h y rfl v w' hr hx (hL.call hx) (fz_ext hL hx))
/-- The same, in the caller's frame. -/
theorem S_callXF {α : Type} {r : Option α} {f : FuncId} {args : List Operand} {vs : List Value} {at_ : Array TypeId} {R : World → α → Value → Prop} {N : World → Prop} (ha : evl L args = some vs) (hn : Nat.blt d n.n = true)
    (hok : OkX P f vs w pv (fun v w' => XPo r v (R w') (N w'))) (h0 : r = none → ∀ w', N w' → At n Q (.panic (pch pv)) L w')
    (h : ∀ y, r = some y → ∀ v w', R w' y v → S P n ops Q rest ((d, v) :: L) w') : S P n ops Q (⟨some d, .call ⟨.value (.func f), args.toArray, at_⟩, ty, pos, af, none⟩ :: rest) L w :=
  S_callX ha hn hok (fun w' hr => by
    cases r with
    | none => exact h0 rfl w' hr
    | some y => exact hr.elim) (fun v w' hr => by
    cases r with
    | none => exact hr.elim
    | some y => exact h y rfl v w' hr)
theorem At_seq_panic {y : Code} {c : List PanicEntry} (h : At n Q (.panic c) L w) : At n (seqQ P y Q) (.panic c) L w := h
theorem At_cut_panic {σ : Type} {I : σ → Env} {R : σ → World → Prop} {c : List PanicEntry} (h : At n Q (.panic c) L w) : At n (cutQ n I R Q) (.panic c) L w := h
theorem At_loop_panic {σ : Type} {I : σ → Env} {R : σ → World → Prop} {μ : σ → Nat} {s0 : σ} {c : List PanicEntry} (h : At n Q (.panic c) L w) : At n (loopQ n I R μ s0 Q) (.panic c) L w := h
theorem At_block_panic {id : Nat} {c : List PanicEntry} (h : At n Q (.panic c) L w) : At n (Exit.inBlock id Q) (.panic c) L w := h
theorem At_n_panic {l : List Oper} {fuel : Nat} {listed : Array Bool} {c : List PanicEntry} (h : At n Q (.panic c) L w) : At n (nQ P l Q fuel listed) (.panic c) L w := h

theorem At_retX {k : Nat} {fn : Func} {R : Option Value → World → Prop} (h : At ⟨k, []⟩ (bodyQ P fn (fun v w => R (some v) w)) .ret L w) : At ⟨k, []⟩ (bodyX P fn pv R) .ret L w := fun a fr => by
  obtain ⟨h1, v, h2, u, h3, h4⟩ := h a fr
  cases h3
  exact ⟨h1, _, h2, h4⟩
theorem At_endX {k : Nat} {fn : Func} {R : Option Value → World → Prop} (h : At ⟨k, []⟩ (bodyQ P fn (fun v w => R (some v) w)) .normal L w) : At ⟨k, []⟩ (bodyX P fn pv R) .normal L w := fun a fr => by
  obtain ⟨h1, v, h2, u, h3, h4⟩ := h a fr
  cases h3
  exact ⟨h1, _, h2, h4⟩
theorem At_panX {k : Nat} {fn : Func} {R : Option Value → World → Prop} (h : R none w) : At ⟨k, []⟩ (bodyX P fn pv R) (.panic (pch pv)) L w := fun _ fr => ⟨fr.defers, rfl, h⟩
theorem np_bodyX {fn : Func} {R : Option Value → World → Prop} : NoPanic (bodyX P fn pv R) := fun _ _ d _ _ h => by cases d <;> exact h

def concT : TypeDesc → Bool
  | .interface _ => false
  | _ => true
theorem r_mkI {t t' : TypeId} {x : Operand} {v : Value} {w : World} {dd : TypeDesc} (hx : ev L x = some v) (ht : P.underlying t = some dd) (hd : concT dd = true) : RunsAt P L w (.makeInterface t x) t' (.iface t v) := fun w' _ ρ hρ dst pos af g => by
  cases dd <;> simp [concT] at hd <;> simp [execOp, hρ x _ hx, Instr.makeInterface, run_underlying ht]
theorem if_eq {t : TypeId} {ms : Array (String × TypeId)} {w : World} (ht : P.underlying t = some (.interface ms)) (x : Value) (hx : x = .nilIface ∨ ∃ u v, x = .iface u v) : (Op.equal t x .nilIface).run P w = .ok (match x with | .nilIface => true | _ => false) w := by
  unfold Op.equal
  obtain ⟨d, hd⟩ : ∃ d, Op.maxDepth = d + 1 := ⟨9999, rfl⟩
  rw [hd]
  rcases hx with rfl | ⟨u, v, rfl⟩ <;> simp [Op.equalIn, run_underlying ht]
theorem r_ifT {t t' : TypeId} {x : Operand} {u : TypeId} {v : Value} {w : World} {ms : Array (String × TypeId)} (hx : ev L x = some (.iface u v)) (ht : P.underlying t = some (.interface ms)) : RunsAt P L w (.binOp .neq t x (.const .nilIface) t') ty (.bool true) := fun w' _ ρ hρ dst pos af g => by
  have hy : ρ (.const .nilIface) = .nilIface := hρ _ _ rfl
  simp [execOp, hρ x _ hx, hy, eqGuard, binOp, if_eq ht (.iface u v) (.inr ⟨u, v, rfl⟩)]
theorem r_ifF {t t' : TypeId} {x : Operand} {w : World} {ms : Array (String × TypeId)} (hx : ev L x = some .nilIface) (ht : P.underlying t = some (.interface ms)) : RunsAt P L w (.binOp .neq t x (.const .nilIface) t') ty (.bool false) := fun w' _ ρ hρ dst pos af g => by
  have hy : ρ (.const .nilIface) = .nilIface := hρ _ _ rfl
  simp [execOp, hρ x _ hx, hy, eqGuard, binOp, if_eq ht .nilIface (.inl rfl)]

/-! ### Deferred calls -/
/-- The deferred call that is taken. -/
abbrev dfr (g : FuncId) (cap : List Value) : Deferred := { target := .fn (.func g) cap.toArray, args := #[] }
theorem S_defer {k : Nat} {ds : List Deferred} {g : FuncId} {cap : List Value} {fo : Operand} (hf : ev L fo = some (.func (.func g) #[] cap.toArray)) (h : S P ⟨k, dfr g cap :: ds⟩ ops Q rest L w) :
    S P ⟨k, ds⟩ ops Q (⟨none, .defer ⟨.value fo, #[], #[]⟩, ty, pos, af, none⟩ :: rest) L w :=
  S_op rfl fun a fr => by
    unfold Oper.wp
    have e : (execOp a.eval ⟨none, .defer ⟨.value fo, #[], #[]⟩, ty, pos, af, none⟩).run P w = .ok (.defer (dfr g cap)) w := by
      simp [execOp, resolve, fr.rho fo _ hf, Deferred.ofValue]
    rw [e]
    refine h _ ⟨fr.size, ?_, fr.get⟩
    show dfr g cap :: a.defers = _
    rw [fr.defers]

/-- A deferred call, made while its frame stands in mode u: it returns and leaves mode u'. -/
def OkF (P : Program) (g : FuncId) (cap : List Value) (u u' : FrameMode) (w : World) (R : World → Prop) : Prop :=
  Callable P g ∧ CallsD P g cap.toArray u w (fun e u1 w' => (∃ v, e = .returned v) ∧ u1 = u' ∧ R w')

theorem leaves_one {fn : Func} {tmps : Array Value} {R : Ending → World → Prop} {g : FuncId} {cap : List Value} {u u' : FrameMode} {Rd : World → Prop} (hu : u ≠ .run) (hs : settle u' = .returning) (h : OkF P g cap u u' w Rd)
    (hr : ∀ w', Rd w' → ∃ v, (results fn tmps).run P w' = .ok v w' ∧ R (.returned v) w') : Leaves P fn tmps R [dfr g cap] u w := by
  obtain ⟨fn', c, h1, h2, h3⟩ := h.1
  have h2' : ¬ fn'.name = "runtime.NumGoroutine" := by simpa using h2
  refine leaves_cons (f := g) (args := cap.toArray) hu (by simp [invoke, callFunc, h1, h2', h3]) (h.2.mono fun e u1 w' ⟨⟨v, he⟩, hu1, hR⟩ => ?_)
  subst he; subst hu1
  simp only [hs, Leaves]
  exact hr w' hR
theorem At_retD {k : Nat} {fn : Func} {R : Value → World → Prop} {g : FuncId} {cap : List Value} {Rd : World → Prop} (h : OkF P g cap .returning .returning w Rd)
    (hr : ∀ w', Rd w' → ∀ a, Fr ⟨k, [dfr g cap]⟩ a L → ∃ v, (results fn a.tmps).run P w' = .ok v w' ∧ R v w') : At ⟨k, [dfr g cap]⟩ (bodyD P fn R) .ret L w := fun a fr => by
  show Leaves P fn a.tmps (Rq R) a.defers .returning w
  rw [fr.defers]
  exact leaves_one (by simp) rfl h fun w' hR => by obtain ⟨v, h1, h2⟩ := hr w' hR a fr; exact ⟨v, h1, v, rfl, h2⟩
theorem At_panD {k : Nat} {fn : Func} {R : Value → World → Prop} {g : FuncId} {cap : List Value} {Rd : World → Prop} (h : OkF P g cap (.panicking (pch pv)) (.panicking (pchR pv)) w Rd)
    (hr : ∀ w', Rd w' → ∀ a, Fr ⟨k, [dfr g cap]⟩ a L → ∃ v, (results fn a.tmps).run P w' = .ok v w' ∧ R v w') : At ⟨k, [dfr g cap]⟩ (bodyD P fn R) (.panic (pch pv)) L w := fun a fr => by
  show Leaves P fn a.tmps (Rq R) a.defers (.panicking (pch pv)) w
  rw [fr.defers]
  exact leaves_one (by simp) rfl h fun w' hR => by obtain ⟨v, h1, h2⟩ := hr w' hR a fr; exact ⟨v, h1, v, rfl, h2⟩
/-- A return ahead of the statement that defers. -/
theorem At_retD0 {k : Nat} {fn : Func} {R : Value → World → Prop} (h : At ⟨k, []⟩ (bodyQ P fn R) .ret L w) : At ⟨k, []⟩ (bodyD P fn R) .ret L w := fun a fr => by
  obtain ⟨h1, v, h2, h3⟩ := h a fr
  show Leaves P fn a.tmps (Rq R) a.defers .returning w
  rw [fr.defers]
  exact ⟨v, h2, h3⟩

/-- The results of a function that lie in cells. -/
theorem res_got2 {fn : Func} {q q' : ResultVar} {v v' : Value} {a : Act} (hl : fn.results = #[q, q']) (h : Got P L w q v) (h' : Got P L w q' v') (fr : Fr n a L) : (results fn a.tmps).run P w = .ok (.tuple #[v, v']) w := by
  rw [results_eq, hl]
  simp [h.run fr, h'.run fr]

/-- The frame's mode behind 'recover()', and what it yields. -/
inductive RecAt (pv : Value) : FrameMode → FrameMode → Value → Prop
  | no : RecAt pv .returning .returning .nilIface
  | yes : RecAt pv (.panicking (pch pv)) (.panicking (pchR pv)) pv

/-- A deferred function whose first operations are 'recover()' and one that only looks. -/
theorem OkF_enter {g : FuncId} {fn : Func} {cap : List Value} {u u' : FrameMode} {rv v2 : Value} {k id d1 d2 : Nat} {op2 : Op} {ty1 ty2 : TypeId} {pos1 pos2 : String} {af1 af2 : Array Edge} {at_ : Array TypeId} {y : Code} {R : World → Prop} (L : Env)
    (hf : P.funcs[g]? = some fn) (hname : (fn.name == "runtime.NumGoroutine") = false)
    (hb : fn.body = some (.seq (.region id #[⟨some d1, .call ⟨.builtin .recover, #[], at_⟩, ty1, pos1, af1, none⟩, ⟨some d2, op2, ty2, pos2, af2, none⟩] false) y)) (hk : fn.ntmps = k) (hkl : Nat.ble cap.length k = true) (hL : argEnv 0 cap = L)
    (hd1 : Nat.blt d1 k = true) (hd2 : Nat.blt d2 k = true) (hrec : RecAt pv u u' rv) (h2 : RunsAt P ((d1, rv) :: L) w op2 ty2 v2)
    (h : W P ⟨k, []⟩ y (bodyQ P fn (fun _ w' => R w')) ((d2, v2) :: (d1, rv) :: L) w) : OkF P g cap u u' w R := by
  refine ⟨⟨fn, _, hf, hname, hb⟩, callsD_of_wpS hf hb fun c0 cs hu => ?_⟩
  have fr0 := args_fr (k := k) hkl hL
  rw [← hk] at fr0
  refine wpS_seq (wpS_region ?_)
  have e1 : ∀ ρ : Operand → Value, (execOp ρ ⟨some d1, .call ⟨.builtin .recover, #[], at_⟩, ty1, pos1, af1, none⟩).run P w = .ok .recover w := fun ρ => by
    simp [execOp, resolve, invoke, builtin]
  have fr1 : Fr ⟨k, []⟩ ((⟨cap.toArray ++ Array.replicate (fn.ntmps - cap.toArray.size) undef, []⟩ : Act).put (some d1) rv) ((d1, rv) :: L) := by rw [hk] at fr0 ⊢; exact fr0.put hd1
  have fr2 := fr1.put (v := v2) hd2
  have e2 := h2 w (Ext.refl w) _ fr1.rho (some d2) pos2 af2 none
  have hw := h _ fr2
  have hlast : ∀ c0' : Frame, c0'.mode = u' → ({ c0 with mode := u' } : Frame) = c0' → y.wpS P (bodyPostS P fn c0 cs fun e u1 w' => (∃ v, e = .returned v) ∧ u1 = u' ∧ R w')
      (((⟨cap.toArray ++ Array.replicate (fn.ntmps - cap.toArray.size) undef, []⟩ : Act).put (some d1) rv).put (some d2) v2) (c0' :: cs) w := by
    intro c0' _ he
    refine wpS_of_wp (wp_mono hw fun e a' w' q => ?_)
    cases e with
    | normal => obtain ⟨q1, v, q2, u, q3, q4⟩ := q; exact ⟨q1, u', by rw [he], v, q2, ⟨v, rfl⟩, rfl, q4⟩
    | ret => obtain ⟨q1, v, q2, u, q3, q4⟩ := q; exact ⟨q1, u', by rw [he], v, q2, ⟨v, rfl⟩, rfl, q4⟩
    | panic c => obtain ⟨_, v, q, _⟩ := q; cases q
    | exit id => exact q.elim
    | goto l => exact q.elim
    | outgrown => obtain ⟨v, q, _⟩ := q; cases q
  have hr : List.range (#[⟨some d1, .call ⟨.builtin .recover, #[], at_⟩, ty1, pos1, af1, none⟩, ⟨some d2, op2, ty2, pos2, af2, none⟩] : Array Oper).size = [0, 1] := rfl
  rw [hr]
  simp only [wpOpsS, List.getElem?_toArray, List.getElem?_cons_zero, List.getElem?_cons_succ, Region.wanted, if_true, e1]
  cases hrec with
  | no =>
    have : recoverD (c0 :: cs) = none := by simp [recoverD, hu]
    simp only [this, e2, Oper.upon]
    exact hlast c0 hu (by rw [← hu])
  | yes =>
    have : recoverD (c0 :: cs) = some (pv, { c0 with mode := .panicking (pchR pv) } :: cs) := by simp [recoverD, hu]
    simp only [this, e2, Oper.upon]
    exact hlast { c0 with mode := .panicking (pchR pv) } rfl rfl
end
end Go.E
