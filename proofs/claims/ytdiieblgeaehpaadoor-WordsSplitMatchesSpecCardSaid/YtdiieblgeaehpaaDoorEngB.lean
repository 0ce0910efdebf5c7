/- Rules for operations that compute, and for calls; no program in sight. -/
import Derived.Test.YtdiieblgeaehpaaDoorEngA
namespace Go.E
open Go

def nth : List Value → Nat → Option Value
  | [], _ => none
  | v :: _, 0 => some v
  | _ :: l, i + 1 => nth l i
theorem nth_eq : ∀ (l : List Value) (i : Nat), nth l i = l[i]?
  | [], _ => rfl
  | _ :: _, 0 => rfl
  | _ :: l, i + 1 => by simpa [nth] using nth_eq l i

def cmpI : BinOp → Int → Int → Option Bool
  | .eql, a, b => some (decide (a = b))
  | .neq, a, b => some (!decide (a = b))
  | .lss, a, b => some (decide (a < b))
  | .leq, a, b => some (decide (a ≤ b))
  | .gtr, a, b => some (decide (b < a))
  | .geq, a, b => some (decide (b ≤ a))
  | _, _, _ => none

def sameK : IntKind → IntKind → Bool
  | .i8, .i8 | .i16, .i16 | .i32, .i32 | .i64, .i64 | .u8, .u8 | .u16, .u16 | .u32, .u32 | .u64, .u64 => true
  | _, _ => false
theorem sameK_eq : ∀ {a b : IntKind}, sameK a b = true → a = b
  | .i8, .i8, _ => rfl | .i16, .i16, _ => rfl | .i32, .i32, _ => rfl | .i64, .i64, _ => rfl
  | .u8, .u8, _ => rfl | .u16, .u16, _ => rfl | .u32, .u32, _ => rfl | .u64, .u64, _ => rfl

/-- What an operation yields that only computes. -/
def pu (L : Env) : Op → Option Value
  | .move x => ev L x
  | .assign x => ev L x
  | .extract x i => match ev L x with
    | some (.tuple vs) => nth vs.toList i
    | _ => none
  | .binOp op _ x y _ => match ev L x, ev L y with
    | some (.int k a), some (.int k' b) => bif sameK k k' then (match cmpI op a b with | some r => some (.bool r) | none => none) else none
    | _, _ => none
  | .unOp .not _ x => match ev L x with
    | some (.bool b) => some (.bool (!b))
    | _ => none
  | .makeFunc fn first captured => match evl L first.toList, evl L captured.toList with
    | some a, some b => some (.func fn a.toArray b.toArray)
    | _, _ => none
  | .pick c a b => match ev L c with
    | some (.bool true) => ev L a
    | some (.bool false) => ev L b
    | _ => none
  | _ => none

section
variable {P : Program} {n : Sz} {ops : Array Oper} {Q : Exit → Act → World → Prop} {L : Env} {w : World} {rest : List Oper}
  {d : Nat} {ty : TypeId} {pos : String} {af : Array Edge}

theorem run_intCmp {op : BinOp} {t : TypeId} {x y : Operand} {k : IntKind} {a b : Int} {r : Bool} (h : cmpI op a b = some r) :
    (do eqGuard op t x y (.int k a) (.int k b); binOp op t (.int k a) (.int k b)).run P w = .ok (.bool r) w := by
  cases op <;> simp only [cmpI, Option.some.injEq, reduceCtorEq] at h <;> subst h <;>
    simp [eqGuard, binOp, Op.intCmp, GT.gt, GE.ge, bne, BEq.beq]

theorem pu_run {op : Op} {v : Value} {dst : Option Tmp} (h : pu L op = some v) (ρ : Operand → Value) (hρ : Rho L ρ) :
    (execOp ρ ⟨dst, op, ty, pos, af, none⟩).run P w = .ok (.value v) w := by
  unfold pu at h
  split at h
  · rename_i x; simp [execOp, hρ x v h]
  · rename_i x; simp [execOp, hρ x v h]
  · rename_i x i
    split at h
    · rename_i vs hx
      rw [nth_eq] at h
      have h' : vs[i]? = some v := by simpa using h
      simp [execOp, hρ x _ hx, Instr.extract, h']
    · cases h
  · rename_i op t x y t'
    split at h
    · rename_i k a k' b hx hy
      cases hk : sameK k k' with
      | false => rw [hk] at h; cases h
      | true =>
        rw [hk] at h
        obtain rfl := sameK_eq hk
        simp only [cond_true] at h
        split at h
        · rename_i r hr
          cases h
          have := run_intCmp (P := P) (w := w) (t := t) (x := x) (y := y) (k := k) hr
          simp only [execOp, hρ x _ hx, hρ y _ hy]
          simp only [Sem.run_bind] at this ⊢
          rw [this]
          rfl
        · cases h
    · cases h
  · rename_i t x
    split at h
    · rename_i b hx; cases h; simp [execOp, hρ x _ hx, Op.unary]
    · cases h
  · rename_i fn first captured
    split at h
    · rename_i a b h1 h2
      cases h
      have e1 := hρ.map _ _ h1
      have e2 := hρ.map _ _ h2
      have f1 : first.map ρ = a.toArray := by apply Array.ext'; simpa using e1
      have f2 : captured.map ρ = b.toArray := by apply Array.ext'; simpa using e2
      simp [execOp, Instr.makeFunc, f1, f2]
    · cases h
  · rename_i c a b
    split at h
    · rename_i hc; simp [execOp, hρ c _ hc, hρ a _ h, asBool]
    · rename_i hc; simp [execOp, hρ c _ hc, hρ b _ h, asBool]
    · cases h
  · cases h

def puStep (n : Sz) (o : Oper) (L : Env) : Option Env :=
  match o with
  | ⟨some d, op, _, _, _, none⟩ => match pu L op with
    | some v => bif Nat.blt d n.n then some ((d, v) :: L) else none
    | none => none
  | _ => none

def puK (n : Sz) : Nat → List Oper → Env → Option (List Oper × Env)
  | 0, l, L => some (l, L)
  | k + 1, o :: l, L => match puStep n o L with
    | some L' => puK n k l L'
    | none => none
  | _ + 1, [], _ => none

theorem S_puStep {o : Oper} {L' : Env} (h : puStep n o L = some L') (hS : S P n ops Q rest L' w) : S P n ops Q (o :: rest) L w := by
  unfold puStep at h
  split at h
  · rename_i d op t ps aft
    split at h
    · rename_i v hv
      cases hd : Nat.blt d n.n with
      | false => rw [hd] at h; cases h
      | true => rw [hd] at h; cases h; exact S_value rfl rfl hd (pu_run hv) hS
    · cases h
  · cases h

/-- Some operations at once that only compute. -/
theorem S_pu : ∀ (k : Nat) {l l' : List Oper} {L L' : Env} (_ : puK n k l L = some (l', L')) (_ : S P n ops Q l' L' w), S P n ops Q l L w
  | 0, l, l', L, L', h, hS => by simp only [puK, Option.some.injEq, Prod.mk.injEq] at h; obtain ⟨rfl, rfl⟩ := h; exact hS
  | k + 1, [], l', L, L', h, hS => by simp only [puK, reduceCtorEq] at h
  | k + 1, o :: l, l', L, L', h, hS => by
    simp only [puK] at h
    split at h
    · rename_i L1 h1; exact S_puStep h1 (S_pu k h hS)
    · cases h

/-! ### Integers -/
theorem wrap64 {x : Int} (h1 : -9223372036854775808 ≤ x) (h2 : x ≤ 9223372036854775807) : IntKind.i64.wrap x = x := by
  simp only [IntKind.wrap, IntKind.bits, IntKind.signed, Bool.true_and, decide_eq_true_eq, ge_iff_le]
  split <;> omega
theorem wrapU8 {x : Int} (h1 : 0 ≤ x) (h2 : x < 256) : IntKind.u8.wrap x = x := by
  simp only [IntKind.wrap, IntKind.bits, IntKind.signed, Bool.false_and, Bool.false_eq_true, if_false]
  omega
theorem wrapU8' {x : Int} : IntKind.u8.wrap x = x % 256 := by
  simp only [IntKind.wrap, IntKind.bits, IntKind.signed, Bool.false_and, Bool.false_eq_true, if_false]
  omega
theorem wrapU32' {x : Int} : IntKind.u32.wrap x = x % 4294967296 := by
  simp only [IntKind.wrap, IntKind.bits, IntKind.signed, Bool.false_and, Bool.false_eq_true, if_false]
  omega
theorem wrapI32 {x : Int} (h1 : -2147483648 ≤ x) (h2 : x ≤ 2147483647) : IntKind.i32.wrap x = x := by
  simp only [IntKind.wrap, IntKind.bits, IntKind.signed, Bool.true_and, decide_eq_true_eq, ge_iff_le]
  split <;> omega

def arI : BinOp → Int → Int → Option Int
  | .add, a, b => some (a + b)
  | .sub, a, b => some (a - b)
  | .mul, a, b => some (a * b)
  | _, _, _ => none

/-- '+', '-', '*' of one kind, whatever the wrap gives. -/
theorem S_ar {op : BinOp} {t t' : TypeId} {x y : Operand} {k : IntKind} {a b c r : Int} (hx : ev L x = some (.int k a)) (hy : ev L y = some (.int k b)) (ho : arI op a b = some c) (hw : k.wrap c = r) (hn : Nat.blt d n.n = true)
    (h : S P n ops Q rest ((d, .int k r) :: L) w) : S P n ops Q (⟨some d, .binOp op t x y t', ty, pos, af, none⟩ :: rest) L w :=
  S_value rfl rfl hn (fun ρ hρ => by
    subst hw
    cases op <;> simp only [arI, Option.some.injEq, reduceCtorEq] at ho <;> subst ho <;>
      simp [execOp, hρ x _ hx, hρ y _ hy, eqGuard, binOp, Op.intArith]) h

/-- '+', '-', '*' of ints that stay in range. -/
theorem S_ar64 {op : BinOp} {t t' : TypeId} {x y : Operand} {a b c : Int} (hx : ev L x = some (.int .i64 a)) (hy : ev L y = some (.int .i64 b)) (ho : arI op a b = some c) (hn : Nat.blt d n.n = true)
    (h1 : -9223372036854775808 ≤ c ∧ c ≤ 9223372036854775807) (h : S P n ops Q rest ((d, .int .i64 c) :: L) w) : S P n ops Q (⟨some d, .binOp op t x y t', ty, pos, af, none⟩ :: rest) L w :=
  S_ar hx hy ho (wrap64 h1.1 h1.2) hn h

theorem tdiv_pos {a b : Int} (ha : 0 ≤ a) : a.tdiv b = a / b := Int.tdiv_eq_ediv_of_nonneg ha
theorem tmod_pos {a b : Int} (ha : 0 ≤ a) : a.tmod b = a % b := Int.tmod_eq_emod_of_nonneg ha
theorem ediv_le {a b : Int} (ha : 0 ≤ a) (hb : 0 < b) : 0 ≤ a / b ∧ a / b ≤ a := by
  refine ⟨Int.ediv_nonneg ha (by omega), ?_⟩
  exact Int.ediv_le_self b ha

theorem S_quo {t t' : TypeId} {x y : Operand} {a b : Int} (hx : ev L x = some (.int .i64 a)) (hy : ev L y = some (.int .i64 b)) (hn : Nat.blt d n.n = true)
    (h1 : 0 ≤ a ∧ a ≤ 9223372036854775807 ∧ 0 < b) (h : S P n ops Q rest ((d, .int .i64 (a / b)) :: L) w) : S P n ops Q (⟨some d, .binOp .quo t x y t', ty, pos, af, none⟩ :: rest) L w :=
  S_value rfl rfl hn (fun ρ hρ => by
    have hb : b ≠ 0 := by omega
    have ⟨e1, e2⟩ := ediv_le h1.1 h1.2.2
    simp [execOp, hρ x _ hx, hρ y _ hy, eqGuard, binOp, Op.intDiv, hb, tdiv_pos h1.1, wrap64 (x := a / b) (by omega) (by omega)]) h
theorem S_rem {t t' : TypeId} {x y : Operand} {a b : Int} {k : IntKind} (hx : ev L x = some (.int k a)) (hy : ev L y = some (.int k b)) (hn : Nat.blt d n.n = true)
    (h1 : 0 ≤ a ∧ 0 < b) (h : S P n ops Q rest ((d, .int k (a % b)) :: L) w) : S P n ops Q (⟨some d, .binOp .rem t x y t', ty, pos, af, none⟩ :: rest) L w :=
  S_value rfl rfl hn (fun ρ hρ => by
    have hb : b ≠ 0 := by omega
    simp [execOp, hρ x _ hx, hρ y _ hy, eqGuard, binOp, Op.intDiv, hb, tmod_pos h1.1]) h

/-- A conversion between integers. -/
theorem S_conv {s t : TypeId} {x : Operand} {k k' : IntKind} {a r : Int} {u : TypeDesc} (hs : P.underlying s = some u) (ht : P.underlying t = some (.int k)) (hx : ev L x = some (.int k' a)) (hw : k.wrap a = r) (hn : Nat.blt d n.n = true)
    (h : S P n ops Q rest ((d, .int k r) :: L) w) : S P n ops Q (⟨some d, .convert s t x, ty, pos, af, none⟩ :: rest) L w :=
  S_value rfl rfl hn (fun ρ hρ => by subst hw; simp [execOp, hρ x _ hx, convert, run_underlying hs, run_underlying ht, Conv.intToInt]) h

/-- A call of a function of the program. -/
theorem run_call {f : FuncId} {args : List Operand} {vs : List Value} {at_ : Array TypeId} {dst : Option Tmp} (hc : Callable P f) (ha : evl L args = some vs) (ρ : Operand → Value) (hρ : Rho L ρ) :
    (execOp ρ ⟨dst, .call ⟨.value (.func f), args.toArray, at_⟩, ty, pos, af, none⟩).run P w = .ok (.enter f vs.toArray) w := by
  obtain ⟨fn, c, h1, h2, h3⟩ := hc
  have e0 : ρ (.func f) = .func (.func f) #[] #[] := hρ _ _ rfl
  have e1 := hρ.map _ _ ha
  have h2' : ¬ fn.name = "runtime.NumGoroutine" := by simpa using h2
  simp [execOp, resolve, e0, Deferred.ofValue, e1, invoke, callFunc, h1, h2', h3]

theorem S_call {f : FuncId} {args : List Operand} {vs : List Value} {at_ : Array TypeId} {R : Value → World → Prop} (ha : evl L args = some vs) (hn : Nat.blt d n.n = true) (hok : Ok P f vs w R)
    (h : ∀ v w', R v w' → S P n ops Q rest ((d, v) :: L) w') : S P n ops Q (⟨some d, .call ⟨.value (.func f), args.toArray, at_⟩, ty, pos, af, none⟩ :: rest) L w :=
  S_op rfl fun a fr => by
    unfold Oper.wp
    rw [run_call hok.1 ha _ fr.rho]
    refine hok.2.mono fun e w' ⟨v, he, hv⟩ => ?_
    subst he
    exact h v w' hv _ (fr.put hn)
/-! ### '&&' and '||' of what only computes -/
/-- The operations under one guard, as if the guard said yes; their slots must be new. -/
def puG (n : Sz) (j : Nat) (want : Bool) (L0 : Env) : Nat → List Oper → Env → Option (List Oper × Env)
  | 0, l, L => some (l, L)
  | k + 1, ⟨some d, op, ty, pos, af, some (j', want')⟩ :: l, L =>
    bif Nat.beq j j' && (want == want') && (gt L0 d).isNone then
      match puStep n ⟨some d, op, ty, pos, af, none⟩ L with
      | some L' => puG n j want L0 k l L'
      | none => none
    else none
  | _ + 1, _, _ => none

theorem S_group_yes {j : Nat} {want : Bool} {t : Nat} {L0 : Env} (hj : ((ops[j]?).bind (·.dst)) = some t) : ∀ (k : Nat) {l l' : List Oper} {L L' : Env}, gt L t = some (.bool want) → gt L0 t = some (.bool want) → puG n j want L0 k l L = some (l', L') →
    S P n ops Q l' L' w → S P n ops Q l L w := by
  intro k
  induction k with
  | zero => intro l l' L L' _ _ h hS; simp only [puG, Option.some.injEq, Prod.mk.injEq] at h; obtain ⟨rfl, rfl⟩ := h; exact hS
  | succ k ih =>
    intro l l' L L' hb h0 h hS
    match l, h with
    | [], h => cases h
    | ⟨none, _, _, _, _, _⟩ :: l, h => cases h
    | ⟨some d, op, ty, pos, af, none⟩ :: l, h => cases h
    | ⟨some d, op, ty, pos, af, some (j', want')⟩ :: l, h =>
      simp only [puG] at h
      cases hc : (Nat.beq j j' && (want == want') && (gt L0 d).isNone) with
      | false => rw [hc] at h; cases h
      | true =>
        rw [hc] at h
        simp only [Bool.and_eq_true, Option.isNone_iff_eq_none] at hc
        obtain ⟨⟨c1, c2⟩, c3⟩ := hc
        obtain rfl := Nat.eq_of_beq_eq_true c1
        obtain rfl : want = want' := by simpa using c2
        simp only [cond_true] at h
        split at h
        · rename_i L1 h1
          refine S_guarded hj hb rfl (S_puStep h1 (ih ?_ h0 h hS))
          simp only [puStep] at h1
          split at h1
          · rename_i v hv
            cases hd : Nat.blt d n.n with
            | false => rw [hd] at h1; cases h1
            | true =>
              rw [hd] at h1; cases h1
              rw [gt_cons]
              by_cases e : d = t
              · subst e; rw [h0] at c3; cases c3
              · rw [if_neg e]; exact hb
          · cases h1
        · cases h

theorem S_group_no {j : Nat} {want : Bool} {t : Nat} {L0 : Env} (hj : ((ops[j]?).bind (·.dst)) = some t) : ∀ (k : Nat) {l l' : List Oper} {L L' M : Env}, Sub L0 M → gt L0 t = some (.bool (!want)) → puG n j want L0 k l L = some (l', L') →
    (∀ M', Sub L0 M' → S P n ops Q l' M' w) → S P n ops Q l M w := by
  intro k
  induction k with
  | zero => intro l l' L L' M hM _ h hS; simp only [puG, Option.some.injEq, Prod.mk.injEq] at h; obtain ⟨rfl, rfl⟩ := h; exact hS M hM
  | succ k ih =>
    intro l l' L L' M hM h0 h hS
    match l, h with
    | [], h => cases h
    | ⟨none, _, _, _, _, _⟩ :: l, h => cases h
    | ⟨some d, op, ty, pos, af, none⟩ :: l, h => cases h
    | ⟨some d, op, ty, pos, af, some (j', want')⟩ :: l, h =>
      simp only [puG] at h
      cases hc : (Nat.beq j j' && (want == want') && (gt L0 d).isNone) with
      | false => rw [hc] at h; cases h
      | true =>
        rw [hc] at h
        simp only [Bool.and_eq_true, Option.isNone_iff_eq_none] at hc
        obtain ⟨⟨c1, c2⟩, c3⟩ := hc
        obtain rfl := Nat.eq_of_beq_eq_true c1
        obtain rfl : want = want' := by simpa using c2
        simp only [cond_true] at h
        split at h
        · rename_i L1 h1
          have hd : Nat.blt d n.n = true := by
            simp only [puStep] at h1
            split at h1
            · cases hd : Nat.blt d n.n with
              | false => rw [hd] at h1; cases h1
              | true => rfl
            · cases h1
          refine S_unwanted hj (hM t _ h0) rfl hd (ih (fun t' v hv => ?_) h0 h hS)
          rw [gt_cons]
          by_cases e : d = t'
          · subst e; rw [hv] at c3; cases c3
          · rw [if_neg e]; exact hM t' v hv
        · cases h

theorem Sub.both {t : Nat} {v : Value} {L L' : Env} (h : Sub L L') : Sub ((t, v) :: L) ((t, v) :: L') := fun t' u hu => by
  rw [gt_cons] at hu ⊢
  by_cases e : t = t'
  · rw [if_pos e] at hu ⊢; exact hu
  · rw [if_neg e] at hu ⊢; exact h t' u hu

theorem puG_sub {j : Nat} {want : Bool} {L0 : Env} : ∀ (k : Nat) {l l' : List Oper} {L L' : Env}, Sub L0 L → puG n j want L0 k l L = some (l', L') → Sub L0 L' := by
  intro k
  induction k with
  | zero => intro l l' L L' hM h; simp only [puG, Option.some.injEq, Prod.mk.injEq] at h; obtain ⟨rfl, rfl⟩ := h; exact hM
  | succ k ih =>
    intro l l' L L' hM h
    match l, h with
    | [], h => cases h
    | ⟨none, _, _, _, _, _⟩ :: l, h => cases h
    | ⟨some d, op, ty, pos, af, none⟩ :: l, h => cases h
    | ⟨some d, op, ty, pos, af, some (j', want')⟩ :: l, h =>
      simp only [puG] at h
      cases hc : (Nat.beq j j' && (want == want') && (gt L0 d).isNone) with
      | false => rw [hc] at h; cases h
      | true =>
        rw [hc] at h
        simp only [Bool.and_eq_true, Option.isNone_iff_eq_none] at hc
        obtain ⟨⟨c1, c2⟩, c3⟩ := hc
        simp only [cond_true] at h
        split at h
        · rename_i L1 h1
          refine ih ?_ h
          simp only [puStep] at h1
          split at h1
          · rename_i v hv
            cases hd : Nat.blt d n.n with
            | false => rw [hd] at h1; cases h1
            | true =>
              rw [hd] at h1; cases h1
              intro t' u hu
              rw [gt_cons]
              by_cases e : d = t'
              · subst e; rw [hu] at c3; cases c3
              · rw [if_neg e]; exact hM t' u hu
          · cases h1
        · cases h

theorem Sub.ev {L M : Env} (hM : Sub L M) {x : Operand} {v : Value} (hx : ev L x = some v) : ev M x = some v := by
  cases x with
  | tmp t => exact hM t v hx
  | const _ => exact hx
  | func _ => exact hx
  | _ => exact hx

/-- The group under a guard, then the pick of two bools: the first under the guard. -/
theorem S_pickT (k j : Nat) {t : Nat} {b r s : Bool} {c x y : Operand} {l l' : List Oper} {L1 : Env} (hj : ((ops[j]?).bind (·.dst)) = some t) (hb : gt L t = some (.bool b))
    (hg : puG n j true L k l L = some (⟨some d, .pick c x y, ty, pos, af, none⟩ :: l', L1)) (hc : ev L c = some (.bool b)) (hx : ev L1 x = some (.bool r)) (hy : ev L y = some (.bool s)) (hn : Nat.blt d n.n = true)
    (h : S P n ops Q l' ((d, .bool (bif b then r else s)) :: L) w) : S P n ops Q l L w := by
  have hsub : Sub L L1 := puG_sub k (Sub.refl L) hg
  cases b with
  | true =>
    refine S_group_yes (L0 := L) hj k hb hb hg ?_
    refine S_value rfl rfl hn (v := .bool r) (w' := w) (fun ρ hρ => by simp [execOp, hρ c _ (Sub.ev hsub hc), hρ x _ hx, asBool]) ?_
    exact S.sub h hsub.both
  | false =>
    refine S_group_no (L0 := L) (want := true) hj k (Sub.refl L) hb hg fun M hM => ?_
    refine S_value rfl rfl hn (v := .bool s) (w' := w) (fun ρ hρ => by simp [execOp, hρ c _ (Sub.ev hM hc), hρ y _ (Sub.ev hM hy), asBool]) ?_
    exact S.sub h hM.both

theorem S_pickF (k j : Nat) {t : Nat} {b r s : Bool} {c x y : Operand} {l l' : List Oper} {L1 : Env} (hj : ((ops[j]?).bind (·.dst)) = some t) (hb : gt L t = some (.bool b))
    (hg : puG n j false L k l L = some (⟨some d, .pick c x y, ty, pos, af, none⟩ :: l', L1)) (hc : ev L c = some (.bool b)) (hx : ev L x = some (.bool r)) (hy : ev L1 y = some (.bool s)) (hn : Nat.blt d n.n = true)
    (h : S P n ops Q l' ((d, .bool (bif b then r else s)) :: L) w) : S P n ops Q l L w := by
  have hsub : Sub L L1 := puG_sub k (Sub.refl L) hg
  cases b with
  | false =>
    refine S_group_yes (L0 := L) hj k hb hb hg ?_
    refine S_value rfl rfl hn (v := .bool s) (w' := w) (fun ρ hρ => by simp [execOp, hρ c _ (Sub.ev hsub hc), hρ y _ hy, asBool]) ?_
    exact S.sub h hsub.both
  | true =>
    refine S_group_no (L0 := L) (want := false) hj k (Sub.refl L) hb hg fun M hM => ?_
    refine S_value rfl rfl hn (v := .bool r) (w' := w) (fun ρ hρ => by simp [execOp, hρ c _ (Sub.ev hM hc), hρ x _ (Sub.ev hM hx), asBool]) ?_
    exact S.sub h hM.both

theorem dec_and {p q : Prop} [Decidable p] [Decidable q] : (bif decide p then decide q else false) = decide (p ∧ q) := by by_cases hp : p <;> simp [hp]
theorem dec_or {p q : Prop} [Decidable p] [Decidable q] : (bif decide p then true else decide q) = decide (p ∨ q) := by by_cases hp : p <;> simp [hp]

/-- 'a && b', both decided propositions. -/
theorem S_and (k j : Nat) {t : Nat} {p q : Prop} [Decidable p] [Decidable q] {c x : Operand} {l l' : List Oper} {L1 : Env} (hj : ((ops[j]?).bind (·.dst)) = some t) (hb : gt L t = some (.bool (decide p)))
    (hg : puG n j true L k l L = some (⟨some d, .pick c x (.const (.bool false)), ty, pos, af, none⟩ :: l', L1)) (hc : ev L c = some (.bool (decide p))) (hx : ev L1 x = some (.bool (decide q))) (hn : Nat.blt d n.n = true)
    (h : S P n ops Q l' ((d, .bool (decide (p ∧ q))) :: L) w) : S P n ops Q l L w :=
  S_pickT k j hj hb hg hc hx rfl hn (by rw [dec_and]; exact h)
theorem S_or (k j : Nat) {t : Nat} {p q : Prop} [Decidable p] [Decidable q] {c y : Operand} {l l' : List Oper} {L1 : Env} (hj : ((ops[j]?).bind (·.dst)) = some t) (hb : gt L t = some (.bool (decide p)))
    (hg : puG n j false L k l L = some (⟨some d, .pick c (.const (.bool true)) y, ty, pos, af, none⟩ :: l', L1)) (hc : ev L c = some (.bool (decide p))) (hy : ev L1 y = some (.bool (decide q))) (hn : Nat.blt d n.n = true)
    (h : S P n ops Q l' ((d, .bool (decide (p ∨ q))) :: L) w) : S P n ops Q l L w :=
  S_pickF k j hj hb hg hc rfl hy hn (by rw [dec_or]; exact h)
end
end Go.E
