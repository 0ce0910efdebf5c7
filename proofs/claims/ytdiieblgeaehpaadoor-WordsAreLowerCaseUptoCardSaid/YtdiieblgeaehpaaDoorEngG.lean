/- More operations: bits, structs held against each other, strings, closures; results that lie in cells. No program in sight. -/
import Derived.Test.YtdiieblgeaehpaaDoorEngF
import Derived.Laws.StructEq
namespace Go.E
open Go Go.RowKit

theorem u8_lt (b : UInt8) : (b.toNat : Int) < 256 := by have := b.toNat_lt; omega
theorem conv_8_64 (b : UInt8) : IntKind.i64.wrap (b.toNat : Int) = (b.toNat : Int) := by
  have := b.toNat_lt; exact wrap64 (by omega) (by omega)
theorem conv_64_8 {x : Int} (h : 0 ≤ x) : IntKind.u8.wrap x = ((UInt8.ofNat x.toNat).toNat : Int) := by
  have e : (UInt8.ofNat x.toNat).toNat = x.toNat % 256 := by simp
  rw [wrapU8', e]
  omega

section
variable {P : Program} {n : Sz} {ops : Array Oper} {Q : Exit → Act → World → Prop} {L : Env} {w w0 : World} {O : List Res} {rest : List Oper}
  {d : Nat} {ty : TypeId} {pos : String} {af : Array Edge} {α : Type} {r : Rp α} {H : PH} {x y : Operand} {v : Value} {t t' e : TypeId}

/-! ### Integers as values that are the same in every world -/
theorem r_ar {op : BinOp} {k : IntKind} {a b c s : Int} (hx : ev L x = some (.int k a)) (hy : ev L y = some (.int k b)) (ho : arI op a b = some c) (hw : k.wrap c = s) : RunsAt P L w (.binOp op t x y t') ty (.int k s) := by
  intro w' _ ρ hρ dst pos af g
  subst hw
  cases op <;> simp only [arI, Option.some.injEq, reduceCtorEq] at ho <;> subst ho <;>
    simp [execOp, hρ x _ hx, hρ y _ hy, eqGuard, binOp, Op.intArith]
theorem r_ar64 {op : BinOp} {a b c : Int} (hx : ev L x = some (.int .i64 a)) (hy : ev L y = some (.int .i64 b)) (ho : arI op a b = some c) (h1 : -9223372036854775808 ≤ c ∧ c ≤ 9223372036854775807) : RunsAt P L w (.binOp op t x y t') ty (.int .i64 c) :=
  r_ar hx hy ho (wrap64 h1.1 h1.2)
theorem r_quo {a b : Int} (hx : ev L x = some (.int .i64 a)) (hy : ev L y = some (.int .i64 b)) (h1 : 0 ≤ a ∧ a ≤ 9223372036854775807 ∧ 0 < b) : RunsAt P L w (.binOp .quo t x y t') ty (.int .i64 (a / b)) := by
  intro w' _ ρ hρ dst pos af g
  have hb : b ≠ 0 := by omega
  have ⟨e1, e2⟩ := ediv_le h1.1 h1.2.2
  simp [execOp, hρ x _ hx, hρ y _ hy, eqGuard, binOp, Op.intDiv, hb, tdiv_pos h1.1, wrap64 (x := a / b) (by omega) (by omega)]
theorem r_rem {a b : Int} {k : IntKind} (hx : ev L x = some (.int k a)) (hy : ev L y = some (.int k b)) (h1 : 0 ≤ a ∧ 0 < b) : RunsAt P L w (.binOp .rem t x y t') ty (.int k (a % b)) := by
  intro w' _ ρ hρ dst pos af g
  have hb : b ≠ 0 := by omega
  simp [execOp, hρ x _ hx, hρ y _ hy, eqGuard, binOp, Op.intDiv, hb, tmod_pos h1.1]
theorem r_conv {k k' : IntKind} {a s : Int} {u : TypeDesc} (hs : P.underlying t = some u) (ht : P.underlying t' = some (.int k)) (hx : ev L x = some (.int k' a)) (hw : k.wrap a = s) : RunsAt P L w (.convert t t' x) ty (.int k s) := by
  intro w' _ ρ hρ dst pos af g
  subst hw; simp [execOp, hρ x _ hx, convert, run_underlying hs, run_underlying ht, Conv.intToInt]

def bitB : BinOp → UInt8 → UInt8 → Option UInt8
  | .xor, a, b => some (a ^^^ b)
  | .and, a, b => some (a &&& b)
  | .or, a, b => some (a ||| b)
  | _, _, _ => none
theorem ofInt8 (a : UInt8) : BitVec.ofInt 8 (a.toNat : Int) = a.toBitVec := by
  apply BitVec.eq_of_toNat_eq
  have := a.toNat_lt
  simp
/-- Bits of bytes. -/
theorem r_bit8 {op : BinOp} {a b c : UInt8} (hx : ev L x = some (.int .u8 (a.toNat : Int))) (hy : ev L y = some (.int .u8 (b.toNat : Int))) (ho : bitB op a b = some c) : RunsAt P L w (.binOp op t x y t') ty (.int .u8 (c.toNat : Int)) := by
  intro w' _ ρ hρ dst pos af g
  have hc := c.toNat_lt
  cases op <;> simp only [bitB, Option.some.injEq, reduceCtorEq] at ho <;> subst ho
  · have e : (Op.intBits .and .u8 (a.toNat : Int) (b.toNat : Int)).run P w' = .ok (.int .u8 ((a &&& b).toNat : Int)) w' := by
      show Result.ok (Value.int .u8 (IntKind.u8.wrap ((BitVec.ofInt 8 (a.toNat : Int) &&& BitVec.ofInt 8 (b.toNat : Int)).toNat : Int))) w' = _
      rw [ofInt8, ofInt8, show (a.toBitVec &&& b.toBitVec).toNat = (a &&& b).toNat from rfl, wrapU8 (by omega) (by omega)]
    simp only [execOp, hρ x _ hx, hρ y _ hy, eqGuard, binOp, Sem.run_bind, ne_eq, not_true_eq_false, if_false, Bool.not_false, if_true, Sem.run_pure, Result.andThen_ok, e]
  · have e : (Op.intBits .or .u8 (a.toNat : Int) (b.toNat : Int)).run P w' = .ok (.int .u8 ((a ||| b).toNat : Int)) w' := by
      show Result.ok (Value.int .u8 (IntKind.u8.wrap ((BitVec.ofInt 8 (a.toNat : Int) ||| BitVec.ofInt 8 (b.toNat : Int)).toNat : Int))) w' = _
      rw [ofInt8, ofInt8, show (a.toBitVec ||| b.toBitVec).toNat = (a ||| b).toNat from rfl, wrapU8 (by omega) (by omega)]
    simp only [execOp, hρ x _ hx, hρ y _ hy, eqGuard, binOp, Sem.run_bind, ne_eq, not_true_eq_false, if_false, Bool.not_false, if_true, Sem.run_pure, Result.andThen_ok, e]
  · have e : (Op.intBits .xor .u8 (a.toNat : Int) (b.toNat : Int)).run P w' = .ok (.int .u8 ((a ^^^ b).toNat : Int)) w' := by
      show Result.ok (Value.int .u8 (IntKind.u8.wrap ((BitVec.ofInt 8 (a.toNat : Int) ^^^ BitVec.ofInt 8 (b.toNat : Int)).toNat : Int))) w' = _
      rw [ofInt8, ofInt8, show (a.toBitVec ^^^ b.toBitVec).toNat = (a ^^^ b).toNat from rfl, wrapU8 (by omega) (by omega)]
    simp only [execOp, hρ x _ hx, hρ y _ hy, eqGuard, binOp, Sem.run_bind, ne_eq, not_true_eq_false, if_false, Bool.not_false, if_true, Sem.run_pure, Result.andThen_ok, e]

def bitN : BinOp → Nat → Nat → Option Nat
  | .xor, a, b => some (a ^^^ b)
  | .and, a, b => some (a &&& b)
  | .or, a, b => some (a ||| b)
  | _, _, _ => none
/-- Bits of ints that are not negative. -/
theorem r_bit64 {op : BinOp} {a b c : Nat} {p q : Int} (hx : ev L x = some (.int .i64 p)) (hy : ev L y = some (.int .i64 q)) (hpa : p = a) (hqb : q = b) (ho : bitN op a b = some c) (ha : a < 2 ^ 63) (hb : b < 2 ^ 63) : RunsAt P L w (.binOp op t x y t') ty (.int .i64 (c : Int)) := by
  intro w' _ ρ hρ dst pos af g
  subst hpa; subst hqb
  have ea : (BitVec.ofInt 64 (a : Int)).toNat = a := by simp; omega
  have eb : (BitVec.ofInt 64 (b : Int)).toNat = b := by simp; omega
  cases op <;> simp only [bitN, Option.some.injEq, reduceCtorEq] at ho <;> subst ho
  · have hlt : a &&& b < 2 ^ 63 := Nat.and_lt_two_pow _ hb
    have e : (Op.intBits .and .i64 (a : Int) (b : Int)).run P w' = .ok (.int .i64 ((a &&& b : Nat) : Int)) w' := by
      show Result.ok (Value.int .i64 (IntKind.i64.wrap ((BitVec.ofInt 64 (a : Int) &&& BitVec.ofInt 64 (b : Int)).toNat : Int))) w' = _
      rw [BitVec.toNat_and, ea, eb, wrap64 (by omega) (by omega)]
    simp only [execOp, hρ x _ hx, hρ y _ hy, eqGuard, binOp, Sem.run_bind, ne_eq, not_true_eq_false, if_false, Bool.not_false, if_true, Sem.run_pure, Result.andThen_ok, e]
  · have hlt : a ||| b < 2 ^ 63 := Nat.or_lt_two_pow ha hb
    have e : (Op.intBits .or .i64 (a : Int) (b : Int)).run P w' = .ok (.int .i64 ((a ||| b : Nat) : Int)) w' := by
      show Result.ok (Value.int .i64 (IntKind.i64.wrap ((BitVec.ofInt 64 (a : Int) ||| BitVec.ofInt 64 (b : Int)).toNat : Int))) w' = _
      rw [BitVec.toNat_or, ea, eb, wrap64 (by omega) (by omega)]
    simp only [execOp, hρ x _ hx, hρ y _ hy, eqGuard, binOp, Sem.run_bind, ne_eq, not_true_eq_false, if_false, Bool.not_false, if_true, Sem.run_pure, Result.andThen_ok, e]
  · have hlt : a ^^^ b < 2 ^ 63 := Nat.xor_lt_two_pow ha hb
    have e : (Op.intBits .xor .i64 (a : Int) (b : Int)).run P w' = .ok (.int .i64 ((a ^^^ b : Nat) : Int)) w' := by
      show Result.ok (Value.int .i64 (IntKind.i64.wrap ((BitVec.ofInt 64 (a : Int) ^^^ BitVec.ofInt 64 (b : Int)).toNat : Int))) w' = _
      rw [BitVec.toNat_xor, ea, eb, wrap64 (by omega) (by omega)]
    simp only [execOp, hρ x _ hx, hρ y _ hy, eqGuard, binOp, Sem.run_bind, ne_eq, not_true_eq_false, if_false, Bool.not_false, if_true, Sem.run_pure, Result.andThen_ok, e]
/-- Bits of bytes that are told as numbers. -/
theorem r_bitN8 {op : BinOp} {a b c : Nat} {p q : Int} (hx : ev L x = some (.int .u8 p)) (hy : ev L y = some (.int .u8 q)) (hpa : p = a) (hqb : q = b) (ho : bitN op a b = some c) (ha : a < 256) (hb : b < 256) : RunsAt P L w (.binOp op t x y t') ty (.int .u8 (c : Int)) := by
  subst hpa; subst hqb
  have ea : (UInt8.ofNat a).toNat = a := by simp; omega
  have eb : (UInt8.ofNat b).toNat = b := by simp; omega
  rw [← ea] at hx
  rw [← eb] at hy
  cases op <;> simp only [bitN, Option.some.injEq, reduceCtorEq] at ho <;> subst ho
  · have := r_bit8 (P := P) (w := w) (t := t) (t' := t') (ty := ty) (op := .and) hx hy rfl
    simpa [ea, eb] using this
  · have := r_bit8 (P := P) (w := w) (t := t) (t' := t') (ty := ty) (op := .or) hx hy rfl
    simpa [ea, eb] using this
  · have := r_bit8 (P := P) (w := w) (t := t) (t' := t') (ty := ty) (op := .xor) hx hy rfl
    simpa [ea, eb] using this
/-- Shifts by a known count. -/
theorem r_shl {k k' : IntKind} {a s m : Int} {c : Nat} (hx : ev L x = some (.int k a)) (hy : ev L y = some (.int k' (c : Int))) (hm : (2 : Int) ^ c = m) (hc : c ≤ k.bits) (hw : k.wrap (a * m) = s) : RunsAt P L w (.binOp .shl t x y t') ty (.int k s) := by
  intro w' _ ρ hρ dst pos af g
  subst hm
  subst hw
  have : ¬ ((c : Int) < 0) := by omega
  simp [execOp, hρ x _ hx, hρ y _ hy, eqGuard, binOp, Op.shift, this, Nat.min_eq_left hc]
theorem r_shr {k k' : IntKind} {a m : Int} {c : Nat} (hx : ev L x = some (.int k a)) (hy : ev L y = some (.int k' (c : Int))) (hm : (2 : Int) ^ c = m) (hc : c ≤ k.bits) : RunsAt P L w (.binOp .shr t x y t') ty (.int k (a / m)) := by
  intro w' _ ρ hρ dst pos af g
  subst hm
  have : ¬ ((c : Int) < 0) := by omega
  have e : a.fdiv (2 ^ c) = a / 2 ^ c := Int.fdiv_eq_ediv_of_nonneg a (by exact Int.le_of_lt (Int.pow_pos (by decide)))
  simp [execOp, hρ x _ hx, hρ y _ hy, eqGuard, binOp, Op.shift, this, Nat.min_eq_left hc, e]

/-! ### Structs held against each other -/
theorem r_eqA {xs ys : Array Value} {q : Bool} (hx : ev L x = some (.agg xs)) (hy : ev L y = some (.agg ys)) (hg : P.eqGuardType P.depth t = false) (he : ∀ w, (Op.equalIn 10000 t (.agg xs) (.agg ys)).run P w = .ok q w) : RunsAt P L w (.binOp .eql t x y t') ty (.bool q) := by
  intro w' _ ρ hρ dst pos af g
  simp [execOp, hρ x _ hx, hρ y _ hy, run_eqGuard_agg w' .eql t x y xs ys hg, run_eql_struct, he w']
theorem r_neA {xs ys : Array Value} {q : Bool} (hx : ev L x = some (.agg xs)) (hy : ev L y = some (.agg ys)) (hg : P.eqGuardType P.depth t = false) (he : ∀ w, (Op.equalIn 10000 t (.agg xs) (.agg ys)).run P w = .ok q w) : RunsAt P L w (.binOp .neq t x y t') ty (.bool (!q)) := by
  intro w' _ ρ hρ dst pos af g
  simp [execOp, hρ x _ hx, hρ y _ hy, run_eqGuard_agg w' .neq t x y xs ys hg, run_neq_struct, he w']
/-- Two fields that are ints. -/
theorem eq_two {f0 f1 : Field} {k0 k1 : IntKind} (ht : P.underlying t = some (.struct (P.fieldsOf t))) (hp : P.stoodInHeld t = false) (hf : (P.fieldsOf t).toList = [f0, f1]) (h0 : f0.name ≠ "_" ∧ f0.offset = 0) (h1 : f1.name ≠ "_" ∧ f1.offset = 1)
    (u0 : P.underlying f0.type = some (.int k0)) (u1 : P.underlying f1.type = some (.int k1)) (a b c e : Int) (w : World) :
    (Op.equalIn 10000 t (.agg #[.int k0 a, .int k1 b]) (.agg #[.int k0 c, .int k1 e])).run P w = .ok (decide (a = c ∧ b = e)) w := by
  rw [run_equalIn_struct w 9999 t _ _ ht hp, hf]
  have key : ∀ dd : Nat, (Op.eqFields (dd + 1) #[.int k0 a, .int k1 b] #[.int k0 c, .int k1 e] [f0, f1]).run P w = .ok (decide (a = c ∧ b = e)) w := by
    intro dd
    by_cases e1 : a = c <;> by_cases e2 : b = e <;>
      simp [Op.eqFields, h0.1, h1.1, h0.2, h1.2, part, isAgg, run_underlying u0, run_underlying u1, run_equalIn_int w dd _ _ _ _ _ u0, run_equalIn_int w dd _ _ _ _ _ u1, e1, e2]
  exact key 9998

/-! ### Strings -/
theorem foldl_push : ∀ (l : List UInt8) (s : ByteArray), (l.map (fun b => ((b.toNat : Nat) : Int))).foldl (fun r n => r.push (UInt8.ofNat n.toNat)) s = ⟨s.data ++ l.toArray⟩
  | [], s => by simp
  | b :: l, s => by
    rw [List.map_cons, List.foldl_cons, foldl_push l]
    simp [ByteArray.push]
theorem r_str {l : List UInt8} (hx : ev L x = some v) (ht : P.underlying t = some (.slice e)) (he : P.underlying e = some (.int .u8)) (ht' : P.underlying t' = some .string) (hv : Vec .byte H v l) (hs : Le H (hp w)) : RunsAt P L w (.convert t t' x) ty (.string ⟨l.toArray⟩) := by
  intro w' hw ρ hρ dst pos af g
  obtain ⟨news, hn1, hn2⟩ := hv.elems
  obtain rfl := bytes_elems hn1
  obtain ⟨h1, a, cap, rfl, h3, h4, h5, h6⟩ := hn2
  cases a with
  | none =>
    have : l.length = 0 := by have := h5 rfl; omega
    have : l = [] := List.eq_nil_of_length_eq_zero this
    subst this
    simp [execOp, hρ x _ hx, run_convert_bytes_string w' t t' e none _ cap ht he ht', Conv.bytesToString]
    rfl
  | some A =>
    have hload : (loadCells A l.length).run P w' = .ok ((l.map (fun b => ((b.toNat : Nat) : Int))).map (Value.int .u8)).toArray w' := by
      by_cases hl : l.length = 0
      · have : l = [] := List.eq_nil_of_length_eq_zero hl
        subst this
        simp [loadCells, loadCellsFrom]
      · have := run_loadCellsFrom (P := P) (p := A) w' l.length 0 (l.map bv) #[] (by simp) (fun j u hu => by rw [Nat.zero_add]; exact cell_of (hs.ext hw) ((h6 A rfl hl).2 j u hu))
        unfold loadCells
        rw [this]
        simp [bv, Function.comp_def]
    have hb := run_bytesToString w' A l.length cap _ hload
    rw [foldl_push] at hb
    simp [execOp, hρ x _ hx, run_convert_bytes_string w' t t' e (some A) _ cap ht he ht', hb]
theorem toList_mk (l : List UInt8) : (ByteArray.mk l.toArray).toList = l := by rw [ByteArray.toList_eq]
theorem r_seq {l m : List UInt8} (hx : ev L x = some (.string ⟨l.toArray⟩)) (hy : ev L y = some (.string ⟨m.toArray⟩)) : RunsAt P L w (.binOp .eql t x y t') ty (.bool (decide (l = m))) := by
  intro w' _ ρ hρ dst pos af g
  have e : (l == m) = decide (l = m) := by rw [Bool.eq_iff_iff]; simp
  simp [execOp, hρ x _ hx, hρ y _ hy, eqGuard, binOp, Op.stringOp, e]

/-- A slice held against nil. -/
theorem r_isnil {a : Option Addr} {m c : Nat} (hx : ev L x = some (.slice a m c)) (hy : ev L y = some (.slice none 0 0)) (ht : P.underlying t = some (.slice e)) : RunsAt P L w (.binOp .eql t x y t') ty (.bool a.isNone) := by
  intro w' _ ρ hρ dst pos af g
  have key : ∀ dd : Nat, (Op.equalIn (dd + 1) t (.slice a m c) (.slice none 0 0)).run P w' = .ok a.isNone w' := fun dd => by
    cases a <;> simp [Op.equalIn, run_underlying ht]
  have k2 : (Op.equal t (.slice a m c) (.slice none 0 0)).run P w' = .ok a.isNone w' := key 9999
  simp [execOp, hρ x _ hx, hρ y _ hy, eqGuard, binOp, k2]

/-! ### Closures -/
theorem run_callv {f : FuncId} {args : List Operand} {vs : List Value} {at_ : Array TypeId} {dst : Option Tmp} {cap : List Value} {fo : Operand} (hc : Callable P f) (hf : ev L fo = some (.func (.func f) #[] cap.toArray)) (ha : evl L args = some vs) (ρ : Operand → Value) (hρ : Rho L ρ) :
    (execOp ρ ⟨dst, .call ⟨.value fo, args.toArray, at_⟩, ty, pos, af, none⟩).run P w = .ok (.enter f (vs ++ cap).toArray) w := by
  obtain ⟨fn, c, h1, h2, h3⟩ := hc
  have e1 := hρ.map _ _ ha
  have h2' : ¬ fn.name = "runtime.NumGoroutine" := by simpa using h2
  simp [execOp, resolve, hρ fo _ hf, Deferred.ofValue, e1, invoke, callFunc, h1, h2', h3]
theorem S_callv {f : FuncId} {args : List Operand} {vs : List Value} {at_ : Array TypeId} {cap : List Value} {fo : Operand} {R : Value → World → Prop} (hf : ev L fo = some (.func (.func f) #[] cap.toArray)) (ha : evl L args = some vs) (hn : Nat.blt d n.n = true) (hok : Ok P f (vs ++ cap) w R)
    (h : ∀ v w', R v w' → S P n ops Q rest ((d, v) :: L) w') : S P n ops Q (⟨some d, .call ⟨.value fo, args.toArray, at_⟩, ty, pos, af, none⟩ :: rest) L w :=
  S_op rfl fun a fr => by
    unfold Oper.wp
    rw [run_callv hok.1 hf ha _ fr.rho]
    refine hok.2.mono fun e w' ⟨v, he, hv⟩ => ?_
    subst he
    exact h v w' hv _ (fr.put hn)

/-! ### Results that lie in cells -/
/-- One result, as slots and owned variables tell. -/
inductive Got (P : Program) (L : Env) (w : World) : ResultVar → Value → Prop
  | tmp {t : Nat} {v : Value} (h : gt L t = some v) : Got P L w (.tmp t) v
  | cell {s t : Nat} {b : Nat} {cs : List Value} {zz : Value} {bt : Nat} {dd : TypeDesc} (h : gt L s = some (.pointer (some ⟨b, 0, none⟩))) (ht : P.underlying t = some dd) (hd : aggT dd = true) (hz : Zr P t zz cs.length bt) (hp' : PtrTo (hp w) ⟨b, 0, none⟩ cs) : Got P L w (.cell s t) (.agg cs.toArray)
def resOne (tmps : Array Value) : ResultVar → Sem Value
  | .tmp t => pure (tmps.getD t undef)
  | .cell a t => do loadVar t (← asAddr (tmps.getD a undef))
theorem results_eq (fn : Func) (tmps : Array Value) : results fn tmps = (do let vs ← fn.results.mapM (resOne tmps); pure (if h : vs.size = 1 then vs[0] else .tuple vs)) := by
  unfold results
  congr 1
theorem Got.run {a : Act} {q : ResultVar} (fr : Fr n a L) (h : Got P L w q v) : (resOne a.tmps q).run P w = .ok v w := by
  cases h with
  | tmp h => have := fr.get _ _ h; simp [resOne, Array.getD_eq_getD_getElem?, this]
  | cell h ht hd hz hp' =>
    rename_i s t b cs zz bt dd
    have := fr.get _ _ h
    obtain ⟨inf, i1, i2, i3, i4⟩ := hz.parts
    have hload := run_loadCellsFrom (P := P) (p := ⟨b, 0, none⟩) w cs.length 0 cs #[] rfl (fun j u hu => by rw [Nat.zero_add]; exact hp'.2 j u hu)
    cases dd <;> simp only [aggT, Bool.false_eq_true] at hd <;>
      simp [resOne, Array.getD_eq_getD_getElem?, this, asAddr, loadVar, isAgg, run_underlying ht, loadCells, sizeOf, typeInfo, i1, i3, hload]
theorem At_got1 {k₀ : Nat} {fn : Func} {R : Value → World → Prop} {q : ResultVar} (hl : fn.results = #[q]) (h : Got P L w q v) (hR : R v w) : At ⟨k₀, []⟩ (bodyQ P fn R) .ret L w :=
  fun a fr => ⟨fr.defers, v, by rw [results_eq, hl]; simp [h.run fr], v, rfl, hR⟩
theorem At_got2 {k₀ : Nat} {fn : Func} {R : Value → World → Prop} {q q' : ResultVar} {v' : Value} (hl : fn.results = #[q, q']) (h : Got P L w q v) (h' : Got P L w q' v') (hR : R (.tuple #[v, v']) w) : At ⟨k₀, []⟩ (bodyQ P fn R) .ret L w :=
  fun a fr => ⟨fr.defers, _, by rw [results_eq, hl]; simp [h.run fr, h'.run fr], _, rfl, hR⟩
theorem At_got3 {k₀ : Nat} {fn : Func} {R : Value → World → Prop} {q q' q'' : ResultVar} {v' v'' : Value} (hl : fn.results = #[q, q', q'']) (h : Got P L w q v) (h' : Got P L w q' v') (h'' : Got P L w q'' v'') (hR : R (.tuple #[v, v', v'']) w) : At ⟨k₀, []⟩ (bodyQ P fn R) .ret L w :=
  fun a fr => ⟨fr.defers, _, by rw [results_eq, hl]; simp [h.run fr, h'.run fr, h''.run fr], _, rfl, hR⟩
theorem At_got0 {k₀ : Nat} {fn : Func} {R : Value → World → Prop} (hl : fn.results = #[]) (hR : R (.tuple #[]) w) : At ⟨k₀, []⟩ (bodyQ P fn R) .ret L w :=
  fun _a fr => ⟨fr.defers, _, results_none hl _ _ _, _, rfl, hR⟩
theorem At_got0e {k₀ : Nat} {fn : Func} {R : Value → World → Prop} (hl : fn.results = #[]) (hR : R (.tuple #[]) w) : At ⟨k₀, []⟩ (bodyQ P fn R) .normal L w :=
  fun _a fr => ⟨fr.defers, _, results_none hl _ _ _, _, rfl, hR⟩
end
end Go.E
