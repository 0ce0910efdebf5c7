/- More operations: bits, structs held against each other, strings, closures; results that lie in cells. No program in sight. -/
import Derived.Test.YtdiieblgeaehpaaGreatDoorEngF
import Derived.Laws.StructEq
namespace Go.E
open Go Go.RowKit
theorem conv_8_64 (b : UInt8) : IntKind.i64.wrap (b.toNat : Int) = (b.toNat : Int) := by
  have := b.toNat_lt; exact wrap64 (by omega) (by omega)
section
variable {P : Program} {n : Sz} {ops : Array Oper} {Q : Exit → Act → World → Prop} {L : Env} {w w0 : World} {O : List Res} {rest : List Oper}
  {d : Nat} {ty : TypeId} {pos : String} {af : Array Edge} {α : Type} {r : Rp α} {H : PH} {x y : Operand} {v : Value} {t t' e : TypeId}
/-! ### Integers as values that are the same in every world -/
theorem r_ar {op : BinOp} {k : IntKind} {a b c s : Int} (hx : ev L x = some (.int k a)) (hy : ev L y = some (.int k b)) (ho : arI op a b = some c) (hw : k.wrap c = s) : RunsAt P L w (.binOp op t x y t') ty (.int k s) := by
  intro w' _ ρ hρ dst pos af g
  subst hw
  cases op <;> simp only [arI, Option.some.injEq, reduceCtorEq] at ho <;> subst ho <;>
    simp [execOp, hρ x _ hx, hρ y _ hy, eqGuard, binOp, Op.intArith]
theorem r_ar64 {op : BinOp} {a b c : Int} (hx : ev L x = some (.int .i64 a)) (hy : ev L y = some (.int .i64 b)) (ho : arI op a b = some c) (h1 : -9223372036854775808 ≤ c ∧ c ≤ 9223372036854775807) : RunsAt P L w (.binOp op t x y t') ty (.int .i64 c) :=
  r_ar hx hy ho (wrap64 h1.1 h1.2)
theorem r_quo {a b : Int} (hx : ev L x = some (.int .i64 a)) (hy : ev L y = some (.int .i64 b)) (h1 : 0 ≤ a ∧ a ≤ 9223372036854775807 ∧ 0 < b) : RunsAt P L w (.binOp .quo t x y t') ty (.int .i64 (a / b)) := by
  intro w' _ ρ hρ dst pos af g
  have hb : b ≠ 0 := by omega
  have ⟨e1, e2⟩ := ediv_le h1.1 h1.2.2
  simp [execOp, hρ x _ hx, hρ y _ hy, eqGuard, binOp, Op.intDiv, hb, tdiv_pos h1.1, wrap64 (x := a / b) (by omega) (by omega)]
theorem r_rem {a b : Int} {k : IntKind} (hx : ev L x = some (.int k a)) (hy : ev L y = some (.int k b)) (h1 : 0 ≤ a ∧ 0 < b) : RunsAt P L w (.binOp .rem t x y t') ty (.int k (a % b)) := by
  intro w' _ ρ hρ dst pos af g
  have hb : b ≠ 0 := by omega
  simp [execOp, hρ x _ hx, hρ y _ hy, eqGuard, binOp, Op.intDiv, hb, tmod_pos h1.1]
theorem r_conv {k k' : IntKind} {a s : Int} {u : TypeDesc} (hs : P.underlying t = some u) (ht : P.underlying t' = some (.int k)) (hx : ev L x = some (.int k' a)) (hw : k.wrap a = s) : RunsAt P L w (.convert t t' x) ty (.int k s) := by
  intro w' _ ρ hρ dst pos af g
  subst hw; simp [execOp, hρ x _ hx, convert, run_underlying hs, run_underlying ht, Conv.intToInt]
def bitB : BinOp → UInt8 → UInt8 → Option UInt8
  | .xor, a, b => some (a ^^^ b)
  | .and, a, b => some (a &&& b)
  | .or, a, b => some (a ||| b)
  | _, _, _ => none
theorem ofInt8 (a : UInt8) : BitVec.ofInt 8 (a.toNat : Int) = a.toBitVec := by
  apply BitVec.eq_of_toNat_eq
  have := a.toNat_lt
  simp
/-- Bits of bytes. -/
theorem r_bit8 {op : BinOp} {a b c : UInt8} (hx : ev L x = some (.int .u8 (a.toNat : Int))) (hy : ev L y = some (.int .u8 (b.toNat : Int))) (ho : bitB op a b = some c) : RunsAt P L w (.binOp op t x y t') ty (.int .u8 (c.toNat : Int)) := by
  intro w' _ ρ hρ dst pos af g
  have hc := c.toNat_lt
  cases op <;> simp only [bitB, Option.some.injEq, reduceCtorEq] at ho <;> subst ho
  · have e : (Op.intBits .and .u8 (a.toNat : Int) (b.toNat : Int)).run P w' = .ok (.int .u8 ((a &&& b).toNat : Int)) w' := by
      show Result.ok (Value.int .u8 (IntKind.u8.wrap ((BitVec.ofInt 8 (a.toNat : Int) &&& BitVec.ofInt 8 (b.toNat : Int)).toNat : Int))) w' = _
      rw [ofInt8, ofInt8, show (a.toBitVec &&& b.toBitVec).toNat = (a &&& b).toNat from rfl, wrapU8 (by omega) (by omega)]
    simp only [execOp, hρ x _ hx, hρ y _ hy, eqGuard, binOp, Sem.run_bind, ne_eq, not_true_eq_false, if_false, Bool.not_false, if_true, Sem.run_pure, Result.andThen_ok, e]
  · have e : (Op.intBits .or .u8 (a.toNat : Int) (b.toNat : Int)).run P w' = .ok (.int .u8 ((a ||| b).toNat : Int)) w' := by
      show Result.ok (Value.int .u8 (IntKind.u8.wrap ((BitVec.ofInt 8 (a.toNat : Int) ||| BitVec.ofInt 8 (b.toNat : Int)).toNat : Int))) w' = _
      rw [ofInt8, ofInt8, show (a.toBitVec ||| b.toBitVec).toNat = (a ||| b).toNat from rfl, wrapU8 (by omega) (by omega)]
    simp only [execOp, hρ x _ hx, hρ y _ hy, eqGuard, binOp, Sem.run_bind, ne_eq, not_true_eq_false, if_false, Bool.not_false, if_true, Sem.run_pure, Result.andThen_ok, e]
  · have e : (Op.intBits .xor .u8 (a.toNat : Int) (b.toNat : Int)).run P w' = .ok (.int .u8 ((a ^^^ b).toNat : Int)) w' := by
      show Result.ok (Value.int .u8 (IntKind.u8.wrap ((BitVec.ofInt 8 (a.toNat : Int) ^^^ BitVec.ofInt 8 (b.toNat : Int)).toNat : Int))) w' = _
      rw [ofInt8, ofInt8, show (a.toBitVec ^^^ b.toBitVec).toNat = (a ^^^ b).toNat from rfl, wrapU8 (by omega) (by omega)]
    simp only [execOp, hρ x _ hx, hρ y _ hy, eqGuard, binOp, Sem.run_bind, ne_eq, not_true_eq_false, if_false, Bool.not_false, if_true, Sem.run_pure, Result.andThen_ok, e]
def bitN : BinOp → Nat → Nat → Option Nat
  | .xor, a, b => some (a ^^^ b)
  | .and, a, b => some (a &&& b)
  | .or, a, b => some (a ||| b)
  | _, _, _ => none
/-- Bits of ints that are not negative. -/
theorem r_bit64 {op : BinOp} {a b c : Nat} {p q : Int} (hx : ev L x = some (.int .i64 p)) (hy : ev L y = some (.int .i64 q)) (hpa : p = a) (hqb : q = b) (ho : bitN op a b = some c) (ha : a < 2 ^ 63) (hb : b < 2 ^ 63) : RunsAt P L w (.binOp op t x y t') ty (.int .i64 (c : Int)) := by
  intro w' _ ρ hρ dst pos af g
  subst hpa; subst hqb
  have ea : (BitVec.ofInt 64 (a : Int)).toNat = a := by simp; omega
  have eb : (BitVec.ofInt 64 (b : Int)).toNat = b := by simp; omega
  cases op <;> simp only [bitN, Option.some.injEq, reduceCtorEq] at ho <;> subst ho
  · have hlt : a &&& b < 2 ^ 63 := Nat.and_lt_two_pow _ hb
    have e : (Op.intBits .and .i64 (a : Int) (b : Int)).run P w' = .ok (.int .i64 ((a &&& b : Nat) : Int)) w' := by
      show Result.ok (Value.int .i64 (IntKind.i64.wrap ((BitVec.ofInt 64 (a : Int) &&& BitVec.ofInt 64 (b : Int)).toNat : Int))) w' = _
      rw [BitVec.toNat_and, ea, eb, wrap64 (by omega) (by omega)]
    simp only [execOp, hρ x _ hx, hρ y _ hy, eqGuard, binOp, Sem.run_bind, ne_eq, not_true_eq_false, if_false, Bool.not_false, if_true, Sem.run_pure, Result.andThen_ok, e]
  · have hlt : a ||| b < 2 ^ 63 := Nat.or_lt_two_pow ha hb
    have e : (Op.intBits .or .i64 (a : Int) (b : Int)).run P w' = .ok (.int .i64 ((a ||| b : Nat) : Int)) w' := by
      show Result.ok (Value.int .i64 (IntKind.i64.wrap ((BitVec.ofInt 64 (a : Int) ||| BitVec.ofInt 64 (b : Int)).toNat : Int))) w' = _
      rw [BitVec.toNat_or, ea, eb, wrap64 (by omega) (by omega)]
    simp only [execOp, hρ x _ hx, hρ y _ hy, eqGuard, binOp, Sem.run_bind, ne_eq, not_true_eq_false, if_false, Bool.not_false, if_true, Sem.run_pure, Result.andThen_ok, e]
  · have hlt : a ^^^ b < 2 ^ 63 := Nat.xor_lt_two_pow ha hb
    have e : (Op.intBits .xor .i64 (a : Int) (b : Int)).run P w' = .ok (.int .i64 ((a ^^^ b : Nat) : Int)) w' := by
      show Result.ok (Value.int .i64 (IntKind.i64.wrap ((BitVec.ofInt 64 (a : Int) ^^^ BitVec.ofInt 64 (b : Int)).toNat : Int))) w' = _
      rw [BitVec.toNat_xor, ea, eb, wrap64 (by omega) (by omega)]
    simp only [execOp, hρ x _ hx, hρ y _ hy, eqGuard, binOp, Sem.run_bind, ne_eq, not_true_eq_false, if_false, Bool.not_false, if_true, Sem.run_pure, Result.andThen_ok, e]
/-- Shifts by a known count. -/
theorem r_shl {k k' : IntKind} {a s m : Int} {c : Nat} (hx : ev L x = some (.int k a)) (hy : ev L y = some (.int k' (c : Int))) (hm : (2 : Int) ^ c = m) (hc : c ≤ k.bits) (hw : k.wrap (a * m) = s) : RunsAt P L w (.binOp .shl t x y t') ty (.int k s) := by
  intro w' _ ρ hρ dst pos af g
  subst hm
  subst hw
  have : ¬ ((c : Int) < 0) := by omega
  simp [execOp, hρ x _ hx, hρ y _ hy, eqGuard, binOp, Op.shift, this, Nat.min_eq_left hc]
theorem r_shr {k k' : IntKind} {a m : Int} {c : Nat} (hx : ev L x = some (.int k a)) (hy : ev L y = some (.int k' (c : Int))) (hm : (2 : Int) ^ c = m) (hc : c ≤ k.bits) : RunsAt P L w (.binOp .shr t x y t') ty (.int k (a / m)) := by
  intro w' _ ρ hρ dst pos af g
  subst hm
  have : ¬ ((c : Int) < 0) := by omega
  have e : a.fdiv (2 ^ c) = a / 2 ^ c := Int.fdiv_eq_ediv_of_nonneg a (by exact Int.le_of_lt (Int.pow_pos (by decide)))
  simp [execOp, hρ x _ hx, hρ y _ hy, eqGuard, binOp, Op.shift, this, Nat.min_eq_left hc, e]
/-! ### Structs held against each other -/
theorem r_eqA {xs ys : Array Value} {q : Bool} (hx : ev L x = some (.agg xs)) (hy : ev L y = some (.agg ys)) (hg : P.eqGuardType P.depth t = false) (he : ∀ w, (Op.equalIn 10000 t (.agg xs) (.agg ys)).run P w = .ok q w) : RunsAt P L w (.binOp .eql t x y t') ty (.bool q) := by
  intro w' _ ρ hρ dst pos af g
  simp [execOp, hρ x _ hx, hρ y _ hy, run_eqGuard_agg w' .eql t x y xs ys hg, run_eql_struct, he w']
theorem r_neA {xs ys : Array Value} {q : Bool} (hx : ev L x = some (.agg xs)) (hy : ev L y = some (.agg ys)) (hg : P.eqGuardType P.depth t = false) (he : ∀ w, (Op.equalIn 10000 t (.agg xs) (.agg ys)).run P w = .ok q w) : RunsAt P L w (.binOp .neq t x y t') ty (.bool (!q)) := by
  intro w' _ ρ hρ dst pos af g
  simp [execOp, hρ x _ hx, hρ y _ hy, run_eqGuard_agg w' .neq t x y xs ys hg, run_neq_struct, he w']
/-- Two fields that are ints. -/
theorem eq_two {f0 f1 : Field} {k0 k1 : IntKind} (ht : P.underlying t = some (.struct (P.fieldsOf t))) (hp : P.stoodInHeld t = false) (hf : (P.fieldsOf t).toList = [f0, f1]) (h0 : f0.name ≠ "_" ∧ f0.offset = 0) (h1 : f1.name ≠ "_" ∧ f1.offset = 1)
    (u0 : P.underlying f0.type = some (.int k0)) (u1 : P.underlying f1.type = some (.int k1)) (a b c e : Int) (w : World) :
    (Op.equalIn 10000 t (.agg #[.int k0 a, .int k1 b]) (.agg #[.int k0 c, .int k1 e])).run P w = .ok (decide (a = c ∧ b = e)) w := by
  rw [run_equalIn_struct w 9999 t _ _ ht hp, hf]
  have key : ∀ dd : Nat, (Op.eqFields (dd + 1) #[.int k0 a, .int k1 b] #[.int k0 c, .int k1 e] [f0, f1]).run P w = .ok (decide (a = c ∧ b = e)) w := by
    intro dd
    by_cases e1 : a = c <;> by_cases e2 : b = e <;>
      simp [Op.eqFields, h0.1, h1.1, h0.2, h1.2, part, isAgg, run_underlying u0, run_underlying u1, run_equalIn_int w dd _ _ _ _ _ u0, run_equalIn_int w dd _ _ _ _ _ u1, e1, e2]
  exact key 9998
/-! ### Strings -/
theorem foldl_push : ∀ (l : List UInt8) (s : ByteArray), (l.map (fun b => ((b.toNat : Nat) : Int))).foldl (fun r n => r.push (UInt8.ofNat n.toNat)) s = ⟨s.data ++ l.toArray⟩
  | [], s => by simp
  | b :: l, s => by
    rw [List.map_cons, List.foldl_cons, foldl_push l]
    simp [ByteArray.push]
theorem r_str {l : List UInt8} (hx : ev L x = some v) (ht : P.underlying t = some (.slice e)) (he : P.underlying e = some (.int .u8)) (ht' : P.underlying t' = some .string) (hv : Vec .byte H v l) (hs : Le H (hp w)) : RunsAt P L w (.convert t t' x) ty (.string ⟨l.toArray⟩) := by
  intro w' hw ρ hρ dst pos af g
  obtain ⟨news, hn1, hn2⟩ := hv.elems
  obtain rfl := bytes_elems hn1
  obtain ⟨h1, a, cap, rfl, h3, h4, h5, h6⟩ := hn2
  cases a with
  | none =>
    have : l.length = 0 := by have := h5 rfl; omega
    have : l = [] := List.eq_nil_of_length_eq_zero this
    subst this
    simp [execOp, hρ x _ hx, run_convert_bytes_string w' t t' e none _ cap ht he ht', Conv.bytesToString]
    rfl
  | some A =>
    have hload : (loadCells A l.length).run P w' = .ok ((l.map (fun b => ((b.toNat : Nat) : Int))).map (Value.int .u8)).toArray w' := by
      by_cases hl : l.length = 0
      · have : l = [] := List.eq_nil_of_length_eq_zero hl
        subst this
        simp [loadCells, loadCellsFrom]
      · have := run_loadCellsFrom (P := P) (p := A) w' l.length 0 (l.map bv) #[] (by simp) (fun j u hu => by rw [Nat.zero_add]; exact cell_of (hs.ext hw) ((h6 A rfl hl).2 j u hu))
        unfold loadCells
        rw [this]
        simp [bv, Function.comp_def]
    have hb := run_bytesToString w' A l.length cap _ hload
    rw [foldl_push] at hb
    simp [execOp, hρ x _ hx, run_convert_bytes_string w' t t' e (some A) _ cap ht he ht', hb]
theorem r_seq {l m : List UInt8} (hx : ev L x = some (.string ⟨l.toArray⟩)) (hy : ev L y = some (.string ⟨m.toArray⟩)) : RunsAt P L w (.binOp .eql t x y t') ty (.bool (decide (l = m))) := by
  intro w' _ ρ hρ dst pos af g
  have e : (l == m) = decide (l = m) := by rw [Bool.eq_iff_iff]; simp
  simp [execOp, hρ x _ hx, hρ y _ hy, eqGuard, binOp, Op.stringOp, e]
/-! ### Closures -/
theorem run_callv {f : FuncId} {args : List Operand} {vs : List Value} {at_ : Array TypeId} {dst : Option Tmp} {cap : List Value} {fo : Operand} (hc : Callable P f) (hf : ev L fo = some (.func (.func f) #[] cap.toArray)) (ha : evl L args = some vs) (ρ : Operand → Value) (hρ : Rho L ρ) :
    (execOp ρ ⟨dst, .call ⟨.value fo, args.toArray, at_⟩, ty, pos, af, none⟩).run P w = .ok (.enter f (vs ++ cap).toArray) w := by
  obtain ⟨fn, c, h1, h2, h3⟩ := hc
  have e1 := hρ.map _ _ ha
  have h2' : ¬ fn.name = "runtime.NumGoroutine" := by simpa using h2
  simp [execOp, resolve, hρ fo _ hf, Deferred.ofValue, e1, invoke, callFunc, h1, h2', h3]
theorem S_callv {f : FuncId} {args : List Operand} {vs : List Value} {at_ : Array TypeId} {cap : List Value} {fo : Operand} {R : Value → World → Prop} (hf : ev L fo = some (.func (.func f) #[] cap.toArray)) (ha : evl L args = some vs) (hn : Nat.blt d n.n = true) (hok : Ok P f (vs ++ cap) w R)
    (h : ∀ v w', R v w' → S P n ops Q rest ((d, v) :: L) w') : S P n ops Q (⟨some d, .call ⟨.value fo, args.toArray, at_⟩, ty, pos, af, none⟩ :: rest) L w :=
  S_op rfl fun a fr => by
    unfold Oper.wp
    rw [run_callv hok.1 hf ha _ fr.rho]
    refine hok.2.mono fun e w' ⟨v, he, hv⟩ => ?_
    subst he
    exact h v w' hv _ (fr.put hn)
/-! ### Results that lie in cells -/
/-- One result, as slots and owned variables tell. -/
inductive Got (P : Program) (L : Env) (w : World) : ResultVar → Value → Prop
  | tmp {t : Nat} {v : Value} (h : gt L t = some v) : Got P L w (.tmp t) v
  | cell {s t : Nat} {b : Nat} {cs : List Value} {zz : Value} {bt : Nat} {dd : TypeDesc} (h : gt L s = some (.pointer (some ⟨b, 0, none⟩))) (ht : P.underlying t = some dd) (hd : aggT dd = true) (hz : Zr P t zz cs.length bt) (hp' : PtrTo (hp w) ⟨b, 0, none⟩ cs) : Got P L w (.cell s t) (.agg cs.toArray)
def resOne (tmps : Array Value) : ResultVar → Sem Value
  | .tmp t => pure (tmps.getD t undef)
  | .cell a t => do loadVar t (← asAddr (tmps.getD a undef))
theorem results_eq (fn : Func) (tmps : Array Value) : results fn tmps = (do let vs ← fn.results.mapM (resOne tmps); pure (if h : vs.size = 1 then vs[0] else .tuple vs)) := by
  unfold results
  congr 1
theorem Got.run {a : Act} {q : ResultVar} (fr : Fr n a L) (h : Got P L w q v) : (resOne a.tmps q).run P w = .ok v w := by
  cases h with
  | tmp h => have := fr.get _ _ h; simp [resOne, Array.getD_eq_getD_getElem?, this]
  | cell h ht hd hz hp' =>
    rename_i s t b cs zz bt dd
    have := fr.get _ _ h
    obtain ⟨inf, i1, i2, i3, i4⟩ := hz.parts
    have hload := run_loadCellsFrom (P := P) (p := ⟨b, 0, none⟩) w cs.length 0 cs #[] rfl (fun j u hu => by rw [Nat.zero_add]; exact hp'.2 j u hu)
    cases dd <;> simp only [aggT, Bool.false_eq_true] at hd <;>
      simp [resOne, Array.getD_eq_getD_getElem?, this, asAddr, loadVar, isAgg, run_underlying ht, loadCells, sizeOf, typeInfo, i1, i3, hload]
theorem At_got1 {k₀ : Nat} {fn : Func} {R : Value → World → Prop} {q : ResultVar} (hl : fn.results = #[q]) (h : Got P L w q v) (hR : R v w) : At ⟨k₀, []⟩ (bodyQ P fn R) .ret L w :=
  fun a fr => ⟨fr.defers, v, by rw [results_eq, hl]; simp [h.run fr], v, rfl, hR⟩
theorem At_got2 {k₀ : Nat} {fn : Func} {R : Value → World → Prop} {q q' : ResultVar} {v' : Value} (hl : fn.results = #[q, q']) (h : Got P L w q v) (h' : Got P L w q' v') (hR : R (.tuple #[v, v']) w) : At ⟨k₀, []⟩ (bodyQ P fn R) .ret L w :=
  fun a fr => ⟨fr.defers, _, by rw [results_eq, hl]; simp [h.run fr, h'.run fr], _, rfl, hR⟩
theorem At_got3 {k₀ : Nat} {fn : Func} {R : Value → World → Prop} {q q' q'' : ResultVar} {v' v'' : Value} (hl : fn.results = #[q, q', q'']) (h : Got P L w q v) (h' : Got P L w q' v') (h'' : Got P L w q'' v'') (hR : R (.tuple #[v, v', v'']) w) : At ⟨k₀, []⟩ (bodyQ P fn R) .ret L w :=
  fun a fr => ⟨fr.defers, _, by rw [results_eq, hl]; simp [h.run fr, h'.run fr, h''.run fr], _, rfl, hR⟩
theorem At_got0 {k₀ : Nat} {fn : Func} {R : Value → World → Prop} (hl : fn.results = #[]) (hR : R (.tuple #[]) w) : At ⟨k₀, []⟩ (bodyQ P fn R) .ret L w :=
  fun _a fr => ⟨fr.defers, _, results_none hl _ _ _, _, rfl, hR⟩
theorem At_got0e {k₀ : Nat} {fn : Func} {R : Value → World → Prop} (hl : fn.results = #[]) (hR : R (.tuple #[]) w) : At ⟨k₀, []⟩ (bodyQ P fn R) .normal L w :=
  fun _a fr => ⟨fr.defers, _, results_none hl _ _ _, _, rfl, hR⟩
end
end Go.E
namespace Go.E
open Go Go.RowKit
def nQ (P : Program) (l : List Oper) (Q : Exit → Act → World → Prop) (fuel : Nat) (listed : Array Bool) : Exit → Act → World → Prop := Exit.then (wpAny P .any l.toArray Q fuel listed) Q
def Nv (P : Program) (n : Sz) (l : List Oper) (Q : Exit → Act → World → Prop) (fuel : Nat) (listed : Array Bool) (L : Env) (w : World) : Prop := ∀ a, Fr n a L → wpAny P .any l.toArray Q fuel listed a w
def lst (n : Nat) (done : List Nat) : Array Bool := done.foldr (fun i a => a.setIfInBounds i true) (Array.replicate n false)
section
variable {P : Program} {n : Sz} {l : List Oper} {Q : Exit → Act → World → Prop} {L : Env} {w : World} {y : Code} {fuel : Nat} {m : Nat} {done : List Nat}
theorem W_naive {id : Nat} (hm : P.follows .mixedOrders = true) (hl : l.length = m) (h : ∀ w', Ext w w' → Nv P n l Q m (lst m []) L w') : W P n (.region id l.toArray true) Q L w := fun a fr => by
  refine wp_region_any hm ?_
  have := h _ drawn_world a fr
  subst hl
  simpa [lst] using this
theorem wpOp_of_S {i : Nat} {o : Oper} {K : Act → World → Prop} {a : Act} (ho : nthO l i = some o) (h : wpList P l.toArray (Exit.then K Q) [o] a w) (_hQ : ∀ e a w, e ≠ .normal → Exit.then K Q e a w → Q e a w) : wpOp P l.toArray Q i K a w := by
  have ho' : l.toArray[i]? = some o := by rw [nthO_eq] at ho; simpa using ho
  unfold wpOp
  simp only [ho']
  simp only [wpList] at h
  split
  · rename_i hw
    rw [if_pos hw] at h
    rcases h with h | ⟨h1, h2⟩
    · left
      unfold Oper.wp at h ⊢
      generalize (execOp a.eval o).run P w = r at h ⊢
      cases r with
      | ok nx w' =>
        cases nx <;> simp only [Oper.upon] at h ⊢
        case value v => exact h
        case skip => exact h
        case defer => exact h
        case enter f args => exact h.mono fun e w'' he => by
                              cases e with
                              | returned v => exact he
                              | panicked ch => exact he
                              | outgrown => exact he
        case row => exact h
      | halt hh w' => cases hh <;> simp only [Oper.upon] at h ⊢ <;> exact h
    · exact .inr ⟨h1, h2⟩
  · rename_i hw; rw [if_neg hw] at h; exact h
theorem N_op {i : Nat} {o : Oper} (ho : nthO l i = some o) (h : S P n l.toArray (nQ P l Q fuel (lst m (i :: done))) [o] L w) : ∀ a, Fr n a L → wpOp P l.toArray Q i (wpAny P .any l.toArray Q fuel ((lst m done).setIfInBounds i true)) a w :=
  fun a fr => wpOp_of_S ho (h a fr) (fun e a w hne he => by cases e <;> first | exact absurd rfl hne | exact he)
theorem N1 {i : Nat} {o : Oper} (hr : Region.ready .any l.toArray (lst m done) = [i]) (ho : nthO l i = some o) (h : S P n l.toArray (nQ P l Q fuel (lst m (i :: done))) [o] L w) : Nv P n l Q (fuel + 1) (lst m done) L w :=
  fun a fr => wpAny_all hr (by simp) fun k hk => by
    obtain rfl : k = i := by simpa using hk
    exact N_op ho h a fr
theorem N2 {i j : Nat} {o p : Oper} (hr : Region.ready .any l.toArray (lst m done) = [i, j]) (ho : nthO l i = some o) (hp : nthO l j = some p) (h : S P n l.toArray (nQ P l Q fuel (lst m (i :: done))) [o] L w) (h' : S P n l.toArray (nQ P l Q fuel (lst m (j :: done))) [p] L w) : Nv P n l Q (fuel + 1) (lst m done) L w :=
  fun a fr => wpAny_all hr (by simp) fun k hk => by
    have hk' : k = i ∨ k = j := by simpa using hk
    rcases hk' with rfl | rfl
    · exact N_op ho h a fr
    · exact N_op hp h' a fr
theorem N_nil (h : Nv P n l Q fuel (lst m done) L w) : S P n l.toArray (nQ P l Q fuel (lst m done)) [] L w := fun a fr => h a fr
theorem N_end (hr : Region.ready .any l.toArray (lst m done) = []) (h : At n Q .normal L w) : Nv P n l Q 0 (lst m done) L w := fun a fr => ⟨hr, h a fr⟩
end
section
variable {P : Program} {n : Sz} {lo : List Oper} {Q : Exit → Act → World → Prop} {L : Env} {w w0 : World} {O : List Res} {tr : Tr} {ix : Nat}
  {d : Nat} {ty : TypeId} {pos : String} {af : Array Edge} {α : Type} {r : Rp α} {x y : Operand} {v : Value} {t e : TypeId}
theorem Le.mono {A B C : PH} (h : Le A B) (k : Le B C) : Le A C := h.trans k
/-- What is owned, in another order. -/
theorem Lcl.pick {i : Nat} {q : Res} (h : Lcl w0 O w) (hi : nthR O i = some q) : Lcl w0 (q :: delR O i) w := h.perm (perm_nth hi).symm
end
end Go.E
namespace Go.E
open Go Go.RowKit
section
variable {P : Program} {L : Env} {w : World} {x y : Operand} {ty t t' : TypeId}
theorem r_max {a b : Int} (hx : ev L x = some (.int .i64 a)) (hy : ev L y = some (.int .i64 b)) : RunsAt P L w (.call ⟨.builtin .max, #[x, y], #[t, t']⟩) ty (.int .i64 (max a b)) := by
  intro w' _ ρ hρ dst pos af g
  simp [execOp, resolve, hρ x _ hx, hρ y _ hy, invoke, builtin, Builtin.max_, Builtin.max2]
  by_cases h : a < b
  · simp [h, show max a b = b by omega]
  · simp [h, show max a b = a by omega]
end
/-- Two parts of memory together. -/
def un (A B : PH) : PH := fun b => match B b with
  | some o => some o
  | none => A b
theorem un_le {A B C : PH} (hA : Le A C) (hB : Le B C) : Le (un A B) C := fun b o e => by
  unfold un at e
  cases h : B b with
  | some o' => rw [h] at e; cases e; exact hB b o h
  | none => rw [h] at e; exact hA b o e
theorem le_un_right {A B : PH} : Le B (un A B) := fun b o e => by unfold un; rw [e]
theorem le_un_left {w w' : World} {A : PH} (hA : Le A (hp w)) : Le A (un A (nw w w')) := fun b o e => by
  have hb : b < w.heap.size := lt_of_heap (hA b o e)
  unfold un nw
  rw [if_neg (by omega)]; exact e
end Go.E
