/- More rules for generated walks: parts of structs in variables. No program in sight. -/
import Derived.Test.YtdiieblgeaehpaaGreatDoorEngM
import Derived.Lib.AppendZeros
import Derived.Lib.Bytealg
import Derived.Laws.Externs
import Derived.Lib.ConvBytes
namespace Go.E
open Go Go.RowKit
theorem PtrTo.part {H : PH} {p : Addr} {c : List Value} (h : PtrTo H p c) (m : Nat) : PtrTo H p (c.take m) :=
  ⟨h.1, fun j u hu => h.2 j u (by
    rw [List.getElem?_take] at hu
    split at hu
    · exact hu
    · cases hu)⟩
section
variable {P : Program} {L : Env} {w w0 : World} {O : List Res} {x : Operand} {ty t : TypeId} {H : PH}
/-- A part of a variable. -/
theorem r_loadBP (i m : Nat) {b off : Nat} {cs c : List Value} {t' : TypeId} {dd : TypeDesc} {zz : Value} {bt : Nat} (hx : ev L x = some (.pointer (some ⟨b, off, none⟩))) (ht : P.underlying t = some dd) (hd : aggT dd = true) (hz : Zr P t zz c.length bt) (hL : Lcl w0 O w) (hi : nthR O i = some (.box b cs t')) (hc : (cs.drop off).take m = c) : RunsAt P L w (.load t x) ty (.agg c.toArray) := by
  have h1 := ((box_ptr hL hi).add off).part m
  rw [hc, Addr.add_lit, Nat.zero_add] at h1
  exact r_loadN hx ht hd hz h1 (Le.refl _)
/-- A slice is nil, or it lies somewhere. -/
theorem nil_or {α : Type} {r : Rp α} {v : Value} {l : List α} (h : Vec r H v l) : (v = .slice none 0 0 ∧ l = []) ∨ ∃ A n c, v = .slice (some A) n c := by
  obtain ⟨a, cap, h1, h2, _, h4, _⟩ := h.ex
  cases a with
  | none =>
    have hc := h4 rfl
    have hl : l.length = 0 := by omega
    left
    rw [h1, hl, hc]
    exact ⟨rfl, List.eq_nil_of_length_eq_zero hl⟩
  | some A => exact .inr ⟨A, _, _, h1⟩
theorem r_nilT {y : Operand} {e t' : TypeId} (hx : ev L x = some (.slice none 0 0)) (hy : ev L y = some (.slice none 0 0)) (ht : P.underlying t = some (.slice e)) : RunsAt P L w (.binOp .eql t x y t') ty (.bool true) := by
  intro w' _ ρ hρ dst pos af g
  have key : ∀ dd : Nat, (Op.equalIn (dd + 1) t (.slice none 0 0) (.slice none 0 0)).run P w' = .ok true w' := fun dd => by simp [Op.equalIn, run_underlying ht]
  have k2 : (Op.equal t (.slice none 0 0) (.slice none 0 0)).run P w' = .ok true w' := key 9999
  simp [execOp, hρ x _ hx, hρ y _ hy, eqGuard, binOp, k2]
theorem r_nilF {v : Value} {y : Operand} {e t' : TypeId} (hx : ev L x = some v) (hy : ev L y = some (.slice none 0 0)) (ht : P.underlying t = some (.slice e)) (hv : ∃ A n c, v = .slice (some A) n c) : RunsAt P L w (.binOp .eql t x y t') ty (.bool false) := by
  obtain ⟨A, n, c, rfl⟩ := hv
  intro w' _ ρ hρ dst pos af g
  have key : ∀ dd : Nat, (Op.equalIn (dd + 1) t (.slice (some A) n c) (.slice none 0 0)).run P w' = .ok false w' := fun dd => by simp [Op.equalIn, run_underlying ht]
  have k2 : (Op.equal t (.slice (some A) n c) (.slice none 0 0)).run P w' = .ok false w' := key 9999
  simp [execOp, hρ x _ hx, hρ y _ hy, eqGuard, binOp, k2]
/-- The nil slice is a row of one's own. -/
theorem ownNil {α : Type} (r : Rp α) {e : TypeId} (hL : Lcl w0 O w) (hH : Le H (hp w0)) : OwnH e r H w0 w (.slice none 0 0) ([] : List α) :=
  (row_nilE r H e hL).1.ownH (i := 0) hH rfl (row_nilE r H e hL).2.2
end
end Go.E
namespace Go.E
open Go Go.RowKit
section
variable {P : Program} {n : Sz} {ops : Array Oper} {Q : Exit → Act → World → Prop} {L : Env} {w w0 : World} {O : List Res} {rest : List Oper} {d : Nat} {ty : TypeId} {pos : String} {af : Array Edge} {x y : Operand} {t tn e : TypeId} {H : PH}
/-- A byte of a string. -/
theorem r_sidx {l : List UInt8} {k : IntKind} {i : Int} (hx : ev L x = some (.string ⟨l.toArray⟩)) (hy : ev L y = some (.int k i)) (ht : P.underlying t = some .string) (hi : 0 ≤ i ∧ i < (l.length : Int)) : RunsAt P L w (.index t x y) ty (.int .u8 ((l.getD i.toNat default).toNat : Int)) := by
  intro w' _ ρ hρ dst pos af g
  have h1 : i.toNat < l.length := by omega
  have h2 : (⟨l.toArray⟩ : ByteArray)[i.toNat]? = some (l.getD i.toNat default) := by
    have hb : i.toNat < (⟨l.toArray⟩ : ByteArray).size := h1
    rw [show l.getD i.toNat default = (⟨l.toArray⟩ : ByteArray)[i.toNat] by rw [List.getD_eq_getElem?_getD, List.getElem?_eq_getElem h1]; rfl]
    simp [hb]
  simp [execOp, hρ x _ hx, hρ y _ hy, Instr.index, asIntOf, run_underlying ht, hi.1, h2]
end
end Go.E
namespace Go.E
open Go Go.RowKit
section
variable {P : Program} {n : Sz} {m fuel : Nat} {l : List Oper} {Q : Exit → Act → World → Prop} {L : Env} {w w0 : World} {done : List Nat} {i d : Nat} {op : Op} {ty : TypeId} {pos : String} {af : Array Edge}
end
end Go.E
namespace Go.E
open Go Go.RowKit
section
variable {P : Program} {L : Env} {w : World} {x y : Operand} {ty : TypeId} {H H' : PH} {u v : Value}
end
end Go.E
namespace Go.E
open Go Go.RowKit
section
variable {P : Program} {L : Env} {w : World} {x y : Operand} {ty t t' e : TypeId}
theorem r_shrV8 {a : UInt8} {c : Int} {k' : IntKind} (hx : ev L x = some (.int .u8 (a.toNat : Int))) (hy : ev L y = some (.int k' c)) (hc : 0 ≤ c ∧ c < 8) : RunsAt P L w (.binOp .shr t x y t') ty (.int .u8 ((a >>> (UInt8.ofNat c.toNat)).toNat : Int)) := by
  obtain ⟨m, rfl⟩ := Int.eq_ofNat_of_zero_le hc.1
  exact r_shr8 hx hy (by omega)
theorem r_shlV8 {a : UInt8} {c : Int} {k' : IntKind} (hx : ev L x = some (.int .u8 (a.toNat : Int))) (hy : ev L y = some (.int k' c)) (hc : 0 ≤ c ∧ c < 8) : RunsAt P L w (.binOp .shl t x y t') ty (.int .u8 ((a <<< (UInt8.ofNat c.toNat)).toNat : Int)) := by
  obtain ⟨m, rfl⟩ := Int.eq_ofNat_of_zero_le hc.1
  have hm : m < 8 := by omega
  refine r_shl hx hy rfl (by simp [IntKind.bits]; omega) ?_
  rw [Int.toNat_natCast, UInt8.toNat_shiftLeft, UInt8.toNat_ofNat', Nat.mod_eq_of_lt (show m < 2 ^ 8 by omega), Nat.mod_eq_of_lt hm, Nat.shiftLeft_eq]
  have e : (a.toNat : Int) * 2 ^ m = ((a.toNat * 2 ^ m : Nat) : Int) := by rw [Int.natCast_mul, Int.natCast_pow]; rfl
  rw [e]
  generalize a.toNat * 2 ^ m = z
  have h256 : (IntKind.u8.wrap ((z : Nat) : Int)) = (z : Int) % 256 := by simp [IntKind.wrap, IntKind.bits, IntKind.signed]
  rw [h256]
  omega
theorem r_shlV64 {a c : Int} {k' : IntKind} (hx : ev L x = some (.int .i64 a)) (hy : ev L y = some (.int k' c)) (hc : (0 ≤ c ∧ c ≤ 63) ∧ Go.L.I64 (a * 2 ^ c.toNat)) : RunsAt P L w (.binOp .shl t x y t') ty (.int .i64 (a * 2 ^ c.toNat)) := by
  obtain ⟨⟨h0, h1⟩, h2⟩ := hc
  obtain ⟨m, rfl⟩ := Int.eq_ofNat_of_zero_le h0
  rw [Int.toNat_natCast] at h2 ⊢
  exact r_shl hx hy rfl (by simp [IntKind.bits]; omega) (wrap64 h2.1 h2.2)
theorem r_nilChk {p : Addr} (hx : ev L x = some (.pointer (some p))) : RunsAt P L w (.nilCheck x) ty (.pointer (some p)) := by
  intro w' _ ρ hρ dst pos af g
  simp [execOp, hρ x _ hx]
/-- Two strings held against each other. -/
theorem r_scmp {f : FuncId} {fn : Func} {at_ : Array TypeId} {l m : List UInt8} (hf : P.funcs[f]? = some fn) (h1 : (fn.name == "runtime.NumGoroutine") = false) (h2 : fn.body.isNone = true) (h3 : Extern.findNext fn = none) (h4 : Extern.find fn = some Extern.BytealgCompare.compare)
    (hx : ev L x = some (.string ⟨l.toArray⟩)) (hy : ev L y = some (.string ⟨m.toArray⟩)) : RunsAt P L w (.call ⟨.value (.func f), #[x, y], at_⟩) ty (.int .i64 (Lib.compareBytes l m)) := by
  intro w' hw ρ hρ dst pos af g
  have e0 : ρ (.func f) = .func (.func f) #[] #[] := hρ _ _ rfl
  have hc : (Extern.BytealgCompare.compare #[.string ⟨l.toArray⟩, .string ⟨m.toArray⟩]).run P w' = .ok (.int .i64 (Lib.compareBytes l m)) w' := by
    show Sem.run P (do pure (goInt (Extern.BytealgCompare.cmp (← Extern.Bytes.bytesOf (.string ⟨l.toArray⟩)) (← Extern.Bytes.bytesOf (.string ⟨m.toArray⟩))))) w' = _
    simp only [Extern.Bytes.bytesOf, Sem.run_bind, Result.andThen_ok, Sem.run_pure, Lib.cmp_eq]
    simp [goInt]
  have hcall : (callFunc f #[.string ⟨l.toArray⟩, .string ⟨m.toArray⟩]).run P w' = .ok (.value (.int .i64 (Lib.compareBytes l m))) w' := by
    rw [run_callFunc_extern hf h1 h2 h3 h4, hc]; rfl
  simp [execOp, resolve, e0, hρ x _ hx, hρ y _ hy, Deferred.ofValue, invoke, hcall]
/-- A letter as a string. -/
theorem r_b2s {a : UInt8} (hx : ev L x = some (.int .u8 (a.toNat : Int))) (ht : P.underlying t = some (.int .u8)) (ht' : P.underlying t' = some .string) (ha : a.toNat < 128) : RunsAt P L w (.convert t t' x) ty (.string ⟨[a].toArray⟩) := by
  intro w' _ ρ hρ dst pos af g
  have hv : Utf8.valid (a.toNat : Int) = true := by simp [Utf8.valid]; omega
  have e : Utf8.encode (a.toNat : Int) = ⟨[a].toArray⟩ := by
    unfold Utf8.encode
    rw [if_pos hv, Int.toNat_natCast, if_pos (by omega)]
    simp only [UInt8.ofNat_toNat]
  simp [execOp, hρ x _ hx, convert, run_underlying ht, run_underlying ht', Conv.intToString, e]
end
section
variable {P : Program} {n : Sz} {ops : Array Oper} {Q : Exit → Act → World → Prop} {L : Env} {w w0 : World} {O : List Res} {rest : List Oper} {d : Nat} {ty : TypeId} {pos : String} {af : Array Edge} {x : Operand} {t t' e : TypeId} {H : PH}
theorem bytes_vec (w : World) (e : TypeId) {l : List UInt8} (hl : l.length ≤ 9223372036854775807) : Ext w (Lib.bytesWorld w e ⟨l.toArray⟩) ∧ Vec .byte (nw w (Lib.bytesWorld w e ⟨l.toArray⟩)) (.slice (some ⟨w.heap.size, 0, none⟩) l.length (grownCap w l.length 0 e)) l := by
  have hs : (ByteArray.mk l.toArray).size = l.length := by simp [ByteArray.size]
  refine ⟨⟨⟨rfl, rfl, rfl, ?_, fun k hk => ?_⟩⟩, ⟨some ⟨w.heap.size, 0, none⟩, _, rfl, grownCap_ge _ _ _ _, grownCap_le_maxLen _ _ _ _ (by unfold maxLen; omega), (fun h => by cases h), fun A hA _ => ?_⟩⟩
  · rw [Lib.bytesWorld_size]; omega
  · exact Lib.bytesWorld_at_old w e _ k hk
  · cases hA
    refine ⟨rfl, fun i b hb => ⟨_, rfl, fun j u hu => ?_⟩⟩
    have hi := (List.getElem?_eq_some_iff.1 hb).1
    cases j with
    | zero =>
      simp only [List.getElem?_cons_zero, Option.some.injEq] at hu
      subst hu
      show cellP _ (Addr.add ⟨w.heap.size, 0, none⟩ (i * 1 + 0)) = _
      have := Lib.bytesWorld_cell w e ⟨l.toArray⟩ i (by rw [hs]; exact hi)
      simp only [Addr.add_lit, Nat.zero_add, Nat.mul_one, Nat.add_zero, cellP, nw, Nat.le_refl, if_true]
      unfold World.cell? at this
      rw [show (l.toArray.toList.getD i 0) = b by simp [List.getD_eq_getElem?_getD, hb]] at this
      exact this
    | succ j => cases hu
/-- '[]byte(s)'. -/
theorem S_s2b {l : List UInt8} {u : TypeDesc} (hx : ev L x = some (.string ⟨l.toArray⟩)) (ht : P.underlying t = some u) (ht' : P.underlying t' = some (.slice e)) (he : P.underlying e = some (.int .u8)) (hn : Nat.blt d n.n = true) (hL : Lcl w0 O w) (hl : l.length ≤ 9223372036854775807)
    (h : ∀ v w', Ext w w' → Lcl w0 O w' → Le (fz w O) (fz w' O) → Vec .byte (gz H w0 w' O) v l → S P n ops Q rest ((d, v) :: L) w') : S P n ops Q (⟨some d, .convert t t' x, ty, pos, af, none⟩ :: rest) L w := by
  obtain ⟨h1, h2⟩ := bytes_vec w e hl
  have hs : (ByteArray.mk l.toArray).size = l.length := by simp [ByteArray.size]
  refine S_value (v := .slice (some ⟨w.heap.size, 0, none⟩) l.length (grownCap w l.length 0 e)) (w' := Lib.bytesWorld w e ⟨l.toArray⟩) rfl rfl hn (fun ρ hρ => ?_) (h _ _ h1 (hL.call h1) (fz_ext hL h1) (h2.mono (gz_new hL)))
  have := Lib.run_convert_string_bytes (P := P) w t t' e ⟨l.toArray⟩ ht ht' he
  rw [hs] at this
  simp [execOp, hρ x _ hx, this]
end
/-- What is owned, in another order: one place after the other to the front. -/
def pickR (O : List Res) (i : Nat) : List Res := match nthR O i with | some q => q :: delR O i | none => O
def picksR : List Res → List Nat → List Res
  | O, [] => O
  | O, i :: l => picksR (pickR O i) l
theorem pickR_perm (O : List Res) (i : Nat) : O.Perm (pickR O i) := by
  unfold pickR
  split
  · rename_i q hq; exact perm_nth hq
  · exact List.Perm.refl _
theorem picksR_perm : ∀ (l : List Nat) (O : List Res), O.Perm (picksR O l)
  | [], _O => List.Perm.refl _
  | i :: l, O => (pickR_perm O i).trans (picksR_perm l (pickR O i))
theorem Lcl.picks {w0 w : World} {O O' : List Res} (l : List Nat) (h : Lcl w0 O w) (e : picksR O l = O') : Lcl w0 O' w := e ▸ h.perm (picksR_perm l O).symm
theorem fz_picks {w0 w : World} {O O' : List Res} (l : List Nat) (_ : Lcl w0 O w) (_ : Lcl w0 O' w) (e : picksR O l = O') : Le (fz w O) (fz w O') := by
  rw [← e, fz_perm (picksR_perm l O).symm]; exact Le.refl _
/-- What is owned, and more about it. -/
abbrev InO (w0 : World) (O : List Res) (w : World) (P : List Res → Prop) : Prop := Lcl w0 O w ∧ P O
end Go.E
