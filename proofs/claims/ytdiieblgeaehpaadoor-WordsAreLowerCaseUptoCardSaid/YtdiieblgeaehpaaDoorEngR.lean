/- Rules for generated walks: shifts by numbers, strings as bytes, checks of pointers. No program in sight. -/
import Derived.Test.YtdiieblgeaehpaaDoorEngN
import Derived.Lib.ConvBytes
import Derived.Test.YtdiieblgeaehpaaDoorCmp
namespace Go.E
open Go Go.RowKit

section
variable {P : Program} {L : Env} {w : World} {x y : Operand} {ty t t' e : TypeId}
theorem r_shrV8 {a : UInt8} {c : Int} {k' : IntKind} (hx : ev L x = some (.int .u8 (a.toNat : Int))) (hy : ev L y = some (.int k' c)) (hc : 0 ≤ c ∧ c < 8) : RunsAt P L w (.binOp .shr t x y t') ty (.int .u8 ((a >>> (UInt8.ofNat c.toNat)).toNat : Int)) := by
  obtain ⟨m, rfl⟩ := Int.eq_ofNat_of_zero_le hc.1
  exact r_shr8 hx hy (by omega)
theorem r_shlV8 {a : UInt8} {c : Int} {k' : IntKind} (hx : ev L x = some (.int .u8 (a.toNat : Int))) (hy : ev L y = some (.int k' c)) (hc : 0 ≤ c ∧ c < 8) : RunsAt P L w (.binOp .shl t x y t') ty (.int .u8 ((a <<< (UInt8.ofNat c.toNat)).toNat : Int)) := by
  obtain ⟨m, rfl⟩ := Int.eq_ofNat_of_zero_le hc.1
  have hm : m < 8 := by omega
  refine r_shl hx hy rfl (by simp [IntKind.bits]; omega) ?_
  rw [Int.toNat_natCast, UInt8.toNat_shiftLeft, UInt8.toNat_ofNat', Nat.mod_eq_of_lt (show m < 2 ^ 8 by omega), Nat.mod_eq_of_lt hm, Nat.shiftLeft_eq]
  have e : (a.toNat : Int) * 2 ^ m = ((a.toNat * 2 ^ m : Nat) : Int) := by rw [Int.natCast_mul, Int.natCast_pow]; rfl
  rw [e]
  generalize a.toNat * 2 ^ m = z
  have h256 : (IntKind.u8.wrap ((z : Nat) : Int)) = (z : Int) % 256 := by simp [IntKind.wrap, IntKind.bits, IntKind.signed]
  rw [h256]
  omega
theorem r_shlV64 {a c : Int} {k' : IntKind} (hx : ev L x = some (.int .i64 a)) (hy : ev L y = some (.int k' c)) (hc : (0 ≤ c ∧ c ≤ 63) ∧ Go.L.I64 (a * 2 ^ c.toNat)) : RunsAt P L w (.binOp .shl t x y t') ty (.int .i64 (a * 2 ^ c.toNat)) := by
  obtain ⟨⟨h0, h1⟩, h2⟩ := hc
  obtain ⟨m, rfl⟩ := Int.eq_ofNat_of_zero_le h0
  rw [Int.toNat_natCast] at h2 ⊢
  exact r_shl hx hy rfl (by simp [IntKind.bits]; omega) (wrap64 h2.1 h2.2)
theorem r_neg {a : Int} (hx : ev L x = some (.int .i64 a)) (h : Go.L.I64 (-a)) : RunsAt P L w (.unOp .neg t x) ty (.int .i64 (-a)) := by
  intro w' _ ρ hρ dst pos af g
  have e := wrap64 h.1 h.2
  simp [execOp, hρ x _ hx, Op.unary, Op.intArith, e]
theorem r_nilChk {p : Addr} (hx : ev L x = some (.pointer (some p))) : RunsAt P L w (.nilCheck x) ty (.pointer (some p)) := by
  intro w' _ ρ hρ dst pos af g
  simp [execOp, hρ x _ hx]
/-- Two strings held against each other. -/
theorem r_scmp {f : FuncId} {fn : Func} {at_ : Array TypeId} {l m : List UInt8} (hf : P.funcs[f]? = some fn) (h1 : (fn.name == "runtime.NumGoroutine") = false) (h2 : fn.body.isNone = true) (h3 : Extern.findNext fn = none) (h4 : Extern.find fn = some Extern.BytealgCompare.compare)
    (hx : ev L x = some (.string ⟨l.toArray⟩)) (hy : ev L y = some (.string ⟨m.toArray⟩)) : RunsAt P L w (.call ⟨.value (.func f), #[x, y], at_⟩) ty (.int .i64 (Lib.compareBytes l m)) := by
  intro w' hw ρ hρ dst pos af g
  have e0 : ρ (.func f) = .func (.func f) #[] #[] := hρ _ _ rfl
  have hc : (Extern.BytealgCompare.compare #[.string ⟨l.toArray⟩, .string ⟨m.toArray⟩]).run P w' = .ok (.int .i64 (Lib.compareBytes l m)) w' := by
    show Sem.run P (do pure (goInt (Extern.BytealgCompare.cmp (← Extern.Bytes.bytesOf (.string ⟨l.toArray⟩)) (← Extern.Bytes.bytesOf (.string ⟨m.toArray⟩))))) w' = _
    simp only [Extern.Bytes.bytesOf, Sem.run_bind, Result.andThen_ok, Sem.run_pure, Lib.cmp_eq]
    simp [goInt]
  have hcall : (callFunc f #[.string ⟨l.toArray⟩, .string ⟨m.toArray⟩]).run P w' = .ok (.value (.int .i64 (Lib.compareBytes l m))) w' := by
    rw [run_callFunc_extern hf h1 h2 h3 h4, hc]; rfl
  simp [execOp, resolve, e0, hρ x _ hx, hρ y _ hy, Deferred.ofValue, invoke, hcall]
/-- A letter as a string. -/
theorem r_b2s {a : UInt8} (hx : ev L x = some (.int .u8 (a.toNat : Int))) (ht : P.underlying t = some (.int .u8)) (ht' : P.underlying t' = some .string) (ha : a.toNat < 128) : RunsAt P L w (.convert t t' x) ty (.string ⟨[a].toArray⟩) := by
  intro w' _ ρ hρ dst pos af g
  have hv : Utf8.valid (a.toNat : Int) = true := by simp [Utf8.valid]; omega
  have e : Utf8.encode (a.toNat : Int) = ⟨[a].toArray⟩ := by
    unfold Utf8.encode
    rw [if_pos hv, Int.toNat_natCast, if_pos (by omega)]
    simp only [UInt8.ofNat_toNat]
  simp [execOp, hρ x _ hx, convert, run_underlying ht, run_underlying ht', Conv.intToString, e]
end
section
variable {P : Program} {n : Sz} {ops : Array Oper} {Q : Exit → Act → World → Prop} {L : Env} {w w0 : World} {O : List Res} {rest : List Oper} {d : Nat} {ty : TypeId} {pos : String} {af : Array Edge} {x : Operand} {t t' e : TypeId} {H : PH}
theorem bytes_vec (w : World) (e : TypeId) {l : List UInt8} (hl : l.length ≤ 9223372036854775807) : Ext w (Lib.bytesWorld w e ⟨l.toArray⟩) ∧ Vec .byte (nw w (Lib.bytesWorld w e ⟨l.toArray⟩)) (.slice (some ⟨w.heap.size, 0, none⟩) l.length (grownCap w l.length 0 e)) l := by
  have hs : (ByteArray.mk l.toArray).size = l.length := by simp [ByteArray.size]
  refine ⟨⟨⟨rfl, rfl, rfl, ?_, fun k hk => ?_⟩⟩, ⟨some ⟨w.heap.size, 0, none⟩, _, rfl, grownCap_ge _ _ _ _, grownCap_le_maxLen _ _ _ _ (by unfold maxLen; omega), (fun h => by cases h), fun A hA _ => ?_⟩⟩
  · rw [Lib.bytesWorld_size]; omega
  · exact Lib.bytesWorld_at_old w e _ k hk
  · cases hA
    refine ⟨rfl, fun i b hb => ⟨_, rfl, fun j u hu => ?_⟩⟩
    have hi := (List.getElem?_eq_some_iff.1 hb).1
    cases j with
    | zero =>
      simp only [List.getElem?_cons_zero, Option.some.injEq] at hu
      subst hu
      show cellP _ (Addr.add ⟨w.heap.size, 0, none⟩ (i * 1 + 0)) = _
      have := Lib.bytesWorld_cell w e ⟨l.toArray⟩ i (by rw [hs]; exact hi)
      simp only [Addr.add_lit, Nat.zero_add, Nat.mul_one, Nat.add_zero, cellP, nw, Nat.le_refl, if_true]
      unfold World.cell? at this
      rw [show (l.toArray.toList.getD i 0) = b by simp [List.getD_eq_getElem?_getD, hb]] at this
      exact this
    | succ j => cases hu
/-- '[]byte(s)'. -/
theorem S_s2b {l : List UInt8} {u : TypeDesc} (hx : ev L x = some (.string ⟨l.toArray⟩)) (ht : P.underlying t = some u) (ht' : P.underlying t' = some (.slice e)) (he : P.underlying e = some (.int .u8)) (hn : Nat.blt d n.n = true) (hL : Lcl w0 O w) (hl : l.length ≤ 9223372036854775807)
    (h : ∀ v w', Ext w w' → Lcl w0 O w' → Le (fz w O) (fz w' O) → Vec .byte (gz H w0 w' O) v l → S P n ops Q rest ((d, v) :: L) w') : S P n ops Q (⟨some d, .convert t t' x, ty, pos, af, none⟩ :: rest) L w := by
  obtain ⟨h1, h2⟩ := bytes_vec w e hl
  have hs : (ByteArray.mk l.toArray).size = l.length := by simp [ByteArray.size]
  refine S_value (v := .slice (some ⟨w.heap.size, 0, none⟩) l.length (grownCap w l.length 0 e)) (w' := Lib.bytesWorld w e ⟨l.toArray⟩) rfl rfl hn (fun ρ hρ => ?_) (h _ _ h1 (hL.call h1) (fz_ext hL h1) (h2.mono (gz_new hL)))
  have := Lib.run_convert_string_bytes (P := P) w t t' e ⟨l.toArray⟩ ht ht' he
  rw [hs] at this
  simp [execOp, hρ x _ hx, this]
end
/-- What is owned, in another order: one place after the other to the front. -/
def pickR (O : List Res) (i : Nat) : List Res := match nthR O i with | some q => q :: delR O i | none => O
def picksR : List Res → List Nat → List Res
  | O, [] => O
  | O, i :: l => picksR (pickR O i) l
theorem pickR_perm (O : List Res) (i : Nat) : O.Perm (pickR O i) := by
  unfold pickR
  split
  · rename_i q hq; exact perm_nth hq
  · exact List.Perm.refl _
theorem picksR_perm : ∀ (l : List Nat) (O : List Res), O.Perm (picksR O l)
  | [], _O => List.Perm.refl _
  | i :: l, O => (pickR_perm O i).trans (picksR_perm l (pickR O i))
theorem Lcl.picks {w0 w : World} {O O' : List Res} (l : List Nat) (h : Lcl w0 O w) (e : picksR O l = O') : Lcl w0 O' w := e ▸ h.perm (picksR_perm l O).symm
theorem fz_picks {w0 w : World} {O O' : List Res} (l : List Nat) (_ : Lcl w0 O w) (_ : Lcl w0 O' w) (e : picksR O l = O') : Le (fz w O) (fz w O') := by
  rw [← e, fz_perm (picksR_perm l O).symm]; exact Le.refl _
/-- What is owned, and more about it. -/
abbrev InO (w0 : World) (O : List Res) (w : World) (P : List Res → Prop) : Prop := Lcl w0 O w ∧ P O
end Go.E
