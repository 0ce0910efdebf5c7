/- bytes.Compare's entry of the model, on slices that read as lists. No program in sight. -/
import Derived.Test.YtdiieblgeaehpaaDoorEngL
import Derived.Lib.Bytealg
import Derived.Laws.Externs
namespace Go.E
open Go Go.RowKit

theorem run_loadBytes {P : Program} {w : World} : ∀ (l : List UInt8) (A : Addr) (acc : ByteArray), A.spot = none → (∀ i x, l[i]? = some x → w.cell? (A.add i) = some (.int .u8 (x.toNat : Int))) →
    (Extern.Bytes.loadBytes A l.length acc).run P w = .ok ⟨acc.data ++ l.toArray⟩ w
  | [], A, acc, _, _ => by simp [Extern.Bytes.loadBytes]
  | b :: l, A, acc, hs, h => by
    have h0 := h 0 b rfl
    rw [Addr.add_zero'] at h0
    have ih := run_loadBytes (P := P) (w := w) l (A.add 1) (acc.push b) (addr_add_spot hs 1) (fun i x hx => by rw [addr_add_add hs, Nat.add_comm]; exact h (i + 1) x hx)
    have e : ((b.toNat : Int).toNat).toUInt8 = b := by simp
    simp only [List.length_cons, Extern.Bytes.loadBytes, Sem.run_bind]
    have hl : (load A).run P w = .ok (.int .u8 (b.toNat : Int)) w := by simp [load, Sem.run, h0]
    rw [hl]
    simp only [Result.andThen_ok, e, ih]
    simp
theorem run_bytesOf {P : Program} {w : World} {H : PH} {v : Value} {l : List UInt8} (hv : Vec .byte H v l) (hs : Le H (hp w)) : (Extern.Bytes.bytesOf v).run P w = .ok ⟨l.toArray⟩ w := by
  obtain ⟨a, cap, rfl, h2, h3, h4, h5⟩ := hv.ex
  cases a with
  | none =>
    have : cap = 0 := h4 rfl
    have hl : l = [] := List.eq_nil_of_length_eq_zero (by omega)
    subst hl
    rfl
  | some A =>
    by_cases hl : l = []
    · subst hl; rfl
    · obtain ⟨h6, h7⟩ := h5 A rfl hl
      have := run_loadBytes (P := P) (w := w) l A .empty h6 (fun i x hx => by
        obtain ⟨c, hc, hcell⟩ := h7 i x hx
        obtain rfl : c = [.int .u8 (x.toNat : Int)] := hc
        have := hcell 0 _ rfl
        rw [show (Rp.byte).sz = 1 from rfl, Nat.mul_one, Nat.add_zero] at this
        exact cell_of hs this)
      show (Extern.Bytes.loadBytes A l.length .empty).run P w = _
      rw [this]
      simp
section
variable {P : Program} {L : Env} {w : World} {x y : Operand} {ty : TypeId} {H H' : PH} {u v : Value}
theorem r_bcmp {f : FuncId} {fn : Func} {at_ : Array TypeId} {l m : List UInt8} (hf : P.funcs[f]? = some fn) (h1 : (fn.name == "runtime.NumGoroutine") = false) (h2 : fn.body.isNone = true) (h3 : Extern.findNext fn = none) (h4 : Extern.find fn = some Extern.BytealgCompare.compare)
    (hx : ev L x = some u) (hy : ev L y = some v) (hu : Vec .byte H u l) (hsu : Le H (hp w)) (hv : Vec .byte H' v m) (hsv : Le H' (hp w)) : RunsAt P L w (.call ⟨.value (.func f), #[x, y], at_⟩) ty (.int .i64 (Lib.compareBytes l m)) := by
  intro w' hw ρ hρ dst pos af g
  have e0 : ρ (.func f) = .func (.func f) #[] #[] := hρ _ _ rfl
  have b1 := run_bytesOf (P := P) hu (hsu.ext hw)
  have b2 := run_bytesOf (P := P) hv (hsv.ext hw)
  have hc : (Extern.BytealgCompare.compare #[u, v]).run P w' = .ok (.int .i64 (Lib.compareBytes l m)) w' := by
    show Sem.run P (do pure (goInt (Extern.BytealgCompare.cmp (← Extern.Bytes.bytesOf u) (← Extern.Bytes.bytesOf v)))) w' = _
    simp only [Sem.run_bind, b1, b2, Result.andThen_ok, Sem.run_pure, Lib.cmp_eq]
    simp [goInt]
  have hcall : (callFunc f #[u, v]).run P w' = .ok (.value (.int .i64 (Lib.compareBytes l m))) w' := by
    rw [run_callFunc_extern hf h1 h2 h3 h4, hc]; rfl
  simp [execOp, resolve, e0, hρ x _ hx, hρ y _ hy, Deferred.ofValue, invoke, hcall]
end
end Go.E
