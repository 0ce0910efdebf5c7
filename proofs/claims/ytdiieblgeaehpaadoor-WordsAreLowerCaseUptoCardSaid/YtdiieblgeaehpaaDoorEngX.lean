/- What strings.Builder's functions need: pointers held against each other, unsafe pointers, bytes that become a string. No program in sight. -/
import Derived.Test.YtdiieblgeaehpaaDoorEngW
import Derived.Lib.Builder
import Derived.Lib.UnsafeStr
namespace Go.E
open Go Go.RowKit

section
variable {P : Program} {L : Env} {w w0 : World} {O : List Res} {x y : Operand} {ty t t' e src dst u T : TypeId} {b : Nat} {cs : List Value}
theorem r_eqPnil {p : Option Addr} (hx : ev L x = some (.pointer p)) (ht : P.underlying t = some (.pointer e)) : RunsAt P L w (.binOp .eql t x (.const (.pointer none)) t') ty (.bool p.isNone) := fun w' _ ρ hρ dst pos af g => by
  have hy : ρ (.const (.pointer none)) = .pointer none := hρ _ _ rfl
  have he : (Op.equal t (.pointer p) (.pointer none)).run P w' = .ok p.isNone w' := by
    unfold Op.equal
    obtain ⟨d, hd⟩ : ∃ d, Op.maxDepth = d + 1 := ⟨9999, rfl⟩
    rw [hd]
    cases p <;> simp [Op.equalIn, run_underlying ht]
  simp [execOp, hρ x _ hx, hy, eqGuard, binOp, he]
theorem r_nePself {j : TypeInfo} {a : Addr} (hx : ev L x = some (.pointer (some a))) (hy : ev L y = some (.pointer (some a))) (ht : P.underlying t = some (.pointer e)) (hj : P.info? e = some j) : RunsAt P L w (.binOp .neq t x y t') ty (.bool false) := fun w' _ ρ hρ dst pos af g => by
  have := Lib.run_neq_ptr_same w' a ht hj
  simp [execOp, hρ x _ hx, hρ y _ hy, eqGuard, this]
theorem box_shape {i : Nat} (hL : Lcl w0 O w) (hi : nthR O i = some (.box b cs T)) : w.shape? b = some (T, cs.length) := by
  have : w.heap[b]? = some (.cells cs.toArray T (0, 0)) := hL.at hi
  simp [World.shape?, this]
theorem r_toU (i : Nat) {j : TypeInfo} (hx : ev L x = some (.pointer (some ⟨b, 0, none⟩))) (hs : P.underlying src = some (.pointer e)) (hd : P.underlying dst = some .unsafePointer) (hj : P.info? e = some j) (h0 : j.size ≠ 0) (hL : Lcl w0 O w) (hi : nthR O i = some (.box b cs T)) (hlen : Nat.blt 0 cs.length = true) :
    RunsAt P L w (.convert src dst x) ty (.pointer (some ⟨b, 0, none⟩)) := fun w' hx' ρ hρ dst' pos af g => by
  have := Lib.run_to_unsafe w' ⟨b, 0, none⟩ hs hd hj h0 (box_shape (hL.call hx') hi) (by simpa [Nat.blt_eq] using hlen)
  simp [execOp, hρ x _ hx, this]
theorem r_fromU (i : Nat) {j : TypeInfo} (hx : ev L x = some (.pointer (some ⟨b, 0, none⟩))) (hs : P.underlying src = some .unsafePointer) (hd : P.underlying dst = some (.pointer u)) (hj : P.info? u = some j) (hL : Lcl w0 O w) (hi : nthR O i = some (.box b cs T)) (hl : liesAt P P.depth T (cs.length / P.cellsOf T) 0 u 1 = true) :
    RunsAt P L w (.convert src dst x) ty (.pointer (some ⟨b, 0, none⟩)) := fun w' hx' ρ hρ dst' pos af g => by
  have := Lib.run_from_unsafe w' ⟨b, 0, none⟩ hs hd hj (box_shape (hL.call hx') hi) hl
  simp [execOp, hρ x _ hx, this]
theorem r_noesc {f : FuncId} {fn : Func} {at_ : Array TypeId} {v : Value} (hf : P.funcs[f]? = some fn) (h1 : (fn.name == "runtime.NumGoroutine") = false) (h2 : fn.body.isNone = true) (h3 : Extern.findNext fn = none) (h4 : Extern.find fn = some Extern.AbiNoEscape.same) (hx : ev L x = some v) :
    RunsAt P L w (.call ⟨.value (.func f), #[x], at_⟩) ty v := fun w' _ ρ hρ dst pos af g => by
  have e0 : ρ (.func f) = .func (.func f) #[] #[] := hρ _ _ rfl
  have hcall : (callFunc f #[v]).run P w' = .ok (.value v) w' := by
    rw [run_callFunc_extern hf h1 h2 h3 h4, Lib.run_noEscape]; rfl
  simp [execOp, resolve, e0, hρ x _ hx, Deferred.ofValue, invoke, hcall]
theorem r_usd {a : Addr} {m c : Nat} (hx : ev L x = some (.slice (some a) m c)) (hc : c ≠ 0) : RunsAt P L w (.call ⟨.builtin .unsafeSliceData, #[x], #[t]⟩) ty (.pointer (some a)) := fun w' _ ρ hρ dst pos af g => by
  have := Lib.run_unsafeSliceData_row (P := P) w' #[t] ty a m c hc
  simp [execOp, resolve, invoke, builtin, hρ x _ hx, this]
end

/-- What the builder's first field holds. -/
def BAd (b : Nat) (v : Value) : Prop := v = .pointer none ∨ v = .pointer (some ⟨b, 0, none⟩)
theorem BAd.one {b : Nat} {v : Value} (h : BAd b v) : v.oneCell' = true := by rcases h with rfl | rfl <;> rfl

section
variable {P : Program} {n : Sz} {ops : Array Oper} {Q : Exit → Act → World → Prop} {L : Env} {w w0 : World} {O : List Res} {rest : List Oper} {d : Nat} {ty pt it e : TypeId} {pos : String} {af : Array Edge} {x y : Operand} {H : PH}
/-- unsafe.String over a row of the call's own: the row is given up. -/
theorem S_uStr (i : Nat) {g cap : Nat} {l : List UInt8} {xs : List Value} (hx : ev L x = some (.pointer (some ⟨g, 0, none⟩))) (hy : ev L y = some (.int .i64 (l.length : Int))) (hpp : P.underlying pt = some (.pointer e)) (hc : P.cellsOf e = 1) (hn : Nat.blt d n.n = true)
    (hL : Lcl w0 O w) (hi : nthR O i = some (.row (.slice (some ⟨g, 0, none⟩) l.length cap) e 1 l.length xs)) (hel : Elems .byte (gz H w0 w O) l xs) (hne : l ≠ [])
    (h : ∀ w', Lcl w0 (delR O i) w' → Le (fz w O) (fz w' (delR O i)) → S P n ops Q rest ((d, .string ⟨l.toArray⟩) :: L) w') : S P n ops Q (⟨some d, .call ⟨.builtin .unsafeString, #[x, y], #[pt, it]⟩, ty, pos, af, none⟩ :: rest) L w := by
  have hown : w.ownsRow 0 e 1 (.slice (some ⟨g, 0, none⟩) l.length cap) l.length xs := hL.at hi
  obtain ⟨cur, hb, hnc, hcm, hcs, htake⟩ : ∃ cur : Array Value, w.heap[g]? = some (.cells cur e (0, 0)) ∧ l.length ≤ cap ∧ cap ≤ maxLen ∧ cur.size = cap * 1 ∧ cur.toList.take (l.length * 1) = xs := by
    rcases hown.2 with ⟨h1, _⟩ | ⟨g', cap', cur, h1, _, hb, hnc, hcm, hcs, htake⟩
    · cases h1
    · cases h1; exact ⟨cur, hb, hnc, hcm, hcs, htake⟩
  have hxs : xs = bc l := bc_of hel
  have hgl := lt_of_heap hb
  have hcell : ∀ j z, l[j]? = some z → w.cell? ((⟨g, 0, none⟩ : Addr).add j) = some (.int .u8 z.toNat) := fun j z hz => by
    have h2 : (bc l)[j]? = some (.int .u8 (z.toNat : Int)) := by unfold bc; rw [List.getElem?_map, hz]; rfl
    rw [← hxs, ← htake, List.getElem?_take] at h2
    split at h2
    · simp only [Addr.add_lit, Nat.zero_add, World.cell?, hb]
      simpa using h2
    · cases h2
  have hsh : w.shape? g = some (e, cur.size) := by simp [World.shape?, hb]
  have hrun := Lib.run_unsafeString_row (P := P) w pt it ty e hpp hc g cur.size hsh l hne (by omega) (by unfold maxLen at hcm; omega) hcell
  obtain ⟨lo, hi', hfr⟩ : ∃ lo hi', w.freeze ⟨g, 0, none⟩ l.length = { w with heap := w.heap.setIfInBounds g (.cells cur e (lo, hi')) } := by
    refine ⟨0, l.length, ?_⟩
    unfold World.freeze
    rw [if_neg (by simpa using hne)]
    congr 1
    apply Array.ext_getElem?
    intro k
    rw [Array.getElem?_modify, Array.getElem?_setIfInBounds]
    by_cases hk : g = k
    · subst hk; rw [if_pos rfl, if_pos rfl, if_pos hgl, hb]; simp
    · rw [if_neg hk, if_neg hk]
  rw [hfr] at hrun
  have hgr : w.grownBy { w with heap := w.heap.setIfInBounds g (.cells cur e (lo, hi')) } (some g) :=
    ⟨rfl, rfl, rfl, by simp, fun k _ hne => by
      show (w.heap.setIfInBounds g _)[k]? = _
      rw [Array.getElem?_setIfInBounds, if_neg (fun e => hne (by rw [e]))]⟩
  have hmem : Res.row (.slice (some ⟨g, 0, none⟩) l.length cap) e 1 l.length xs ∈ O := (perm_nth hi).mem_iff.2 (.head _)
  have hge : w0.heap.size ≤ g := hL.own _ hmem g rfl
  have hno : owned (delR O i) g = false := by
    cases hc : owned (delR O i) g with
    | false => rfl
    | true =>
      obtain ⟨r, hr, hb'⟩ := owned_iff.1 hc
      have hd := List.pairwise_cons.1 (hL.perm (perm_nth hi).symm).dis
      exact absurd hb' (hd.1 r hr g rfl)
  have hL' := (hL.dropAt hi).poke hgr (Nat.le_refl _) hge hno
  have hle : Le (fz w O) (fz { w with heap := w.heap.setIfInBounds g (.cells cur e (lo, hi')) } (delR O i)) := fun b o hbo => by
    have hbg : b ≠ g := fun e => by
      subst e
      unfold fz at hbo
      rw [if_pos (owned_iff.2 ⟨_, hmem, rfl⟩)] at hbo
      cases hbo
    have h1 := fz_dropAt (w := w) hi b o hbo
    unfold fz at h1 ⊢
    split at h1
    · cases h1
    · rename_i ho
      rw [if_neg ho]
      show (w.heap.setIfInBounds g _)[b]? = some o
      rw [Array.getElem?_setIfInBounds, if_neg (fun e => hbg e.symm)]
      exact h1
  refine S_value (v := .string ⟨l.toArray⟩) rfl rfl hn (fun ρ hρ => ?_) (h _ hL' hle)
  simp [execOp, resolve, invoke, builtin, hρ x _ hx, hρ y _ hy, hrun]
/-- A whole element of a row of one's own. -/
theorem r_loadRN {t : TypeId} {v : Value} (i : Nat) {sz m k : Nat} {xs c : List Value} {p : Addr} {dd : TypeDesc} {zz : Value} {bt : Nat} {e' : TypeId} (hx : ev L x = some (.pointer (some p))) (ht : P.underlying t = some dd) (hd : aggT dd = true) (hz : Zr P t zz c.length bt) (hL : Lcl w0 O w)
    (hi : nthR O i = some (.row v e' sz m xs)) (hp' : RowPtr v k p) (hu : ∀ j u, c[j]? = some u → xs[k + j]? = some u) : RunsAt P L w (.load t x) ty (.agg c.toArray) :=
  r_loadN hx ht hd hz ⟨hp'.2.2, fun j u h => row_cell hL hi (hp'.add j) (hu j u h)⟩ (Le.refl _)
end
end Go.E
