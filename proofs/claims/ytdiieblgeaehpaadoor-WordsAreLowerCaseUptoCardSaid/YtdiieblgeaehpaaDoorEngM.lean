/- More rules for generated walks: conversions of byte slices, parts of structs, three things at once in a drawn region. No program in sight. -/
import Derived.Test.YtdiieblgeaehpaaDoorEngL
namespace Go.E
open Go Go.RowKit

theorem Lcl.poke {w0 w w' : World} {O : List Res} {g : Nat} (h : Lcl w0 O w) (hg : w.grownBy w' (some g)) (_ : w.drawn ≤ w'.drawn) (hge : w0.heap.size ≤ g) (hno : owned O g = false) : Lcl w0 O w' := by
  have hs : ∀ r ∈ O, ∀ b, r.block = some b → w'.heap[b]? = w.heap[b]? := fun r hr b hb => by
    refine hg.block b ((h.res r hr).lt hb) (fun e => ?_)
    have e' : b = g := by simpa [eq_comm] using e
    have : owned O b = true := owned_iff.2 ⟨r, hr, hb⟩
    rw [e', hno] at this; cases this
  refine ⟨⟨⟨hg.os.trans h.ext.os, hg.tape.trans h.ext.tape, hg.output.trans h.ext.output, Nat.le_trans h.ext.size hg.size, fun k hk => ?_⟩⟩, fun r hr => (h.res r hr).same (hs r hr), h.own, h.dis⟩
  have hne : ¬ (some k = some g) := fun e => by
    have e' : k = g := by simpa using e
    omega
  rw [hg.block k (Nat.lt_of_lt_of_le hk h.ext.size) hne]
  exact h.ext.block k hk

section
variable {P : Program} {L : Env} {w : World} {x y : Operand} {ty t t' : TypeId}
theorem r_beq {a b : Bool} (hx : ev L x = some (.bool a)) (hy : ev L y = some (.bool b)) (ht : P.underlying t = some .bool) : RunsAt P L w (.binOp .eql t x y t') ty (.bool (a == b)) := by
  intro w' _ ρ hρ dst pos af g
  have key : ∀ dd : Nat, (Op.equalIn (dd + 1) t (.bool a) (.bool b)).run P w' = .ok (a == b) w' := fun dd => by simp [Op.equalIn, run_underlying ht]
  have k2 : (Op.equal t (.bool a) (.bool b)).run P w' = .ok (a == b) w' := key 9999
  simp [execOp, hρ x _ hx, hρ y _ hy, eqGuard, binOp, k2]
theorem r_bne {a b : Bool} (hx : ev L x = some (.bool a)) (hy : ev L y = some (.bool b)) (ht : P.underlying t = some .bool) : RunsAt P L w (.binOp .neq t x y t') ty (.bool (a != b)) := by
  intro w' _ ρ hρ dst pos af g
  have key : ∀ dd : Nat, (Op.equalIn (dd + 1) t (.bool a) (.bool b)).run P w' = .ok (a == b) w' := fun dd => by simp [Op.equalIn, run_underlying ht]
  have k2 : (Op.equal t (.bool a) (.bool b)).run P w' = .ok (a == b) w' := key 9999
  simp [execOp, hρ x _ hx, hρ y _ hy, eqGuard, binOp, k2, bne]
end
theorem cells_one {v : Value} (h : v.oneCell' = true) : v.cells.toList = [v] := by cases v <;> simp_all [Value.cells, Value.oneCell']
section
variable {P : Program} {n : Sz} {ops : Array Oper} {Q : Exit → Act → World → Prop} {L : Env} {w w0 : World} {O : List Res} {rest : List Oper} {d : Nat} {ty : TypeId} {pos : String} {af : Array Edge} {x : Operand} {v : Value} {t e : TypeId} {H : PH}
theorem S_box1 (hx : ev L x = some v) (h1 : v.oneCell' = true) (hn : Nat.blt d n.n = true) (hL : Lcl w0 O w)
    (h : ∀ w' b, Lcl w0 (.box b [v] t :: O) w' → Le (fz w O) (fz w' (.box b [v] t :: O)) → Ext w w' → S P n ops Q rest ((d, .pointer (some ⟨b, 0, none⟩)) :: L) w') : S P n ops Q (⟨some d, .box t x, ty, pos, af, none⟩ :: rest) L w :=
  S_box hx (cells_one h1) hn hL h
/-- A byte slice of the call's own becomes one that shares its bytes with a string: it lies fast. -/
theorem S_cvB (i : Nat) {l : List UInt8} {xs : List Value} (hx : ev L x = some v) (ht : P.underlying t = some (.slice e)) (he : P.underlying e = some (.int .u8)) (hn : Nat.blt d n.n = true) (_hH : Le H (hp w0)) (hL : Lcl w0 O w) (hi : nthR O i = some (.row v e 1 l.length xs)) (hel : Elems .byte (gz H w0 w O) l xs) (hne : l ≠ [])
    (h : ∀ w', Lcl w0 (delR O i) w' → Le (fz w O) (fz w' (delR O i)) → Vec .byte (gz H w0 w' (delR O i)) v l → S P n ops Q rest ((d, v) :: L) w') :
    S P n ops Q (⟨some d, .convert t t x, ty, pos, af, none⟩ :: rest) L w := by
  have hown : w.ownsRow 0 e 1 v l.length xs := hL.at hi
  rcases hown.2 with ⟨_, hn0⟩ | ⟨g, cap, cur, rfl, hb, hg, hnc, hcm, hcs, htake⟩
  · exact absurd (List.eq_nil_of_length_eq_zero hn0) hne
  have hgl := lt_of_heap hg
  have hfr : w.freeze ⟨g, cur.size, none⟩ 1 = { w with heap := w.heap.setIfInBounds g (.cells cur e (cur.size, cur.size + 1)) } := by
    unfold World.freeze
    rw [if_neg (by decide)]
    congr 1
    apply Array.ext_getElem?
    intro k
    rw [Array.getElem?_modify, Array.getElem?_setIfInBounds]
    by_cases hk : g = k
    · subst hk; rw [if_pos rfl, if_pos rfl, if_pos hgl, hg]; rfl
    · rw [if_neg hk, if_neg hk]
  have hrun : (convert t t (.slice (some ⟨g, 0, none⟩) l.length cap)).run P w = .ok (.slice (some ⟨g, 0, none⟩) l.length cap) (w.freeze ⟨g, cur.size, none⟩ 1) := by
    simp [convert, run_underlying ht, run_underlying he, markStringish, shape, freeze, Sem.run, World.shape?, hg]
  rw [hfr] at hrun
  have hgr : w.grownBy { w with heap := w.heap.setIfInBounds g (.cells cur e (cur.size, cur.size + 1)) } (some g) :=
    ⟨rfl, rfl, rfl, by simp, fun k _ hne => by
      show (w.heap.setIfInBounds g _)[k]? = _
      rw [Array.getElem?_setIfInBounds, if_neg (fun e => hne (by rw [e]))]⟩
  have hmem : Res.row (.slice (some ⟨g, 0, none⟩) l.length cap) e 1 l.length xs ∈ O := (perm_nth hi).mem_iff.2 (.head _)
  have hge : w0.heap.size ≤ g := hL.own _ hmem g rfl
  have hno : owned (delR O i) g = false := by
    cases hc : owned (delR O i) g with
    | false => rfl
    | true =>
      obtain ⟨r, hr, hb'⟩ := owned_iff.1 hc
      have hd := List.pairwise_cons.1 (hL.perm (perm_nth hi).symm).dis
      exact absurd hb' (hd.1 r hr g rfl)
  have hL' := (hL.dropAt hi).poke hgr (Nat.le_refl _) hge hno
  have hle : Le (fz w O) (fz { w with heap := w.heap.setIfInBounds g (.cells cur e (cur.size, cur.size + 1)) } (delR O i)) := fun b o hbo => by
    have hbg : b ≠ g := fun e => by
      subst e
      unfold fz at hbo
      rw [if_pos (owned_iff.2 ⟨_, hmem, rfl⟩)] at hbo
      cases hbo
    have h1 := fz_dropAt (w := w) hi b o hbo
    unfold fz at h1 ⊢
    split at h1
    · cases h1
    · rename_i ho
      rw [if_neg ho]
      show (w.heap.setIfInBounds g _)[b]? = some o
      rw [Array.getElem?_setIfInBounds, if_neg (fun e => hbg e.symm)]
      exact h1
  refine S_value rfl rfl hn (fun ρ hρ => by simp [execOp, hρ x _ hx, hrun]) (h _ hL' hle ?_)
  refine ⟨some ⟨g, 0, none⟩, cap, rfl, hnc, hcm, (fun h => by cases h), fun A hA _ => ?_⟩
  cases hA
  refine ⟨rfl, fun j y hy => ?_⟩
  obtain ⟨c, hc, hcell⟩ := hel.at j y hy
  refine ⟨c, hc, fun k u hu => ?_⟩
  have h1 := hcell k u hu
  rw [← htake, List.getElem?_take] at h1
  split at h1
  · have hgz : gz H w0 { w with heap := w.heap.setIfInBounds g (.cells cur e (cur.size, cur.size + 1)) } (delR O i) g = some (.cells cur e (cur.size, cur.size + 1)) := by
      apply gz_right
      unfold nf fz
      rw [if_pos hge, hno]
      show (w.heap.setIfInBounds g _)[g]? = _
      rw [Array.getElem?_setIfInBounds, if_pos rfl, if_pos hgl]
    simp only [Addr.add_lit, Nat.zero_add, cellP, hgz]
    simpa using h1
  · cases h1
end
end Go.E
