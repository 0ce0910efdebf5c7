/- The sorts of the library's shelf as rules of the walk: a row is held in another order. No program in sight. -/
import Derived.Test.YtmifkdfaaaaicaaEngL
import Derived.Shelf.SlSortCmp.NoneTotal
namespace Go.E
open Go Go.RowKit Go.Sort Go.Proofs Go.Shelf

theorem ext_grow {w w' : World} (h : Ext w w') : ∃ q os, w' = grow (w.drewN q) os := by
  refine ⟨w'.drawn - w.drawn, w'.heap.extract w.heap.size w'.heap.size, ?_⟩
  have hd := h.drawn
  have hh : w.heap ++ w'.heap.extract w.heap.size w'.heap.size = w'.heap := by
    apply Array.ext_getElem?
    intro k
    rcases Nat.lt_or_ge k w.heap.size with hk | hk
    · rw [Array.getElem?_append_left hk, h.block k hk]
    · rw [Array.getElem?_append_right hk, Array.getElem?_extract]
      have := h.size
      split
      · congr 1; omega
      · rw [Array.getElem?_eq_none (by omega)]
  obtain ⟨heap, tape, drawn, os, output⟩ := w
  obtain ⟨heap', tape', drawn', os', output'⟩ := w'
  have h1 := h.os
  have h2 := h.tape
  have h3 := h.output
  simp only at h1 h2 h3 hd hh
  subst h1; subst h2; subst h3
  simp only [grow, World.drewN, World.mk.injEq, and_true, true_and]
  exact ⟨hh.symm, by omega⟩

section
variable {α : Type} [Inhabited α]
theorem sortWorld_heap (enc : α → Value) (w : World) (g m : Nat) (d : Array α) (os : Array Obj) (k : Nat) (hk : k < w.heap.size) : (sortWorld enc w g 0 m d os).heap[k]? = if k = g then (w.heap[k]?).map (onCells (putCells enc 0 d)) else w.heap[k]? := by
  unfold sortWorld grow putRow mapBlock Sort.ahead
  simp only
  rw [Array.getElem?_append_left (by simpa using hk), Array.getElem?_modify]
  by_cases h : g = k
  · subst h; simp
  · rw [if_neg h, if_neg (fun e => h e.symm)]
theorem sortWorld_grown (enc : α → Value) (w : World) (g m : Nat) (d : Array α) (os : Array Obj) : w.grownBy (sortWorld enc w g 0 m d os) (some g) :=
  ⟨rfl, rfl, rfl, by simp [sortWorld, grow, putRow, mapBlock, Sort.ahead], fun k hk hne => by rw [sortWorld_heap enc w g m d os k hk, if_neg (fun e => hne (by rw [e]))]⟩
theorem putCells_take (enc : α → Value) (d : Array α) (c : Array Value) (h : d.size ≤ c.size) : (putCells enc 0 d c).toList.take d.size = d.toList.map enc := by
  apply List.ext_getElem?
  intro k
  rw [List.getElem?_take]
  by_cases hk : k < d.size
  · rw [if_pos hk]
    have hkc : k < c.size := by omega
    simp [putCells, hk, hkc]
  · rw [if_neg hk, List.getElem?_eq_none (by simp; omega)]
theorem row_sorted {enc : α → Value} {w : World} {e : TypeId} {g cap m : Nat} {l l' : List α} {os : Array Obj} (ho : w.ownsRow 0 e 1 (.slice (some ⟨g, 0, none⟩) l.length cap) l.length (l.map enc)) (hl : l'.length = l.length) :
    (sortWorld enc w g 0 m l'.toArray os).ownsRow 0 e 1 (.slice (some ⟨g, 0, none⟩) l.length cap) l'.length (l'.map enc) := by
  obtain ⟨h1, h2⟩ := ho
  refine ⟨by simp, ?_⟩
  rcases h2 with ⟨hc, _⟩ | ⟨g', cap', cur, hv, hb, hg, hnc, hcm, hcs, htake⟩
  · cases hc
  · cases hv
    have hgl := lt_of_heap hg
    refine .inr ⟨g, cap, putCells enc 0 l'.toArray cur, by rw [hl], hb, ?_, by omega, hcm, by simp [putCells, hcs], ?_⟩
    · rw [sortWorld_heap enc w g m _ os g hgl, if_pos rfl, hg]
      rfl
    · have := putCells_take enc l'.toArray cur (by simp; omega)
      simpa using this
theorem row_holds {enc : α → Value} {w : World} {e : TypeId} {g cap : Nat} {l : List α} (ho : w.ownsRow 0 e 1 (.slice (some ⟨g, 0, none⟩) l.length cap) l.length (l.map enc)) : Holds enc w g 0 l.toArray ∧ g < w.heap.size := by
  obtain ⟨h1, h2⟩ := ho
  rcases h2 with ⟨hc, _⟩ | ⟨g', cap', cur, hv, hb, hg, hnc, hcm, hcs, htake⟩
  · cases hc
  · cases hv
    refine ⟨fun j hj => ?_, lt_of_heap hg⟩
    have hj' : j < l.length := by simpa using hj
    constructor
    · have : cur.toList[j]? = some (enc l[j]) := by
        have h3 : (cur.toList.take (l.length * 1))[j]? = (l.map enc)[j]? := by rw [htake]
        rw [List.getElem?_take, if_pos (by omega)] at h3
        simpa [hj'] using h3
      simp only [World.cell?, hg, Nat.zero_add]
      simpa [hj'] using this
    · simp [World.frozen?, hg]
end

section
variable {P : Program} {n : Nat} {ops : Array Oper} {Q : Exit → Act → World → Prop} {L : Env} {w w0 : World} {O : List Res} {rest : List Oper} {d : Nat} {ty : TypeId} {pos : String} {af : Array Edge} {α : Type} [Inhabited α] {x y : Operand} {v : Value} {e : TypeId}
/-- What a closure may lean on while a row of its maker is being sorted. -/
structure Amid (w : World) (O : List Res) (w1 : World) : Prop where
  le : Le (fz w O) (hp w1)
  box : ∀ b cs t, Res.box b cs t ∈ O → PtrTo (hp w1) ⟨b, 0, none⟩ cs
theorem amid_sort {enc : α → Value} {i g cap m : Nat} {l : List α} {dk : Array α} {os : Array Obj} {sz k : Nat} {xs : List Value} (hL : Lcl w0 O w) (hi : nthR O i = some (.row (.slice (some ⟨g, 0, none⟩) k cap) e sz l.length xs)) : Amid w O (sortWorld enc w g 0 m dk os) := by
  have hown : owned O g = true := owned_iff.2 ⟨_, (perm_nth hi).mem_iff.2 (.head _), rfl⟩
  constructor
  · intro b o hb
    have hlt := lt_of_heap (fz_le w O b o hb)
    show (sortWorld enc w g 0 m dk os).heap[b]? = some o
    rw [sortWorld_heap enc w g m dk os b hlt, if_neg]
    · exact fz_le w O b o hb
    · intro e; subst e
      unfold fz at hb
      rw [if_pos hown] at hb
      cases hb
  · intro b cs t hb
    have hok := hL.res _ hb
    have hlt : b < w.heap.size := lt_of_heap hok
    have hne : b ≠ g := by
      intro e'
      subst e'
      have hp := hL.perm (perm_nth hi).symm
      have hd := List.pairwise_cons.1 hp.dis
      have hm : Res.box b cs t ∈ delR O i := by
        have := (perm_nth hi).mem_iff.1 hb
        rcases List.mem_cons.1 this with h | h
        · cases h
        · exact h
      exact hd.1 _ hm b rfl rfl
    refine ⟨rfl, fun j u hu => ?_⟩
    have hh : (sortWorld enc w g 0 m dk os).heap[b]? = some (.cells cs.toArray t (0, 0)) := by
      rw [sortWorld_heap enc w g m dk os b hlt, if_neg hne]; exact hok
    simp only [Addr.add_lit, Nat.zero_add, cellP, hp, hh]
    simpa using hu

/-- 'slices.SortFunc(x, y)', the elements of one cell, no two alike to the comparison. -/
theorem S_sortF {ρr ρ0 : Go.Shelf.Ren} {f g i : Nat} {cb : List Value} {at_ : Array TypeId} {enc : α → Value} {cf : α → α → Int} {l : List α} {args : List Operand} (Ls : SlLaysF.n6 P ρr) (hf : ρr.f 6 = f) (L0 : SlLaysF0.n6 P ρ0) (hf0 : ρ0.f 6 = f) (hc : Callable P f) (h1 : ∀ a : α, (enc a).oneCell' = true) (hO : SWO (ltOf cf)) (hT : ∀ x y, (ltOf cf) x y = false → (ltOf cf) y x = false → x = y)
    (eg : ∀ args w, (callFunc g args).run P w = .ok (.enter g args) w) (ha : evl L args = some [v, .func (.func g) #[] cb.toArray]) (hn : Nat.blt d n = true) (hL : Lcl w0 O w) (hi : nthR O i = some (.row v e 1 l.length (l.map enc))) (hlen : l.length < 4611686018427387904)
    (hcl : ∀ w1, Amid w O w1 → ∀ a b : α, Ok P g (enc a :: enc b :: cb) w1 (fun v w' => Ext w1 w' ∧ v = .int .i64 (cf a b)))
    (h : ∀ (w' : World), Lcl w0 (setR O i (.row v e 1 (l.mergeSort fun x y => !(ltOf cf) y x).length ((l.mergeSort fun x y => !(ltOf cf) y x).map enc))) w' → Le (fz w O) (fz w' (setR O i (.row v e 1 (l.mergeSort fun x y => !(ltOf cf) y x).length ((l.mergeSort fun x y => !(ltOf cf) y x).map enc)))) → S P n ops Q rest ((d, .tuple #[]) :: L) w') :
    S P n ops Q (⟨some d, .call ⟨.value (.func f), args.toArray, at_⟩, ty, pos, af, none⟩ :: rest) L w := by
  have hown : w.ownsRow 0 e 1 v l.length (l.map enc) := hL.at hi
  rcases hown.2 with ⟨rfl, hn0⟩ | ⟨g0, cap, cur, rfl, _⟩
  · have hnil : l = [] := List.eq_nil_of_length_eq_zero hn0
    subst hnil
    have hs := AnyF.slices_SortFunc_none L0 none 0 (.func (.func g) #[] cb.toArray) w
    rw [hf0] at hs
    refine S_op rfl fun a fr => ?_
    unfold Oper.wp
    rw [run_call hc ha _ fr.rho]
    refine hs.mono fun en w' ⟨he, hw⟩ => ?_
    subst he; subst hw
    simp only [List.mergeSort_nil] at h
    exact h w' (hL.turnAt hi (Nat.le_refl _) (World.grownBy.refl _ _) (hL.at hi) (fun b e => .inl e)) (fz_turnAt (r' := .row (.slice none 0 0) e 1 0 []) hL hi (World.grownBy.refl _ _) (fun b e => .inl e)) _ (fr.put hn)
  subst hf
  obtain ⟨hH, hblk⟩ := row_holds hown
  have hcmp : CmpLays1 P g cb.toArray enc cf g0 0 l.toArray.size w := fun m os dk hs a b => by
    have hk := hcl _ (amid_sort (m := m) (dk := dk) (os := os) (enc := enc) hL hi) a b
    have e1 : (#[enc a, enc b] ++ cb.toArray) = (enc a :: enc b :: cb).toArray := by simp
    rw [e1]
    refine hk.2.mono fun en w' ⟨u, he, hx, hu⟩ => ?_
    subst he; subst hu
    obtain ⟨q, os', hw⟩ := ext_grow hx
    exact ⟨rfl, q, os', hw⟩
  have hone : OneCell enc := fun a => by
    have := h1 a
    cases he : enc a <;> simp_all [Value.cells, Value.oneCell']
  have hs := Any.slices_SortFunc_total Ls enc hone cf hO g cb.toArray g0 0 cap l.toArray w eg hcmp hH hblk (by simpa using hlen) hT
  refine S_op rfl fun a fr => ?_
  unfold Oper.wp
  rw [run_call hc ha _ fr.rho]
  have e0 : ([Value.slice (some ⟨g0, 0, none⟩) l.length cap, .func (.func g) #[] cb.toArray] : List Value).toArray = #[.slice (some ⟨g0, 0, none⟩) l.toArray.size cap, .func (.func g) #[] cb.toArray] := by simp
  rw [e0]
  refine hs.mono fun en w' ⟨he, m, os, hw⟩ => ?_
  subst he
  have hl' : (l.mergeSort fun x y => !(ltOf cf) y x).length = l.length := List.length_mergeSort _
  generalize hm : (l.mergeSort fun x y => !(ltOf cf) y x) = l' at *
  have hw' : w' = sortWorld enc w g0 0 m l'.toArray os := by rw [hw, ← hm]
  have hgr := sortWorld_grown enc w g0 m l'.toArray os
  rw [← hw'] at hgr
  have hok : (Res.row (.slice (some ⟨g0, 0, none⟩) l.length cap) e 1 l'.length (l'.map enc)).ok w' := by
    rw [hw']; exact row_sorted hown hl'
  have hdr : w.drawn ≤ w'.drawn := by rw [hw']; exact Nat.le_add_right _ _
  exact h w' (hL.turnAt hi hdr hgr hok (fun b e => .inl e)) (fz_turnAt (r' := .row (.slice (some ⟨g0, 0, none⟩) l.length cap) e 1 l'.length (l'.map enc)) hL hi hgr (fun b e => .inl e)) _ (fr.put hn)
end
end Go.E
