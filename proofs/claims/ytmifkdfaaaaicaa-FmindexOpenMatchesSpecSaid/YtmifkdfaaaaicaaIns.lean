/- slices.Insert of one number into an owned row of numbers, as a rule of the walk. No program in sight. -/
import Derived.Test.YtmifkdfaaaaicaaEngO
import Derived.Shelf.Spec.SlicesInsert
import Derived.Shelf.Spec.SlicesInsertGrow
namespace Go.E
open Go Go.RowKit Go.Proofs Go.Shelf

/-- Cells set one by one. -/
def putL : Array Value → Nat → List Value → Array Value
  | c, _, [] => c
  | c, o, v :: r => putL (c.setIfInBounds o v) (o + 1) r
theorem putL_size : ∀ (vs : List Value) (c : Array Value) (o : Nat), (putL c o vs).size = c.size
  | [], _, _ => rfl
  | v :: r, c, o => by rw [putL, putL_size r]; simp
theorem putL_get : ∀ (vs : List Value) (c : Array Value) (o : Nat), o + vs.length ≤ c.size → ∀ j, (putL c o vs)[j]? = if o ≤ j ∧ j < o + vs.length then vs[j - o]? else c[j]?
  | [], c, o, _, j => by
    rw [putL, if_neg (by simp)]
  | v :: r, c, o, h, j => by
    have hl : (v :: r).length = r.length + 1 := rfl
    rw [hl] at h ⊢
    rw [putL, putL_get r _ _ (by simp; omega) j]
    by_cases h1 : o + 1 ≤ j ∧ j < o + 1 + r.length
    · rw [if_pos h1, if_pos (by omega)]
      obtain ⟨k, hk⟩ : ∃ k, j - o = k + 1 := ⟨j - o - 1, by omega⟩
      rw [hk, List.getElem?_cons_succ, show j - (o + 1) = k by omega]
    · rw [if_neg h1]
      by_cases h2 : j = o
      · subst h2
        rw [if_pos (by omega), Nat.sub_self]
        simp [Array.getElem?_setIfInBounds, show j < c.size by omega]
      · rw [if_neg (by omega)]
        simp [Array.getElem?_setIfInBounds, show ¬ o = j by omega]
theorem setCells_heap (b : Nat) : ∀ (vs : List Value) (o : Nat) (w : World) (c : Array Value) (e : TypeId) (fr : Nat × Nat), w.heap[b]? = some (.cells c e fr) → (w.setCells b o vs).heap[b]? = some (.cells (putL c o vs) e fr)
  | [], _, _, _, _, _, h => h
  | v :: r, o, w, c, e, fr, h => by
    rw [World.setCells, putL]
    refine setCells_heap b r (o + 1) _ _ _ _ ?_
    have hb : b < w.heap.size := lt_of_heap h
    simp only [World.setCell, Array.getElem?_modify, if_true, h, Option.map_some]
    rfl
theorem setCells_grown (b : Nat) : ∀ (vs : List Value) (o : Nat) (w : World), w.grownBy (w.setCells b o vs) (some b) ∧ (w.setCells b o vs).drawn = w.drawn ∧ (w.setCells b o vs).heap.size = w.heap.size
  | [], _, w => ⟨World.grownBy.refl _ _, rfl, rfl⟩
  | v :: r, o, w => by
    obtain ⟨h1, h2, h3⟩ := setCells_grown b r (o + 1) (w.setCell ⟨b, o, none⟩ v)
    have hs : (w.setCell ⟨b, o, none⟩ v).heap.size = w.heap.size := by simp [World.setCell]
    rw [World.setCells]
    refine ⟨⟨h1.os, h1.tape, h1.output, by rw [h3, hs]; exact Nat.le_refl _, fun k hk hne => ?_⟩, h2, h3.trans hs⟩
    rw [h1.block k (by rw [hs]; exact hk) hne]
    exact heap_setCell_other w ⟨b, o, none⟩ k v (fun e => hne (by simp [e]))
theorem nthR_dis : ∀ {O : List Res} {i j : Nat} {r s : Res}, i ≠ j → nthR O i = some r → nthR O j = some s → (O.Pairwise fun r s => ∀ b, r.block = some b → s.block ≠ some b) → ∀ b, r.block = some b → s.block ≠ some b
  | a :: l, 0, 0, _, _, h, _, _, _ => absurd rfl h
  | a :: l, 0, j + 1, r, s, _, hi, hj, hp => by
    simp only [nthR, Option.some.injEq] at hi
    subst hi
    exact (List.pairwise_cons.1 hp).1 s ((perm_nth (O := l) (i := j) hj).mem_iff.2 (.head _))
  | a :: l, i + 1, 0, r, s, _, hi, hj, hp => by
    simp only [nthR, Option.some.injEq] at hj
    subst hj
    intro b hb hc
    exact (List.pairwise_cons.1 hp).1 r ((perm_nth (O := l) (i := i) hi).mem_iff.2 (.head _)) b hc hb
  | a :: l, i + 1, j + 1, r, s, h, hi, hj, hp => nthR_dis (O := l) (i := i) (j := j) (fun e => h (by rw [e])) hi hj (List.pairwise_cons.1 hp).2

section
variable {P : Program} {n : Nat} {ops : Array Oper} {Q : Exit → Act → World → Prop} {L : Env} {w w0 : World} {O : List Res} {rest : List Oper} {d : Nat} {ty : TypeId} {pos : String} {af : Array Edge} {v u : Value} {e : TypeId}
theorem ins_list {cs : List Value} {z : Value} {k : Nat} (hk : k ≤ cs.length) (j : Nat) : (cs.take k ++ z :: cs.drop k)[j]? = if j < k then cs[j]? else if j = k then some z else cs[j - 1]? := by
  have hl : (cs.take k).length = k := by rw [List.length_take]; omega
  by_cases h1 : j < k
  · rw [List.getElem?_append_left (by omega), List.getElem?_take, if_pos h1, if_pos h1]
  · rw [List.getElem?_append_right (by omega), hl, if_neg h1]
    by_cases h2 : j = k
    · subst h2; simp
    · rw [if_neg h2]
      obtain ⟨q, hq⟩ : ∃ q, j - k = q + 1 := ⟨j - k - 1, by omega⟩
      rw [hq, List.getElem?_cons_succ, List.getElem?_drop, show k + q = j - 1 by omega]
theorem zc_size (k : Nat) : (Builtin.zeroCells (Value.int .i64 0).cells k).size = k := by simp [Builtin.zeroCells, Value.cells]
theorem lit_take (l : List Value) (Z : Array Value) (m : Nat) (h : l.length = m) : (l.toArray ++ Z).toList.take (m * 1) = l := by subst h; simp
/-- 'slices.Insert(x, k, z)'. -/
theorem S_insI {ρr : Go.Shelf.Ren} {f i j k : Nat} {at_ : Array TypeId} {cs : List Value} {z : Value} {args : List Operand} (Ls : Lays2.n21 P ρr) (hf : ρr.f 21 = f) (hte : ρr.t 3 = e) (hc : Callable P f)
    (ha : evl L args = some [v, .int .i64 (k : Int), u]) (hn : Nat.blt d n = true) (hL : Lcl w0 O w) (hij : i ≠ j) (hi : nthR O i = some (.row v e 1 cs.length cs)) (hj : nthR O j = some (.row u e 1 1 [z])) (hk : k ≤ cs.length) (hbig : (cs.length + 1) * 8 ≤ 140737488355328) (h1 : ∀ c ∈ cs, c.oneCell' = true) (h1z : z.oneCell' = true)
    (h : ∀ (v' : Value) (w' : World), Lcl w0 (setR O i (.row v' e 1 (cs.length + 1) (cs.take k ++ z :: cs.drop k))) w' → Le (fz w O) (fz w' (setR O i (.row v' e 1 (cs.length + 1) (cs.take k ++ z :: cs.drop k)))) → S P n ops Q rest ((d, v') :: L) w') :
    S P n ops Q (⟨some d, .call ⟨.value (.func f), args.toArray, at_⟩, ty, pos, af, none⟩ :: rest) L w := by
  have hown : w.ownsRow 0 e 1 v cs.length cs := hL.at hi
  have hown2 : w.ownsRow 0 e 1 u 1 [z] := hL.at hj
  have hdis := nthR_dis hij hi hj hL.dis
  have hlen : (cs.take k ++ z :: cs.drop k).length = cs.length + 1 := by simp; omega
  have fin : ∀ v' w', w.drawn ≤ w'.drawn → w'.ownsRow 0 e 1 v' (cs.length + 1) (cs.take k ++ z :: cs.drop k) → w.grownBy w' v.ownBlock → (∀ b, v'.ownBlock = some b → v.ownBlock = some b ∨ w.heap.size ≤ b) → S P n ops Q rest ((d, v') :: L) w' := fun v' w' hdr h2 h3 hb =>
    h v' w' (hL.turnAt hi hdr h3 h2 hb) (fz_turnAt (r' := .row v' e 1 (cs.length + 1) (cs.take k ++ z :: cs.drop k)) hL hi h3 hb)
  have call : (∃ v' w', Calls P f #[v, .int .i64 (k : Int), u] w (fun en w2 => en = .returned v' ∧ w2 = w') ∧ S P n ops Q rest ((d, v') :: L) w') → S P n ops Q (⟨some d, .call ⟨.value (.func f), args.toArray, at_⟩, ty, pos, af, none⟩ :: rest) L w := by
    rintro ⟨v', w', hs, hS⟩
    refine S_op rfl fun a fr => ?_
    unfold Oper.wp
    rw [run_call hc ha _ fr.rho]
    refine hs.mono fun en w2 ⟨he, hw⟩ => ?_
    subst he; subst hw
    exact hS _ (fr.put hn)
  subst hf
  subst hte
  rcases hown2.2 with ⟨_, h0⟩ | ⟨vb, vc, vcur, rfl, _, hvg, hvc1, hvc2, hvs, hvt⟩
  · cases h0
  have hvcell : ∀ j x, [z][j]? = some x → w.cell? ⟨vb, 0 + j, none⟩ = some x := fun j x hx => by
    have := hown2.cells (g := vb) rfl j x hx
    simpa [Addr.add_lit] using this
  have h1z' : ∀ c ∈ [z], c.oneCell' = true := fun c hc => by simp only [List.mem_singleton] at hc; subst hc; exact h1z
  apply call
  rcases hown.2 with ⟨rfl, hn0⟩ | ⟨b, cap, cur, rfl, hb0, hg, hnc, hcm, hcs, htake⟩
  · have hnil : cs = [] := List.eq_nil_of_length_eq_zero hn0
    subst hnil
    have hk0 : k = 0 := by simpa using hk
    subst hk0
    refine ⟨_, _, Any2.slices_Insert_int_end_grow Ls none 0 0 vb 0 1 vc [] [z] w (by omega) (by omega) (by omega) (by omega) rfl rfl (fun _ => rfl) (fun a h => by cases h) hvcell h1z', fin _ _ (Nat.le_succ _) ?_ ?_ ?_⟩
    · have hge := grownCap_ge w (0 + 1) 0 (ρr.t 3)
      have hle := grownCap_le_maxLen w (0 + 1) 0 (ρr.t 3) (by unfold maxLen; omega)
      refine ⟨by simp, .inr ⟨_, _, _, rfl, Nat.zero_le _, heap_alloc_new w.drew _, hge, hle, by rw [Array.size_append, zc_size]; show 1 + _ = _; omega, lit_take [z] _ _ rfl⟩⟩
    · have := World.grownBy_alloc w.drew (.cells (([] ++ [z] : List Value).toArray ++ Builtin.zeroCells (Value.int .i64 0).cells (grownCap w (0 + 1) 0 (ρr.t 3) - (0 + 1))) (ρr.t 3)) none
      exact ⟨this.os, this.tape, this.output, this.size, this.block⟩
    · intro b hb; cases hb; exact .inr (Nat.le_refl _)
  · have hbl : b < w.heap.size := lt_of_heap hg
    have hvbl : vb < w.heap.size := lt_of_heap hvg
    have hne : vb ≠ b := fun e => hdis b rfl (by subst e; rfl)
    have hcell : ∀ j x, cs[j]? = some x → w.cell? ⟨b, 0 + j, none⟩ = some x := fun j x hx => by
      have := hown.cells (g := b) rfl j x hx
      simpa [Addr.add_lit] using this
    have hcap : cur.size = cap := by rw [hcs]; omega
    have hcur : ∀ j, j < cs.length → cur[j]? = cs[j]? := fun j hj => by
      have h3 : (cur.toList.take (cs.length * 1))[j]? = cs[j]? := by rw [htake]
      rw [List.getElem?_take, if_pos (by omega)] at h3
      simpa using h3
    have hsome : ∀ j, j < cap → (w.cell? ⟨b, j, none⟩).isSome = true := fun j hj => by
      simp [World.cell?, hg, show j < cur.size by omega]
    have hfr : ∀ j, w.frozen? ⟨b, j, none⟩ = false := fun j => by simp [World.frozen?, hg]
    have hvfr : ∀ j, w.frozen? ⟨vb, j, none⟩ = false := fun j => by simp [World.frozen?, hvg]
    have hmax : cap ≤ 9223372036854775807 := by unfold maxLen at hcm; omega
    have tk : ∀ (c2 : Array Value), c2.size = cap → cs.length + 1 ≤ cap → (∀ j, j < cs.length + 1 → c2[j]? = if j < k then cs[j]? else if j = k then some z else cs[j - 1]?) → c2.toList.take ((cs.length + 1) * 1) = cs.take k ++ z :: cs.drop k := fun c2 hs hle hc2 => by
      apply List.ext_getElem?
      intro j
      rw [List.getElem?_take, ins_list hk]
      by_cases hj : j < cs.length + 1
      · rw [if_pos (by omega)]
        have := hc2 j hj
        simpa using this
      · rw [if_neg (by omega), if_neg (by omega), if_neg (by omega), List.getElem?_eq_none (by omega)]
    by_cases hroom : cs.length + 1 ≤ cap
    · by_cases hke : k = cs.length
      · subst hke
        obtain ⟨g1, g2, g3⟩ := setCells_grown b [z] (0 + cs.length) w
        refine ⟨_, _, Any2.slices_Insert_int_end_room Ls b 0 cs.length cap vb 0 1 vc [z] w (by omega) hroom hmax rfl (fun j hj => hsome _ (by omega)) (fun j hj => hfr _) hvcell h1z', fin _ _ (by rw [g2]; exact Nat.le_refl _) ?_ g1 (fun b hb => .inl hb)⟩
        refine ⟨by rw [hlen]; omega, .inr ⟨b, cap, _, rfl, hb0, setCells_heap b [z] _ w cur _ _ hg, hroom, hcm, by rw [putL_size, hcs], tk _ (by rw [putL_size, hcap]) hroom (fun j hj => ?_)⟩⟩
        rw [putL_get _ _ _ (by simp; omega)]
        by_cases h2 : j < cs.length
        · rw [if_neg (by simp; omega), if_pos h2, hcur j h2]
        · have : j = cs.length := by omega
          subst this
          rw [if_pos (by simp), if_neg h2, if_pos rfl]; simp
      · have hklt : k < cs.length := by omega
        obtain ⟨g1, g2, g3⟩ := setCells_grown b (cs.drop k) (0 + (k + 1)) w.drew
        obtain ⟨q1, q2, q3⟩ := setCells_grown b [z] (0 + k) (w.drew.setCells b (0 + (k + 1)) (cs.drop k))
        refine ⟨_, _, Any2.slices_Insert_int_shift Ls b 0 cs.length cap k vb 0 1 vc cs [z] w hklt (by omega) hroom hmax hne rfl rfl hcell (fun j hj => hsome _ (by omega)) (fun j hj => hfr _) hvcell h1 h1z' (ρr.t 3) (ρr.t 3) vcur.size cur.size (by simp [World.shape?, hvg]) (by simp [World.shape?, hg]) (by omega) (hvfr _) (hvfr _), fin _ _ ?_ ?_ ?_ (fun b hb => .inl hb)⟩
        · rw [q2, g2]; exact Nat.le_succ _
        · refine ⟨by rw [hlen]; omega, .inr ⟨b, cap, _, rfl, hb0, setCells_heap b [z] _ _ _ _ _ (setCells_heap b (cs.drop k) _ w.drew cur _ _ hg), hroom, hcm, by rw [putL_size, putL_size, hcs], tk _ (by rw [putL_size, putL_size, hcap]) hroom (fun j hj => ?_)⟩⟩
          rw [putL_get _ _ _ (by rw [putL_size]; simp; omega), putL_get _ _ _ (by simp; omega)]
          by_cases h2 : j < k
          · rw [if_neg (by simp; omega), if_neg (by omega), if_pos h2, hcur j (by omega)]
          · by_cases h3 : j = k
            · subst h3
              rw [if_pos (by simp), if_neg h2, if_pos rfl]; simp
            · rw [if_neg (by simp; omega), if_pos (by simp; omega), if_neg h2, if_neg h3, List.getElem?_drop]
              congr 1; omega
        · refine ⟨q1.os.trans g1.os, q1.tape.trans g1.tape, q1.output.trans g1.output, ?_, fun k2 hk2 hne2 => ?_⟩
          · have := g1.size; have := q1.size; exact Nat.le_trans g1.size q1.size
          · rw [q1.block k2 (by rw [g3]; exact hk2) hne2]; exact g1.block k2 hk2 hne2
    · have hge := grownCap_ge w (cs.length + 1) cap (ρr.t 3)
      have hle := grownCap_le_maxLen w (cs.length + 1) cap (ρr.t 3) (by unfold maxLen; omega)
      by_cases hke : k = cs.length
      · subst hke
        refine ⟨_, _, Any2.slices_Insert_int_end_grow Ls (some ⟨b, 0, none⟩) cs.length cap vb 0 1 vc cs [z] w (by omega) hnc (by omega) hbig rfl rfl (fun h => by cases h) (fun a ha j x hx => by cases ha; exact hown.cells (g := b) rfl j x hx) hvcell h1z', fin _ _ (Nat.le_succ _) ?_ ?_ ?_⟩
        · refine ⟨by rw [hlen]; omega, .inr ⟨_, _, _, rfl, Nat.zero_le _, heap_alloc_new w.drew _, hge, hle, by rw [Array.size_append, zc_size, List.size_toArray, List.length_append]; show cs.length + 1 + _ = _; omega, (lit_take (cs ++ [z]) _ _ (by simp)).trans (by simp)⟩⟩
        · have := World.grownBy_alloc w.drew (.cells ((cs ++ [z] : List Value).toArray ++ Builtin.zeroCells (Value.int .i64 0).cells (grownCap w (cs.length + 1) cap (ρr.t 3) - (cs.length + 1))) (ρr.t 3)) (some b)
          exact ⟨this.os, this.tape, this.output, this.size, this.block⟩
        · intro b hb; cases hb; exact .inr (Nat.le_refl _)
      · have hklt : k < cs.length := by omega
        have hcall := Any2.slices_Insert_int_grow Ls b 0 cs.length cap k vb 0 1 vc cs [z] w hklt (by omega) hnc (by omega) hbig rfl rfl hcell hvcell h1 h1z'
        refine ⟨_, _, hcall, ?_⟩
        clear hcall
        obtain ⟨G, hG⟩ : ∃ G, G = grownCap w (cs.length + 1) cap (ρr.t 3) := ⟨_, rfl⟩
        rw [← hG] at hge hle ⊢
        obtain ⟨R, hR⟩ : ∃ R : Array Value, R = (cs.take k).toArray ++ Builtin.zeroCells (Value.int .i64 0).cells (cs.length + 1 - k) ++ Builtin.zeroCells (Value.int .i64 0).cells (G - (cs.length + 1)) := ⟨_, rfl⟩
        have hRs : R.size = G := by rw [hR]; simp [Builtin.zeroCells, Value.cells]; omega
        have hRk : ∀ j, j < k → R[j]? = cs[j]? := fun j hj => by
          rw [hR, Array.append_assoc, Array.getElem?_append_left (by simp; omega)]
          simp [hj]
        rw [← hR]
        have hA : (w.alloc (.cells R (ρr.t 3))).drew.heap[w.heap.size]? = some (.cells R (ρr.t 3) (0, 0)) := heap_alloc_new w _
        obtain ⟨g1, g2, g3⟩ := setCells_grown w.heap.size [z] k (w.alloc (.cells R (ρr.t 3))).drew
        obtain ⟨q1, q2, q3⟩ := setCells_grown w.heap.size (cs.drop k) (k + 1) ((w.alloc (.cells R (ρr.t 3))).drew.setCells w.heap.size k [z]).drew
        have e1 := setCells_heap w.heap.size [z] k (w.alloc (.cells R (ρr.t 3))).drew _ _ _ hA
        have e2 := setCells_heap w.heap.size (cs.drop k) (k + 1) ((w.alloc (.cells R (ρr.t 3))).drew.setCells w.heap.size k [z]).drew _ _ _ e1
        refine fin _ _ ?_ ?_ ?_ ?_
        · rw [q2]
          have : ((w.alloc (.cells R (ρr.t 3))).drew.setCells w.heap.size k [z]).drew.drawn = ((w.alloc (.cells R (ρr.t 3))).drew.setCells w.heap.size k [z]).drawn + 1 := rfl
          rw [this, g2]
          have : (w.alloc (.cells R (ρr.t 3))).drew.drawn = w.drawn + 1 := rfl
          omega
        · refine ⟨by rw [hlen]; omega, .inr ⟨_, _, _, rfl, Nat.zero_le _, e2, hge, hle, by rw [putL_size, putL_size, hRs]; omega, ?_⟩⟩
          apply List.ext_getElem?
          intro j
          rw [List.getElem?_take, ins_list hk]
          by_cases hj : j < cs.length + 1
          · rw [if_pos (by omega), Array.getElem?_toList, putL_get _ _ _ (by rw [putL_size]; simp; omega), putL_get _ _ _ (by simp; omega)]
            by_cases h2 : j < k
            · rw [if_neg (by omega), if_neg (by omega), if_pos h2, hRk j h2]
            · by_cases h3 : j = k
              · subst h3
                rw [if_neg (by omega), if_pos (by simp), if_neg h2, if_pos rfl]; simp
              · rw [if_pos (by simp; omega), if_neg h2, if_neg h3, List.getElem?_drop]
                congr 1; omega
          · rw [if_neg (by omega), if_neg (by omega), if_neg (by omega), List.getElem?_eq_none (by omega)]
        · have ga := World.grownBy_alloc w (.cells R (ρr.t 3)) none
          have hsz : (w.alloc (.cells R (ρr.t 3))).drew.heap.size = w.heap.size + 1 := Array.size_push _
          refine ⟨q1.os.trans (g1.os.trans ga.os), q1.tape.trans (g1.tape.trans ga.tape), q1.output.trans (g1.output.trans ga.output), ?_, fun k2 hk2 hne2 => ?_⟩
          · have h1 : (((w.alloc (.cells R (ρr.t 3))).drew.setCells w.heap.size k [z]).drew).heap.size = w.heap.size + 1 := by rw [← hsz, ← g3]; rfl
            rw [q3, h1]; omega
          · have h1 : (((w.alloc (.cells R (ρr.t 3))).drew.setCells w.heap.size k [z]).drew).heap.size = w.heap.size + 1 := by rw [← hsz, ← g3]; rfl
            rw [q1.block k2 (by rw [h1]; omega) (by simp; omega)]
            have := g1.block k2 (by rw [hsz]; omega) (by simp; omega)
            exact this.trans (ga.block k2 hk2 (by simp))
        · intro b hb; cases hb; exact .inr (Nat.le_refl _)
end
end Go.E
