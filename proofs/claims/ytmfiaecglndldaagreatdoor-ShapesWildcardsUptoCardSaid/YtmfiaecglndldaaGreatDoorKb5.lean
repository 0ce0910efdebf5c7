/- Texts of a claim, merged. -/
import Derived.Test.YtmfiaecglndldaaGreatDoorKb4
import Derived.Maps.RangeRun
import Derived.KernelRfl
set_option linter.unusedVariables false
set_option linter.unusedSimpArgs false
section
namespace Go.L
theorem u8_eq_of {a b : UInt8} (h1 : ¬ a < b) (h2 : ¬ b < a) : a = b := UInt8.toNat.inj (by rw [UInt8.lt_iff_toNat_lt] at h1 h2; omega)
theorem cmp_swap : ∀ l m : List UInt8, Lib.compareBytes l m = - Lib.compareBytes m l
  | [], [] => rfl
  | [], _ :: _ => rfl
  | _ :: _, [] => rfl
  | a :: l, b :: m => by
    have ih := cmp_swap l m
    unfold Lib.compareBytes
    by_cases h1 : a < b
    · have h2 : ¬ b < a := fun h => by have := UInt8.lt_iff_toNat_lt.1 h; have := UInt8.lt_iff_toNat_lt.1 h1; omega
      rw [if_pos h1, if_neg h2, if_pos h1]
    · by_cases h2 : b < a
      · rw [if_neg h1, if_pos h2, if_pos h2]; rfl
      · rw [if_neg h1, if_neg h2, if_neg h2, if_neg h1, ih]
theorem cmp_zero : ∀ l m : List UInt8, Lib.compareBytes l m = 0 → l = m
  | [], [], _ => rfl
  | [], _ :: _, h => by cases h
  | _ :: _, [], h => by cases h
  | a :: l, b :: m, h => by
    unfold Lib.compareBytes at h
    split at h
    · cases h
    · rename_i h1
      split at h
      · cases h
      · rename_i h2
        have e : a = b := u8_eq_of h1 h2
        rw [e, cmp_zero l m h]
theorem cmp_trans : ∀ l m k : List UInt8, Lib.compareBytes l m < 0 → Lib.compareBytes m k < 0 → Lib.compareBytes l k < 0
  | [], [], _, h, _ => by simp [Lib.compareBytes] at h
  | [], _ :: _, [], _, h => by simp [Lib.compareBytes] at h
  | [], _ :: _, _ :: _, _, _ => by simp [Lib.compareBytes]
  | _ :: _, [], _, h, _ => by simp [Lib.compareBytes] at h
  | _ :: _, _ :: _, [], _, h => by simp [Lib.compareBytes] at h
  | a :: l, b :: m, c :: k, h1, h2 => by
    have ih := cmp_trans l m k
    unfold Lib.compareBytes at h1 h2 ⊢
    by_cases hab : a < b
    · by_cases hbc : b < c
      · rw [if_pos (UInt8.lt_iff_toNat_lt.2 (by have := UInt8.lt_iff_toNat_lt.1 hab; have := UInt8.lt_iff_toNat_lt.1 hbc; omega))]; decide
      · rw [if_neg hbc] at h2
        by_cases hcb : c < b
        · rw [if_pos hcb] at h2; omega
        · have e : b = c := u8_eq_of hbc hcb
          subst e
          rw [if_pos hab]; decide
    · rw [if_neg hab] at h1
      by_cases hba : b < a
      · rw [if_pos hba] at h1; omega
      · rw [if_neg hba] at h1
        have e : a = b := u8_eq_of hab hba
        subst e
        by_cases hac : a < c
        · rw [if_pos hac]; decide
        · rw [if_neg hac] at h2 ⊢
          by_cases hca : c < a
          · rw [if_pos hca] at h2; omega
          · rw [if_neg hca] at h2 ⊢
            exact ih h1 h2
/-- A comparison that parts any two. -/
structure Ord3 {α : Type} (c : α → α → Int) : Prop where
  swap : ∀ x y, c x y = - c y x
  zero : ∀ x y, c x y = 0 → x = y
  trans : ∀ x y z, c x y < 0 → c y z < 0 → c x z < 0
theorem ordB : Ord3 Go.Lib.compareBytes := ⟨cmp_swap, cmp_zero, cmp_trans⟩
def cmpN (a b : Int) : Int := if a < b then -1 else if b < a then 1 else 0
theorem ordI : Ord3 cmpN := by
  constructor
  · intro x y; unfold cmpN; rcases Int.lt_trichotomy x y with h | h | h
    · rw [if_pos h, if_neg (by omega), if_pos h]
    · subst h; rw [if_neg (Int.lt_irrefl _), if_neg (Int.lt_irrefl _)]; rfl
    · rw [if_neg (by omega), if_pos h, if_pos h]; rfl
  · intro x y h; unfold cmpN at h; split at h; cases h; split at h; cases h; omega
  · intro x y z h1 h2; unfold cmpN at *
    split at h1
    · split at h2
      · rw [if_pos (by omega)]; decide
      · split at h2 <;> omega
    · split at h1 <;> omega
def lexC {α β : Type} (c : α → α → Int) (d : β → β → Int) (x y : α × β) : Int := if c x.1 y.1 = 0 then d x.2 y.2 else c x.1 y.1
theorem ordLex {α β : Type} {c : α → α → Int} {d : β → β → Int} (hc : Ord3 c) (hd : Ord3 d) : Ord3 (lexC c d) := by
  constructor
  · intro x y
    unfold lexC
    have := hc.swap x.1 y.1
    by_cases h : c x.1 y.1 = 0
    · rw [if_pos h, if_pos (by omega)]; exact hd.swap _ _
    · rw [if_neg h, if_neg (by omega)]; exact this
  · intro x y h
    unfold lexC at h
    split at h
    · rename_i h1
      exact Prod.ext (hc.zero _ _ h1) (hd.zero _ _ h)
    · rename_i h1; exact absurd h h1
  · intro x y z h1 h2
    unfold lexC at *
    by_cases e1 : c x.1 y.1 = 0
    · rw [if_pos e1] at h1
      have := hc.zero _ _ e1
      rw [this]
      by_cases e2 : c y.1 z.1 = 0
      · rw [if_pos e2] at h2 ⊢; exact hd.trans _ _ _ h1 h2
      · rw [if_neg e2] at h2 ⊢; exact h2
    · rw [if_neg e1] at h1
      by_cases e2 : c y.1 z.1 = 0
      · have := hc.zero _ _ e2
        rw [← this, if_neg e1]; exact h1
      · rw [if_neg e2] at h2
        have := hc.trans _ _ _ h1 h2
        rw [if_neg (by omega)]; exact this
theorem Ord3.swo {α : Type} {c : α → α → Int} (h : Ord3 c) : Go.Sort.SWO (Go.Proofs.ltOf c) := by
  have hs := fun x => h.swap x x
  constructor
  · intro x; have := hs x; simp only [Go.Proofs.ltOf, decide_eq_false_iff_not]; omega
  · intro x y z h1 h2
    simp only [Go.Proofs.ltOf, decide_eq_true_eq] at *
    exact h.trans _ _ _ h1 h2
  · intro x y z h1 h2
    simp only [Go.Proofs.ltOf, decide_eq_false_iff_not] at *
    intro h3
    have s1 := h.swap x y
    have s2 := h.swap y z
    rcases Int.lt_trichotomy (c y x) 0 with h4 | h4 | h4
    · have := h.trans _ _ _ h4 h3
      omega
    · rw [h.zero _ _ h4] at h2; omega
    · omega
theorem Ord3.parts {α : Type} {c : α → α → Int} (h : Ord3 c) (x y : α) (h1 : Go.Proofs.ltOf c x y = false) (h2 : Go.Proofs.ltOf c y x = false) : x = y := by
  simp only [Go.Proofs.ltOf, decide_eq_false_iff_not] at h1 h2
  have := h.swap x y
  exact h.zero _ _ (by omega)
abbrev Lf : Type := List UInt8 × Int × Int × List UInt8
def lfCmp : Lf → Lf → Int := lexC Go.Lib.compareBytes (lexC cmpN (lexC cmpN Go.Lib.compareBytes))
theorem ordLf : Ord3 lfCmp := ordLex ordB (ordLex ordI (ordLex ordI ordB))
/-- Leaves in order. -/
def srtL (l : List Lf) : List Lf := l.mergeSort fun x y => !(Go.Proofs.ltOf lfCmp) y x
theorem srtL_length (l : List Lf) : (srtL l).length = l.length := List.length_mergeSort _
end Go.L
namespace Go.Proofs.YtmfiaecglndldaaGreatDoor
open Go Go.L Go.E
theorem cmpc_eq (a b : Int) : cmp_Compare_int a b = some (cmpN a b) := by
  unfold cmp_Compare_int cmp_isNaN_int cmpN
  simp only [Option.bind_some, decide_true, Bool.not_true, Bool.false_eq_true, if_false]
  split
  · rfl
  · split <;> rfl
theorem cmps_eq (a b : List UInt8) : strings_Compare a b = some (Lib.compareBytes a b) := rfl
theorem or4_eq (a b c d : Int) : cmp_Or_int [a, b, c, d] = some (if a = 0 then (if b = 0 then (if c = 0 then d else c) else b) else a) := by
  unfold cmp_Or_int cmp_Or_int_l2
  have step : ∀ (i : Nat) (x : Int), [a, b, c, d][i]? = some x → x = 0 → cmp_Or_int_bl2 [a, b, c, d] (i : Int) = some (.inl ((i + 1 : Nat) : Int)) := fun i x hx h0 => by
    have hi : i < 4 := (List.getElem?_eq_some_iff.1 hx).1
    unfold cmp_Or_int_bl2
    rw [if_pos (by simp; omega), chk_pos (by simp; omega), if_pos (by rw [Int.toNat_natCast, List.getD_eq_getElem?_getD, hx]; exact h0), chk_pos (by unfold I64; omega)]
    rfl
  have stop : ∀ (i : Nat) (x : Int), [a, b, c, d][i]? = some x → x ≠ 0 → Go.L.run (cmp_Or_int_bl2 [a, b, c, d]) (i : Int) = some x := fun i x hx h0 => by
    have hi : i < 4 := (List.getElem?_eq_some_iff.1 hx).1
    refine run_inr ?_
    unfold cmp_Or_int_bl2
    have hg : [a, b, c, d].getD (i : Int).toNat default = x := by rw [Int.toNat_natCast, List.getD_eq_getElem?_getD, hx]; rfl
    rw [if_pos (by simp; omega), chk_pos (by simp; omega), hg, if_neg h0]
  have last : Go.L.run (cmp_Or_int_bl2 [a, b, c, d]) ((4 : Nat) : Int) = some 0 := by
    refine run_inr ?_
    unfold cmp_Or_int_bl2
    rw [if_neg (by simp)]
    rfl
  show Go.L.run _ ((0 : Nat) : Int) = _
  by_cases ha : a = 0
  · rw [if_pos ha, run_inl (step 0 a rfl ha)]
    by_cases hb : b = 0
    · rw [if_pos hb, run_inl (step 1 b rfl hb)]
      by_cases hc : c = 0
      · rw [if_pos hc, run_inl (step 2 c rfl hc)]
        by_cases hd : d = 0
        · rw [run_inl (step 3 d rfl hd)]; rw [hd] at last ⊢; exact last
        · exact stop 3 d rfl hd
      · rw [if_neg hc]; exact stop 2 c rfl hc
    · rw [if_neg hb]; exact stop 1 b rfl hb
  · rw [if_neg ha]; exact stop 0 a rfl ha
theorem compare_eq (x y : Lf) : shapes_leaf_compare x y = some (lfCmp x y) := by
  unfold shapes_leaf_compare lfCmp lexC
  simp only [cmps_eq, cmpc_eq, or4_eq, Option.bind_some]
end Go.Proofs.YtmfiaecglndldaaGreatDoor
end
section
namespace Go.E
open Go Go.RowKit
theorem mE_bornL {κ : Type} {enc : κ → Value} : ∀ (l : List κ) (vs : List Value) (i : Nat), l.length = vs.length → (mE enc i l vs).map (·.born) = List.range' i l.length
  | [], [], _, _ => rfl
  | a :: l, u :: vs, i, h => by
    simp only [mE, List.map_cons, List.length_cons, List.range'_succ]
    rw [mE_bornL l vs (i + 1) (by simpa using h)]
theorem mE_mem {κ : Type} {enc : κ → Value} {l : List κ} {vs : List Value} (h : l.length = vs.length) {x : MapEntry} (hx : x ∈ mE enc 0 l vs) : ∃ a, l[x.born]? = some a ∧ x = ⟨enc a, vs.getD x.born default, x.born⟩ := by
  obtain ⟨j, hj⟩ := List.getElem?_of_mem hx
  have hjl : j < l.length := by have := (List.getElem?_eq_some_iff.1 hj).1; rwa [mE_length l vs 0 h] at this
  have := mE_get (enc := enc) l vs 0 j l[j] h (List.getElem?_eq_getElem hjl)
  rw [hj, Nat.zero_add] at this
  obtain rfl := Option.some.inj this
  exact ⟨l[j], List.getElem?_eq_getElem hjl, rfl⟩
section
variable {P : Program} {n : Sz} {ops : Array Oper} {Q : Exit → Act → World → Prop} {L : Env} {w w0 : World} {O : List Res} {rest : List Oper} {d : Nat} {ty t kt et : TypeId} {pos : String} {af : Array Edge} {x : Operand} {κ : Type} {enc : κ → Value} {keys : List κ} {vs : List Value} {m N : Nat}
theorem S_rangeM [Dr] (hx : ev L x = some (.map (some m))) (ht : P.underlying t = some (.map kt et)) (hm : w.heap[m]? = some (.map (mE enc 0 keys vs).toArray N)) (hn : Nat.blt d n.n = true) (hL : Lcl w0 O w)
    (h : ∀ w' b, Lcl w0 (.obj b (.mapIter (some m) N ([] : List Nat).toArray N) :: O) w' → Le (fz w O) (fz w' (.obj b (.mapIter (some m) N ([] : List Nat).toArray N) :: O)) → S P n ops Q rest ((d, .pointer (some ⟨b, 0, none⟩)) :: L) w') : S P n ops Q (⟨some d, .range t x, ty, pos, af, none⟩ :: rest) L w := by
  have hb : ∀ b, (Res.obj w.heap.size (.mapIter (some m) N ([] : List Nat).toArray N)).block = some b → w.heap.size ≤ b := fun b e => by cases e; exact Nat.le_refl _
  refine S_value (v := .pointer (some ⟨w.heap.size, 0, none⟩)) (w' := w.alloc (.mapIter (some m) N ([] : List Nat).toArray N)) rfl rfl hn (fun ρ hρ => ?_) (h _ _ (hL.new (ext_alloc w _) (World.alloc_heap_new w _) hb) (fz_new hL (ext_alloc w _) hb))
  have := run_range_map (P := P) w t kt et m _ N ht hm
  simp [execOp, hρ x _ hx, this]
/-- Some key that has not come yet comes, or all have come. -/
theorem S_nextM [Dr] (i : Nat) {b : Nat} {seen : List Nat} (hx : ev L x = some (.pointer (some ⟨b, 0, none⟩))) (hn : Nat.blt d n.n = true) (hL : Lcl w0 O w) (hi : nthR O i = some (.obj b (.mapIter (some m) N seen.toArray N))) (hm : w.heap[m]? = some (.map (mE enc 0 keys vs).toArray N)) (hk : keys.length = vs.length) (hN : keys.length = N)
    (h1 : ∀ j a, keys[j]? = some a → j ∉ seen → ∀ w', Lcl w0 (setR O i (.obj b (.mapIter (some m) N (seen ++ [j]).toArray N))) w' → Le (fz w O) (fz w' (setR O i (.obj b (.mapIter (some m) N (seen ++ [j]).toArray N)))) → w'.heap[m]? = some (.map (mE enc 0 keys vs).toArray N) → S P n ops Q rest ((d, .tuple #[.bool true, enc a, vs.getD j default]) :: L) w')
    (h2 : (∀ j, j < N → j ∈ seen) → S P n ops Q rest ((d, .tuple #[.bool false]) :: L) w) : S P n ops Q (⟨some d, .next x false, ty, pos, af, none⟩ :: rest) L w := by
  have hb : w.heap[b]? = some (.mapIter (some m) N seen.toArray N) := hL.at hi
  have hold : ∀ x ∈ (mE enc 0 keys vs).toArray.toList, x.born < N := fun x hx => by
    obtain ⟨a, ha, _⟩ := mE_mem hk (by simpa using hx)
    have := (List.getElem?_eq_some_iff.1 ha).1
    omega
  rcases run_next_at (P := P) w ty b m N N seen.toArray _ N hb hm hold (Nat.le_refl _) with ⟨h0, hr⟩ | ⟨e, he, w1, hw1, hr⟩
  · refine S_value (v := .tuple #[.bool false]) (w' := w) rfl rfl hn (fun ρ hρ => by simp [execOp, hρ x _ hx, hr]) (h2 fun j hj => ?_)
    have hjk : j < keys.length := by omega
    have hg := mE_get (enc := enc) keys vs 0 j keys[j] hk (List.getElem?_eq_getElem hjk)
    rw [Nat.zero_add] at hg
    have hemp : leftOf (mE enc 0 keys vs).toArray seen.toArray = #[] := Array.eq_empty_of_size_eq_zero h0
    unfold leftOf at hemp
    rw [Array.filter_eq_empty_iff] at hemp
    have := hemp _ (by simpa using List.mem_of_getElem? hg)
    simpa using this
  · have hmem : e ∈ mE enc 0 keys vs ∧ e.born ∉ seen := by
      unfold leftOf at he
      simpa using he
    obtain ⟨a, ha, hee⟩ := mE_mem hk hmem.1
    have hx1 : Ext w w1 := by
      rcases hw1 with rfl | rfl
      · exact Ext.refl _
      · exact drawn_world
    have hL1 := hL.call hx1
    have hle1 := fz_ext hL hx1
    have hput := hL1.putAt (.mapIter (some m) N (seen ++ [e.born]).toArray N) hi
    have hne : m ≠ b := fun eq => by rw [eq, hb] at hm; cases hm
    have hm1 : w1.heap[m]? = some (.map (mE enc 0 keys vs).toArray N) := by rw [hx1.block m (lt_of_heap hm)]; exact hm
    have hm2 : (w1.putObj b (.mapIter (some m) N (seen ++ [e.born]).toArray N)).heap[m]? = some (.map (mE enc 0 keys vs).toArray N) := by rw [World.putObj_heap_other hne]; exact hm1
    have hval : e.key = enc a ∧ e.val = vs.getD e.born default := by rw [hee]; exact ⟨rfl, rfl⟩
    rw [hval.1, hval.2] at hr
    have hw2 : ChangeMaps.setBlock w1 b (.mapIter (some m) N (seen.toArray.push e.born) N) = w1.putObj b (.mapIter (some m) N (seen ++ [e.born]).toArray N) := by
      rw [List.push_toArray]; rfl
    rw [hw2] at hr
    refine S_value (v := _) (w' := _) rfl rfl hn (fun ρ hρ => ?_) (h1 e.born a ha hmem.2 _ hput.1 (hle1.trans hput.2) hm2)
    simp [execOp, hρ x _ hx, hr]
theorem r_entryM {b : Nat} {seen : List Nat} {j : Nat} {a : κ} (hx : ev L x = some (.pointer (some ⟨b, 0, none⟩))) (hn : Nat.blt d n.n = true) (hb : w.heap[b]? = some (.mapIter (some m) N (seen ++ [j]).toArray N)) (hm : w.heap[m]? = some (.map (mE enc 0 keys vs).toArray N)) (hk : keys.length = vs.length) (ha : keys[j]? = some a)
    (h : S P n ops Q rest ((d, .tuple #[enc a, vs.getD j default]) :: L) w) : S P n ops Q (⟨some d, .entry x, ty, pos, af, none⟩ :: rest) L w := by
  have hg := mE_get (enc := enc) keys vs 0 j a hk ha
  rw [Nat.zero_add] at hg
  have hr := run_entry_at (P := P) w b m N seen.toArray (mE enc 0 keys vs).toArray N ⟨enc a, vs.getD j default, j⟩ (by rw [hb, List.push_toArray]) hm (by simpa using List.mem_of_getElem? hg) (by rw [List.toList_toArray, mE_bornL _ _ _ hk]; exact List.nodup_range')
  refine S_value (v := _) (w' := w) rfl rfl hn (fun ρ hρ => ?_) h
  simp [execOp, hρ x _ hx, hr]
end
end Go.E
end
section
namespace Go.L
theorem sorted_perm_eq {α : Type} {c : α → α → Int} (h : Ord3 c) : ∀ {l m : List α}, l.Perm m → l.Pairwise (fun x y => (!(Go.Proofs.ltOf c) y x) = true) → m.Pairwise (fun x y => (!(Go.Proofs.ltOf c) y x) = true) → l = m
  | [], m, hp, _, _ => hp.nil_eq
  | a :: l, m, hp, hl, hm => by
    cases m with
    | nil => exact absurd hp.symm.nil_eq (by simp)
    | cons b m =>
      obtain ⟨l1, l2⟩ := List.pairwise_cons.1 hl
      obtain ⟨m1, m2⟩ := List.pairwise_cons.1 hm
      have hab : a = b := by
        by_cases e : a = b
        · exact e
        · have ha : a ∈ m := by rcases List.mem_cons.1 (hp.mem_iff.1 (.head _)) with h1 | h1; exact absurd h1 e; exact h1
          have hb : b ∈ l := by rcases List.mem_cons.1 (hp.mem_iff.2 (.head _)) with h1 | h1; exact absurd h1.symm e; exact h1
          exact h.parts a b (by simpa using m1 a ha) (by simpa using l1 b hb)
      subst hab
      rw [sorted_perm_eq h hp.cons_inv l2 m2]
theorem nd_le : ∀ (N : Nat) (l : List Nat), l.Nodup → (∀ j ∈ l, j < N) → l.length ≤ N
  | 0, l, _, h => by
    cases l with
    | nil => exact Nat.le_refl _
    | cons a l => exact absurd (h a (.head _)) (Nat.not_lt_zero a)
  | N + 1, l, hn, h => by
    have h1 := nd_le N (l.erase N) (hn.erase N) (fun j hj => by
      have h2 := (hn.mem_erase_iff).1 hj
      have := h j h2.2
      omega)
    by_cases hm : N ∈ l
    · rw [List.length_erase_of_mem hm] at h1; omega
    · rw [List.erase_of_not_mem hm] at h1; omega
theorem srt_perm {α : Type} {c : α → α → Int} (h : Ord3 c) {l m : List α} (hp : l.Perm m) : (l.mergeSort fun x y => !(Go.Proofs.ltOf c) y x) = m.mergeSort fun x y => !(Go.Proofs.ltOf c) y x := by
  have htr : ∀ a b c' : α, (!(Go.Proofs.ltOf c) b a) = true → (!(Go.Proofs.ltOf c) c' b) = true → (!(Go.Proofs.ltOf c) c' a) = true := by
    intro a b d h1 h2
    simp only [Go.Proofs.ltOf, Bool.not_eq_true', decide_eq_false_iff_not] at *
    intro h3
    have s1 := h.swap a b
    have s2 := h.swap b d
    rcases Int.lt_trichotomy (c a b) 0 with h4 | h4 | h4
    · exact h2 (h.trans d a b h3 h4)
    · rw [h.zero a b h4] at h3; exact h2 h3
    · omega
  have hto : ∀ a b : α, ((!(Go.Proofs.ltOf c) b a) || (!(Go.Proofs.ltOf c) a b)) = true := by
    intro a b
    have s1 := h.swap a b
    simp only [Go.Proofs.ltOf, Bool.or_eq_true, Bool.not_eq_true', decide_eq_false_iff_not]
    omega
  refine sorted_perm_eq h (((List.mergeSort_perm l _).trans hp).trans (List.mergeSort_perm m _).symm) ?_ ?_
  · exact List.pairwise_mergeSort htr hto l
  · exact List.pairwise_mergeSort htr hto m
end Go.L
namespace Go.Proofs.YtmfiaecglndldaaGreatDoor
open Go Go.E Go.RowKit Go.Shelf Go.L Go.Sort
abbrev cwLf (x : Lf) : List Value := [.string ⟨x.1.toArray⟩, .int .i64 x.2.1, .int .i64 x.2.2.1, .string ⟨x.2.2.2.toArray⟩]
abbrev rpLf : Rp Lf := .pair .st (.pair (.int .i64) (.pair (.int .i64) .st))
theorem rel_Lf (G : PH) (x : Lf) (c : List Value) : rpLf.rel G x c ↔ c = cwLf x := by
  constructor
  · rintro ⟨_, _, rfl, rfl, _, _, rfl, rfl, _, _, rfl, rfl, rfl⟩
    rfl
  · rintro rfl
    exact ⟨[_], [_, _, _], rfl, rfl, [_], [_, _], rfl, rfl, [_], [_], rfl, rfl, rfl⟩
theorem lf_elems {G : PH} {l : List Lf} {xs : List Value} (h : Elems rpLf G l xs) : l.flatMap cwLf = xs := by
  induction h with
  | nil => rfl
  | cons h _ ih => rw [List.flatMap_cons, ih, (rel_Lf _ _ _).1 h]
theorem elems_lf (G : PH) : ∀ l : List Lf, Elems rpLf G l (l.flatMap cwLf)
  | [] => .nil
  | x :: l => by rw [List.flatMap_cons]; exact .cons ((rel_Lf _ _ _).2 rfl) (elems_lf G l)
theorem flat_get (l : List Lf) : ∀ t, t < l.length * 4 → (l.flatMap cwLf)[t]? = some ((cwLf (l.getD (t / 4) default)).toArray[t % 4]!) := by
  induction l with
  | nil => intro t h; simp at h
  | cons a l ih =>
    intro t h
    rw [List.flatMap_cons]
    by_cases h4 : t < 4
    · rw [List.getElem?_append_left h4, Nat.div_eq_of_lt h4, Nat.mod_eq_of_lt h4]
      have : t = 0 ∨ t = 1 ∨ t = 2 ∨ t = 3 := by omega
      rcases this with rfl | rfl | rfl | rfl <;> rfl
    · rw [List.getElem?_append_right (by simpa using h4)]
      have := ih (t - 4) (by simp only [List.length_cons] at h; omega)
      rw [show (cwLf a).length = 4 from rfl, this]
      obtain ⟨s, rfl⟩ : ∃ s, t = s + 4 := ⟨t - 4, by omega⟩
      rw [Nat.add_sub_cancel, Nat.add_div_right _ (by decide), Nat.add_mod_right]
      rfl
theorem flat_list (l : List Lf) : (flatK cwLf 4 l.toArray).toList = l.flatMap cwLf := by
  have hlen : (l.flatMap cwLf).length = l.length * 4 := by
    induction l with
    | nil => rfl
    | cons a l ih => rw [List.flatMap_cons, List.length_append, ih]; show 4 + l.length * 4 = (l.length + 1) * 4; omega
  apply List.ext_getElem?
  intro t
  by_cases h : t < l.length * 4
  · rw [flat_get l t h]
    have hs : t < (flatK cwLf 4 l.toArray).size := by simpa using h
    have h2 := get_flatK cwLf 4 l.toArray t (by simpa using h)
    rw [getElem!_pos _ t hs] at h2
    rw [Array.getElem?_toList, Array.getElem?_eq_getElem hs, h2]
    have hd : t / 4 < l.length := by omega
    have e1 : l.toArray[t / 4]! = l.getD (t / 4) default := by simp [hd]
    rw [e1]
    simp
  · rw [List.getElem?_eq_none (by simpa using h), List.getElem?_eq_none (by omega)]
/-- slices.SortFunc of leaves by shapes.leaf.compare. -/
theorem S_sortL {n : Sz} {ops : Array Oper} {Q : Exit → Act → World → Prop} {L : Env} {w w0 : World} {O : List Res} {rest : List Oper} {d : Nat} {ty : TypeId} {pos : String} {af : Array Edge} {v : Value} {H : PH} {i : Nat} {at_ : Array TypeId} {args : List Operand} {xs : List Value} {l : List Lf}
    (ha : evl L args = some [v, .func (.func 72) #[] #[]]) (hn : Nat.blt d n.n = true) (_hH : Le H (hp w0)) (hL : Lcl w0 O w) (hi : nthR O i = some (.row v 84 4 l.length xs)) (he : Elems rpLf (gz H w0 w O) l xs) (hlen : l.length < 4611686018427387904)
    (h : ∀ w' xs', Lcl w0 (setR O i (.row v 84 4 (srtL l).length xs')) w' → Le (fz w O) (fz w' (setR O i (.row v 84 4 (srtL l).length xs'))) → Elems rpLf (gz H w0 w' (setR O i (.row v 84 4 (srtL l).length xs'))) (srtL l) xs' → S Tryz.prog n ops Q rest ((d, .tuple #[]) :: L) w') :
    S Tryz.prog n ops Q (⟨some d, .call ⟨.value (.func 131), args.toArray, at_⟩, ty, pos, af, none⟩ :: rest) L w := by
  have hxs := lf_elems he
  have hll : (srtL l).length = l.length := srtL_length l
  have hfl : ∀ l : List Lf, (l.flatMap cwLf).length = l.length * 4 := fun l => by
    induction l with
    | nil => rfl
    | cons a l ih => rw [List.flatMap_cons, List.length_append, ih]; show 4 + l.length * 4 = (l.length + 1) * 4; omega
  refine S_putRow (l' := srtL l) (enc := (id : Value → Value)) (dd := flatK cwLf 4 (srtL l).toArray) (ys := (srtL l).flatMap cwLf) ⟨Tryz.f131, _, Tryz.func131, rfl, rfl⟩ ha hn hL hi (by rw [List.map_id]; exact flat_list _) hll (by rw [← hxs, hfl, hfl, hll]) (fun h0 => ?_) (fun hv => ?_) (fun g cap hv hcap => ?_) (fun w' h1 h2 => h w' _ h1 h2 (elems_lf _ _))
  · have : l = [] := List.eq_nil_of_length_eq_zero h0
    subst this
    rw [← hxs, show srtL [] = [] from List.mergeSort_nil]
  · subst hv
    exact AnyF.slices_SortFunc_none Tryz.laySK none 0 _ w
  · have hown : w.ownsRow 0 84 4 v l.length xs := hL.at hi
    rw [hv] at hown
    have hhk : HoldsK cwLf 4 w g 0 l.toArray ∧ g < w.heap.size := row_holds (enc := (id : Value → Value)) (d := flatK cwLf 4 l.toArray) hown (by rw [List.map_id, flat_list]; exact hxs)
    subst hv
    refine AnyQ.slices_SortFunc_total Tryz.laySK 4 (fun w => by kernel_rfl) (fun w => by kernel_rfl) cwLf (fun _ => rfl) (fun x v hv => ?_) lfCmp ordLf.swo 72 #[] g 0 cap l.toArray w (enters_of Tryz.func72 (by kernel_rfl) rfl) ?_ hhk.1 hhk.2 (by simpa using hlen) ordLf.parts
    · simp only [List.mem_cons, List.mem_nil_iff, or_false] at hv
      rcases hv with rfl | rfl | rfl | rfl <;> rfl
    · intro m os dk hs x y
      have hk := @shapes_leaf_compare_ok ⟨true⟩ (sortWorldK cwLf 4 w g 0 m dk os) (hp _) (Le.refl _) x y _ (compare_eq x y)
      refine hk.2.mono fun en w' ⟨u, he, hx, hu⟩ => ?_
      subst he; subst hu
      obtain ⟨q, os', hw⟩ := @ext_grow ⟨true⟩ _ _ rfl hx
      exact ⟨rfl, q, os', hw⟩
/-- The keys of a map in order. -/
noncomputable def sortedK (l : List (Lf × List Int)) : Option (List Lf) := Go.L.chk (Go.E.Cap 48 l.length) (some (srtL (l.map Prod.fst)))
set_option maxRecDepth 10000 in
theorem sortedK_ok (w : World) (H : PH) (hH : Le H (hp w)) {v0 : Value} {a0 : List (Lf × List Int)} (h0 : VMap encLf (.vec (.int .i64)) H v0 a0) {r : List Lf} (h : sortedK a0 = some r) :
    Ok Tryz.prog 97 [v0, .func (.func 72) #[] #[]] w (fun v w' => Ext w w' ∧ ∃ u0, v = u0 ∧ OwnH 84 rpLf H w w' u0 r) := by
  obtain ⟨hcap0, h⟩ := Go.L.chk_some h
  have hcap : ∀ j, j ≤ a0.length → Go.E.Cap 48 j := fun j hj => ⟨Nat.le_trans (Nat.mul_le_mul_right _ hj) hcap0.1, Nat.le_trans hj hcap0.2⟩
  clear hcap0
  obtain rfl := Option.some.inj h
  obtain ⟨m, vs, rfl, hm, hl, _⟩ := h0
  have hkl : (a0.map Prod.fst).length = vs.length := by rw [List.length_map]; exact hl
  have hkN : (a0.map Prod.fst).length = a0.length := List.length_map _
  generalize hK : a0.map Prod.fst = K at *
  generalize hNN : a0.length = N at *
  have hNlt : N < 4611686018427387904 := by have := hcap N (Nat.le_refl _); unfold Go.E.Cap at this; omega
  refine Ok_enter (n := 21) [(0, .map (some m)), (1, .func (.func 72) #[] #[])] Tryz.func97 rfl rfl rfl rfl rfl ?_
  have hL := Lcl.start w
  refine W_pz 1 rfl ?_
  refine W_pz 1 rfl ?_
  obtain ⟨hL1, hle1, he1⟩ := row_nilE rpLf H 84 hL
  refine W_cut (σ := Value × List Value × List Lf) (fun ⟨v, _, _⟩ => [(1, .func (.func 72) #[] #[]), (5, v)]) (fun ⟨v, xs, l⟩ wr => Lcl w [.row v 84 4 l.length xs] wr ∧ Elems rpLf (gz H w wr [.row v 84 4 l.length xs]) l xs ∧ l.Perm K) ?_ ?_
  · refine W_p 1 rfl ?_
    refine S_rangeM (enc := encLf) (keys := K) (vs := vs) (N := N) rfl Tryz.underlying92 (hH _ _ hm) rfl hL1 ?_
    intro w2 b2 hL2 hle2
    refine S_seqnil ?_
    refine W_block ?_
    refine W_loop (σ := List Nat × Value × List Value) (fun ⟨_, v, _⟩ => [(1, .func (.func 72) #[] #[]), (5, v), (8, .pointer (some ⟨b2, 0, none⟩))])
      (fun ⟨seen, v, xs⟩ wr => Lcl w [.obj b2 (.mapIter (some m) N seen.toArray N), .row v 84 4 (seen.map fun j => K.getD j default).length xs] wr ∧ Elems rpLf (gz H w wr [.obj b2 (.mapIter (some m) N seen.toArray N), .row v 84 4 (seen.map fun j => K.getD j default).length xs]) (seen.map fun j => K.getD j default) xs ∧ seen.Nodup ∧ ∀ j ∈ seen, j < N)
      (fun ⟨seen, _, _⟩ => N - seen.length) ([], .slice none 0 0, []) (.cons rfl (.cons rfl (.cons rfl (Sub.nil _)))) ⟨hL2, he1.mono (gz_mono hH hle2), List.nodup_nil, fun j hj => by cases hj⟩ ?_
    rintro ⟨seen, v, xs⟩ wr ⟨hLr, her, hnd, hlt⟩
    have hseen : seen.length ≤ N := by
      exact nd_le N seen hnd hlt
    refine W_seqr ?_
    refine S_nextM (enc := encLf) (keys := K) (vs := vs) (m := m) (N := N) 0 rfl rfl hLr rfl ((hH.trans hLr.arg) _ _ hm) hkl hkN ?_ ?_
    · intro j a ha hj w3 hL3 hle3 hm3
      have hjN : j < N := by have := (List.getElem?_eq_some_iff.1 ha).1; omega
      refine S_pz 1 rfl ?_
      refine W_seq ?_
      refine W_true rfl ?_
      refine W_skip ?_
      refine At_seq ?_
      refine W_block ?_
      refine W_seqr ?_
      refine r_entryM (enc := encLf) rfl rfl (hL3.at (i := 0) rfl) hm3 hkl ha ?_
      refine S_pu 1 rfl ?_
      refine S_alloc zr84 rfl rfl hL3 ?_
      intro w4 b4 hL4 hle4 _
      refine S_storeBN 0 rfl rfl rfl zr84 hL4 rfl rfl (onc rfl (onc rfl (onc rfl (onc rfl on0)))) ?_
      intro w5 hL5 hle5
      refine S_seqnil ?_
      refine W_region ?_
      refine S_pu 1 rfl ?_
      refine S_v (r_loadBN 0 rfl Tryz.underlying84 rfl zr84 hL5 rfl) rfl ?_
      refine S_litE (r := rpLf) (l := [a]) rfl (fun _ => bsl131_1 _ _ _ _ _) rfl (show 1 ≤ 9223372036854775807 by decide) hH hL5 (.c4 ((rel_Lf _ _ _).2 rfl) .nil) ?_
      intro v6 w6 hx6 hL6 hle6 hv6
      have he6 := (((her.mono (gz_mono hH hle3)).mono (gz_mono hH hle4)).mono (gz_mono hH hle5)).mono (gz_mono hH hle6)
      refine S_appE (r := rpLf) (l := seen.map fun j => K.getD j default) (m := [a]) 2 rfl rfl Tryz.underlying131 zr84 rfl (by decide) rfl hH hL6 rfl he6 hv6 (hcap _ ?_) ?_
      · have h1 := nd_le N (seen ++ [j]) (List.nodup_append.2 ⟨hnd, List.pairwise_singleton _ j, fun x hx y hy => by rw [List.mem_singleton] at hy; subst hy; exact fun e => hj (e ▸ hx)⟩) (fun q hq => by rcases List.mem_append.1 hq with h2 | h2; exact hlt q h2; rw [List.mem_singleton] at h2; subst h2; exact hjN)
        simpa using h1
      intro v7 w7 xs7 hL7 hle7 he7
      refine S_pu 1 rfl ?_
      refine S_nil ?_
      refine At_block ?_
      have hmap : (seen ++ [j]).map (fun j => K.getD j default) = (seen.map fun j => K.getD j default) ++ [a] := by
        rw [List.map_append, List.map_singleton]
        have : K.getD j default = a := by rw [List.getD_eq_getElem?_getD, ha]; rfl
        rw [this]
      have hnd2 : (seen ++ [j]).Nodup := List.nodup_append.2 ⟨hnd, List.pairwise_singleton _ j, fun x hx y hy => by rw [List.mem_singleton] at hy; subst hy; exact fun e => hj (e ▸ hx)⟩
      have hL8 := hL7.dropAt (i := 0) rfl
      have he8 := he7.mono (gz_mono hH (fz_dropAt (i := 0) rfl))
      refine At_round (seen ++ [j], v7, xs7) (.cons rfl (.cons rfl (.cons rfl (Sub.nil _)))) ?_ ?_
      · show Lcl w [.obj b2 (.mapIter (some m) N (seen ++ [j]).toArray N), .row v7 84 4 ((seen ++ [j]).map fun j => K.getD j default).length xs7] w7 ∧ Elems rpLf (gz H w w7 [.obj b2 (.mapIter (some m) N (seen ++ [j]).toArray N), .row v7 84 4 ((seen ++ [j]).map fun j => K.getD j default).length xs7]) ((seen ++ [j]).map fun j => K.getD j default) xs7 ∧ _
        rw [hmap]
        refine ⟨hL8, he8, hnd2, fun q hq => ?_⟩
        rcases List.mem_append.1 hq with h2 | h2
        · exact hlt q h2
        · rw [List.mem_singleton] at h2; subst h2; exact hjN
      · show N - (seen ++ [j]).length < N - seen.length
        have h1 := nd_le N (seen ++ [j]) hnd2 (fun q hq => by rcases List.mem_append.1 hq with h2 | h2; exact hlt q h2; rw [List.mem_singleton] at h2; subst h2; exact hjN)
        rw [List.length_append, List.length_singleton] at h1
        rw [List.length_append, List.length_singleton]
        omega
    · intro hall
      refine S_pz 1 rfl ?_
      refine W_seq ?_
      refine W_false rfl ?_
      refine W_exit ?_
      refine At_seq_exit ?_
      refine At_loop_exit ?_
      refine At_exit ?_
      have hp : (seen.map fun j => K.getD j default).Perm K := by
        have h1 : seen.Perm (List.range N) := (List.perm_ext_iff_of_nodup hnd List.nodup_range).2 fun q => ⟨fun hq => List.mem_range.2 (hlt q hq), fun hq => hall q (List.mem_range.1 hq)⟩
        have h2 := h1.map (fun j => K.getD j default)
        have h3 : (List.range N).map (fun j => K.getD j default) = K := by
          apply List.ext_getElem?
          intro q
          rw [List.getElem?_map]
          by_cases hq : q < N
          · rw [List.getElem?_range hq, List.getElem?_eq_getElem (by omega : q < K.length)]
            simp [List.getD_eq_getElem?_getD, List.getElem?_eq_getElem (by omega : q < K.length)]
          · rw [List.getElem?_eq_none (by simpa using hq), List.getElem?_eq_none (by omega)]; rfl
        rwa [h3] at h2
      exact At_cut (v, xs, seen.map fun j => K.getD j default) (.cons rfl (.cons rfl (Sub.nil _))) ⟨hLr.dropAt (i := 0) rfl, her.mono (gz_mono hH (fz_dropAt (i := 0) rfl)), hp⟩
  · rintro ⟨v, xs, l⟩ wr ⟨hLr, her, hp⟩
    have hlN : l.length = N := by rw [hp.length_eq]; omega
    refine W_p 2 rfl ?_
    refine S_sortL (i := 0) rfl rfl hH hLr rfl her (by omega) ?_
    intro w8 xs8 hL8 hle8 he8
    refine S_seqnil ?_
    refine W_pz 2 rfl ?_
    refine W_ret ?_
    refine At_body rfl rfl ?_
    have e : srtL l = srtL K := srt_perm ordLf hp
    rw [e] at hL8 he8
    exact ⟨hL8.ext, _, rfl, hL8.ownH hH (i := 0) rfl he8⟩
end Go.Proofs.YtmfiaecglndldaaGreatDoor
end
section
namespace Go.Proofs.YtmfiaecglndldaaGreatDoor
open Go Go.E Go.RowKit Go.L
/-- What the function value of Paths turns: a variable and its row. -/
def JPa (b : Nat) (s : List (List UInt8)) (R : List Res) (G : PH) : Prop := ∃ (v : Value) (xs : List Value), R = [.box b [v] 30, .row v 9 1 s.length xs] ∧ Elems .st G s xs
noncomputable def pathStep (s : List (List UInt8)) (x : Lf) : Option (List (List UInt8)) := shapes_Paths_1 x s
theorem cb_paths {w0 : World} {H : PH} (hH : Le H (hp w0)) (b : Nat) : Cb Tryz.prog w0 H 52 [.pointer (some ⟨b, 0, none⟩)] (JPa b) pathStep := by
  constructor
  · rintro s R G G' hle ⟨v, xs, rfl, he⟩
    exact ⟨v, xs, rfl, he.mono hle⟩
  · rintro w O R s s' x hL ⟨v, xs, rfl, he⟩ h
    have hp : (HAppend.hAppend ([.box b [v] 30, .row v 9 1 s.length xs] : List Res) O).Perm (HAppend.hAppend O ([.box b [v] 30, .row v 9 1 s.length xs] : List Res)) := List.perm_append_comm
    have hc := shapes_Paths_1_fr hH (O := O) (hL.perm hp) (he.mono (gz_mono hH (by rw [fz_perm hp]; exact Le.refl _))) h
    refine ⟨hc.1, hc.2.mono fun e w' ⟨u, hu, u0, y0, h1, h2, h3, h4⟩ => ⟨u, hu, h1, _, h2.perm List.perm_append_comm, ?_, u0, y0, rfl, ?_⟩⟩
    · rw [fz_perm (O' := HAppend.hAppend O ([.box b [u0] 30, .row u0 9 1 s'.length y0] : List Res)) List.perm_append_comm]
      exact Le.trans (by rw [fz_perm hp]; exact Le.refl _) h3
    · exact h4.mono (gz_mono hH (by rw [fz_perm (O' := HAppend.hAppend O ([.box b [u0] 30, .row u0 9 1 s'.length y0] : List Res)) List.perm_append_comm]; exact Le.refl _))
theorem leaves_paths {w0 w : World} {H : PH} (hH : Le H (hp w0)) {O : List Res} {b : Nat} {v : Value} {xs : List Value} {s : List (List UInt8)} {a0 : Go.L.Pv} {a1 : List (List UInt8)} {va0_2 va0_3 va0_4 va1 : Value}
    (hL : Lcl w0 (HAppend.hAppend ([.box b [v] 30, .row v 9 1 s.length xs] : List Res) O) w) (he : Elems .st (gz H w0 w (HAppend.hAppend ([.box b [v] 30, .row v 9 1 s.length xs] : List Res) O)) s xs)
    (ha0_2 : Vec .byte (gz H w0 w (HAppend.hAppend ([.box b [v] 30, .row v 9 1 s.length xs] : List Res) O)) va0_2 a0.f.2.2.1) (ha0_3 : Vec .st (gz H w0 w (HAppend.hAppend ([.box b [v] 30, .row v 9 1 s.length xs] : List Res) O)) va0_3 a0.f.2.2.2.1) (ha0_4 : Vec .tree (gz H w0 w (HAppend.hAppend ([.box b [v] 30, .row v 9 1 s.length xs] : List Res) O)) va0_4 a0.f.2.2.2.2) (ha1 : Vec .st (gz H w0 w (HAppend.hAppend ([.box b [v] 30, .row v 9 1 s.length xs] : List Res) O)) va1 a1)
    {r : List (List UInt8)} (h : shapes_leaves pathStep a0 a1 s = some r) :
    Ok Tryz.prog 51 [.agg #[.int .i64 a0.f.1, .int .i64 a0.f.2.1, va0_2, va0_3, va0_4], va1, .func (.func 52) #[] #[.pointer (some ⟨b, 0, none⟩)]] w (fun u w' => u = .tuple #[] ∧ ∃ (u0 : Value) (y0 : List Value), Lcl w0 (HAppend.hAppend ([.box b [u0] 30, .row u0 9 1 r.length y0] : List Res) O) w' ∧ Le (fz w (HAppend.hAppend ([.box b [v] 30, .row v 9 1 s.length xs] : List Res) O)) (fz w' (HAppend.hAppend ([.box b [u0] 30, .row u0 9 1 r.length y0] : List Res) O)) ∧ Elems .st (gz H w0 w' (HAppend.hAppend ([.box b [u0] 30, .row u0 9 1 r.length y0] : List Res) O)) r y0) := by
  have hp : (HAppend.hAppend O ([.box b [v] 30, .row v 9 1 s.length xs] : List Res)).Perm (HAppend.hAppend ([.box b [v] 30, .row v 9 1 s.length xs] : List Res) O) := List.perm_append_comm
  have hz : Le (gz H w0 w (HAppend.hAppend ([.box b [v] 30, .row v 9 1 s.length xs] : List Res) O)) (gz H w0 w (HAppend.hAppend O ([.box b [v] 30, .row v 9 1 s.length xs] : List Res))) := gz_mono hH (by rw [fz_perm hp]; exact Le.refl _)
  have hc := shapes_leaves_J hH (cb_paths hH b) (O := O) (hL.perm hp) (ha0_2.mono hz) (ha0_3.mono hz) (ha0_4.mono hz) (ha1.mono hz) (s := s) ⟨v, xs, rfl, he.mono hz⟩ h
  refine ⟨hc.1, hc.2.mono fun e w' ⟨u, hu, h1, R', h2, h3, u0, y0, h4, h5⟩ => ?_⟩
  subst h4
  have hp' : (HAppend.hAppend ([.box b [u0] 30, .row u0 9 1 r.length y0] : List Res) O).Perm (HAppend.hAppend O ([.box b [u0] 30, .row u0 9 1 r.length y0] : List Res)) := List.perm_append_comm
  refine ⟨u, hu, h1, u0, y0, h2.perm hp', ?_, h5.mono (gz_mono hH (by rw [fz_perm hp']; exact Le.refl _))⟩
  rw [fz_perm hp']
  exact Le.trans (by rw [fz_perm hp]; exact Le.refl _) h3
/-- What the function value of Build turns: the map. -/
abbrev buildA (bm bi b : Nat) (i : Int) (l : List (Lf × List Int)) (vs : List Value) : List Res := [.box bm [.map (some b)] 92, .box bi [.int .i64 i] 3, mpR encLf b l vs]
abbrev buildT (l : List (Lf × List Int)) (vs : List Value) : List Res := mT cwI 3 1 l vs
def JBu (bm bi b : Nat) (i : Int) (l : List (Lf × List Int)) (R : List Res) (_ : PH) : Prop := ∃ vs : List Value, l.length = vs.length ∧ R = HAppend.hAppend (buildA bm bi b i l vs) (buildT l vs)
noncomputable def buildStep (i : Int) (l : List (Lf × List Int)) (x : Lf) : Option (List (Lf × List Int)) := Go.L.chk (Go.E.Cap 8 ((mget [] x l).length + 1)) (some (mput x (mget [] x l ++ [i]) l))
set_option maxRecDepth 10000 in
theorem build1_fr {w0 w : World} {H : PH} (hH : Le H (hp w0)) {O : List Res} {bm bi b : Nat} {i : Int} {l : List (Lf × List Int)} {vs : List Value} {x : Lf} (hL : Lcl w0 (HAppend.hAppend (HAppend.hAppend (buildA bm bi b i l vs) O) (buildT l vs)) w) (hn : l.length = vs.length) {r : List (Lf × List Int)} (h : buildStep i l x = some r) :
    Ok Tryz.prog 58 [encLf x, .pointer (some ⟨bm, 0, none⟩), .pointer (some ⟨bi, 0, none⟩)] w (fun u w' => u = .tuple #[] ∧ ∃ vs' : List Value, r.length = vs'.length ∧ Lcl w0 (HAppend.hAppend (HAppend.hAppend (buildA bm bi b i r vs') O) (buildT r vs')) w' ∧ Le (fz w (HAppend.hAppend (HAppend.hAppend (buildA bm bi b i l vs) O) (buildT l vs))) (fz w' (HAppend.hAppend (HAppend.hAppend (buildA bm bi b i r vs') O) (buildT r vs')))) := by
  obtain ⟨hcap, h⟩ := Go.L.chk_some h
  obtain rfl := Option.some.inj h
  refine Ok_enter (n := 12) [(0, encLf x), (1, .pointer (some ⟨bm, 0, none⟩)), (2, .pointer (some ⟨bi, 0, none⟩))] Tryz.func58 rfl rfl rfl rfl rfl ?_
  refine W_seqr ?_
  refine S_box (t := 84) rfl rfl rfl hL ?_
  intro w1 b1 hL1 hle1 _
  refine S_seqnil ?_
  refine W_region ?_
  refine S_v (r_loadB1 1 rfl Tryz.underlying92 rfl hL1 rfl rfl) rfl ?_
  refine S_v (r_loadBN 0 rfl Tryz.underlying84 rfl zr84 hL1 rfl) rfl ?_
  refine S_v (r_loadB1 2 rfl Tryz.underlying3 rfl hL1 rfl rfl) rfl ?_
  refine S_litE (r := .int .i64) (l := [i]) rfl (fun _ => bsl52_1 _ _) rfl (show 1 ≤ 9223372036854775807 by decide) hH hL1 (.c1 rfl .nil) ?_
  intro v2 w2 hx2 hL2 hle2 hv2
  refine S_mapEntry (A := .box b1 [.string ⟨x.1.toArray⟩, .int .i64 x.2.1, .int .i64 x.2.2.1, .string ⟨x.2.2.2.toArray⟩] 84 :: HAppend.hAppend (buildA bm bi b i l vs) O) (l := l) (vs := vs) (k := x) (enc := encLf) 3 rfl rfl Tryz.underlying92 key84 Tryz.zeroValue52 rfl hL2 rfl hn ?_
  intro vs3 w3 hn3 hL3 hle3
  refine S_pu 1 rfl ?_
  have hv3 := hv2.mono (gz_mono hH hle3)
  refine S_appM (A := .box b1 [.string ⟨x.1.toArray⟩, .int .i64 x.2.1, .int .i64 x.2.2.1, .string ⟨x.2.2.2.toArray⟩] 84 :: HAppend.hAppend (buildA bm bi b i (mtouch x l) vs3) O) (l := mtouch x l) (vs := vs3) (k := x) (z := i) (r := .int .i64) (H := H) rel_I rfl rfl rfl Tryz.underlying52 zr3 rfl (by decide) rfl hH hL3 hn3 hv3 (by rw [mget_touch]; exact hcap) ?_
  intro v4 w4 T4 hpd4 hL4 hle4
  rw [mget_touch] at hpd4
  refine S_pu 1 rfl ?_
  refine S_estM (A := .box b1 [.string ⟨x.1.toArray⟩, .int .i64 x.2.1, .int .i64 x.2.2.1, .string ⟨x.2.2.2.toArray⟩] 84 :: HAppend.hAppend (buildA bm bi b i (mtouch x l) vs3) O) (T := T4) (k := x) (l := l) (vs := vs3) 3 hpd4 rfl rfl rfl hL4 rfl ?_
  intro vs5 w5 hn5 hL5 hle5
  refine S_nil ?_
  refine At_got0e rfl ?_
  refine ⟨rfl, vs5, hn5, hL5.dropAt (i := 0) rfl, ((((hle1.trans hle2).trans hle3).trans hle4).trans hle5).trans (fz_dropAt (i := 0) rfl)⟩
theorem build_perm (bm bi b : Nat) (i : Int) (l : List (Lf × List Int)) (vs : List Value) (O : List Res) : (HAppend.hAppend (HAppend.hAppend (buildA bm bi b i l vs) O) (buildT l vs)).Perm (HAppend.hAppend O (HAppend.hAppend (buildA bm bi b i l vs) (buildT l vs))) := by
  rw [← List.append_assoc O]
  exact List.perm_append_comm.append_right _
theorem cb_build {w0 : World} {H : PH} (hH : Le H (hp w0)) (bm bi b : Nat) (i : Int) : Cb Tryz.prog w0 H 58 [.pointer (some ⟨bm, 0, none⟩), .pointer (some ⟨bi, 0, none⟩)] (JBu bm bi b i) (buildStep i) := by
  constructor
  · exact fun _ h => h
  · rintro w O R l l' x hL ⟨vs, hn, rfl⟩ h
    have hc := build1_fr hH (O := O) (hL.perm (build_perm bm bi b i l vs O)) hn h
    refine ⟨hc.1, hc.2.mono fun e w' ⟨u, hu, h1, vs', h2, h3, h4⟩ => ⟨u, hu, h1, _, h3.perm (build_perm bm bi b i l' vs' O).symm, ?_, vs', h2, rfl⟩⟩
    rw [← fz_perm (build_perm bm bi b i l vs O), ← fz_perm (build_perm bm bi b i l' vs' O)]
    exact h4
theorem leaves_build {w0 w : World} {H : PH} (hH : Le H (hp w0)) {O : List Res} {bm bi b : Nat} {i : Int} {l : List (Lf × List Int)} {vs : List Value} {a0 : Go.L.Pv} {a1 : List (List UInt8)} {va0_2 va0_3 va0_4 va1 : Value}
    (hL : Lcl w0 (HAppend.hAppend (HAppend.hAppend (buildA bm bi b i l vs) O) (buildT l vs)) w) (ha0_2 : Vec .byte (gz H w0 w (HAppend.hAppend (HAppend.hAppend (buildA bm bi b i l vs) O) (buildT l vs))) va0_2 a0.f.2.2.1) (ha0_3 : Vec .st (gz H w0 w (HAppend.hAppend (HAppend.hAppend (buildA bm bi b i l vs) O) (buildT l vs))) va0_3 a0.f.2.2.2.1) (ha0_4 : Vec .tree (gz H w0 w (HAppend.hAppend (HAppend.hAppend (buildA bm bi b i l vs) O) (buildT l vs))) va0_4 a0.f.2.2.2.2) (ha1 : Vec .st (gz H w0 w (HAppend.hAppend (HAppend.hAppend (buildA bm bi b i l vs) O) (buildT l vs))) va1 a1)
    (hn : l.length = vs.length) {r : List (Lf × List Int)} (h : shapes_leaves (buildStep i) a0 a1 l = some r) :
    Ok Tryz.prog 51 [.agg #[.int .i64 a0.f.1, .int .i64 a0.f.2.1, va0_2, va0_3, va0_4], va1, .func (.func 58) #[] #[.pointer (some ⟨bm, 0, none⟩), .pointer (some ⟨bi, 0, none⟩)]] w (fun u w' => u = .tuple #[] ∧ ∃ vs' : List Value, r.length = vs'.length ∧ Lcl w0 (HAppend.hAppend (HAppend.hAppend (buildA bm bi b i r vs') O) (buildT r vs')) w' ∧ Le (fz w (HAppend.hAppend (HAppend.hAppend (buildA bm bi b i l vs) O) (buildT l vs))) (fz w' (HAppend.hAppend (HAppend.hAppend (buildA bm bi b i r vs') O) (buildT r vs')))) := by
  have hz : Le (gz H w0 w (HAppend.hAppend (HAppend.hAppend (buildA bm bi b i l vs) O) (buildT l vs))) (gz H w0 w (HAppend.hAppend O (HAppend.hAppend (buildA bm bi b i l vs) (buildT l vs)))) := gz_mono hH (by rw [fz_perm (build_perm bm bi b i l vs O)]; exact Le.refl _)
  have hc := shapes_leaves_J hH (cb_build hH bm bi b i) (O := O) (hL.perm (build_perm bm bi b i l vs O).symm) (ha0_2.mono hz) (ha0_3.mono hz) (ha0_4.mono hz) (ha1.mono hz) (s := l) ⟨vs, hn, rfl⟩ h
  refine ⟨hc.1, hc.2.mono fun e w' ⟨u, hu, h1, R', h2, h3, vs', h4, h5⟩ => ?_⟩
  subst h5
  refine ⟨u, hu, h1, vs', h4, h2.perm (build_perm bm bi b i r vs' O), ?_⟩
  rw [fz_perm (build_perm bm bi b i l vs O), fz_perm (build_perm bm bi b i r vs' O)]
  exact h3
end Go.Proofs.YtmfiaecglndldaaGreatDoor
end
section
namespace Go.Proofs.YtmfiaecglndldaaGreatDoor
open Go Go.E Go.RowKit
set_option maxHeartbeats 1000000
set_option maxRecDepth 10000
open _root_.Go.Proofs.Tryz
noncomputable def slices_Grow_byte_byte_k1 (a1 : Int) : Option ((List UInt8)) :=
 Go.L.chk (Go.L.I64 ((0 : Int) - (0 : Int))) (Go.L.chk (Go.L.I64 (a1 - ((0 : Int) - (0 : Int)))) (if (0 : Int) < (a1 - ((0 : Int) - (0 : Int))) then Go.L.chk (0 < (a1 - ((0 : Int) - (0 : Int))) ∧ (a1 - ((0 : Int) - (0 : Int))) * 1 ≤ 281474976710656) (some (([] : List UInt8))) else some ([])))
noncomputable def slices_Grow_byte_byte (_a0 : List UInt8) (a1 : Int) : Option ((List UInt8)) :=
 if a1 < (0 : Int) then none else (slices_Grow_byte_byte_k1 a1)
theorem slices_Grow_byte_byte_ok (w : World) (H : PH) (hH : Le H (hp w)) {a0 : List UInt8} {a1 : Int}  (_ : Vec .byte H (.slice none 0 0) a0) {r : (List UInt8)} (h : slices_Grow_byte_byte a0 a1 = some r) :
  Ok Tryz.prog 135 [.slice none 0 0, .int .i64 a1] w (fun v w' => Ext w w' ∧ ∃ u0, v = u0 ∧ OwnH 5 .byte H w w' u0 (r)) := by
 refine Ok_enter (n := 27) [(0, .slice none 0 0), (1, .int .i64 a1)] func135 rfl rfl rfl rfl rfl ?_
 have hL := Lcl.start w
 refine W_pz 1 rfl ?_
 refine W_cut (σ := Unit) (fun (_ : Unit) => [(0, .slice none 0 0), (1, .int .i64 a1)]) (fun (_ : Unit) wr => Lcl w [] wr ∧ (slices_Grow_byte_byte_k1 a1) = some r) ?_ ?_
 ·refine W_pz 2 rfl ?_
  refine W_if rfl (fun hc7 => ?_) (fun hc7 => ?_)
  ·replace h := Go.L.ite_p hc7 h
   refine W_region ?_
   cases h
  ·replace h := Go.L.ite_n hc7 h
   refine W_skip ?_
   refine At_cut () (.cons rfl (.cons rfl (Sub.nil _))) ⟨hL, h⟩
 ·rintro _ wr5 ⟨hL5, h⟩
  refine W_seq ?_
  refine W_p 2 rfl ?_
  refine S_v (r_cap rfl underlying35) rfl ?_
  refine S_pu 1 rfl ?_
  refine S_v (r_lenH rfl underlying35) rfl ?_
  obtain ⟨hk11, h⟩ := Go.L.chk_some h
  refine S_v (r_ar64 rfl rfl rfl hk11) rfl ?_
  obtain ⟨hk12, h⟩ := Go.L.chk_some h
  refine S_v (r_ar64 rfl rfl rfl hk12) rfl ?_
  refine S_pz 1 rfl ?_
  refine W_pz 2 rfl ?_
  refine W_if rfl (fun hc13 => ?_) (fun hc13 => ?_)
  ·replace h := Go.L.ite_p hc13 h
   refine W_region ?_
   refine S_pu 2 rfl ?_
   refine S_v (r_cap rfl underlying35) rfl ?_
   refine S_v (r_sliceNil rfl rfl underlying35 zr5) rfl ?_
   refine S_pu 1 rfl ?_
   obtain ⟨hk16, h⟩ := Go.L.chk_some h
   obtain ⟨m15, hm15⟩ := Int.eq_ofNat_of_zero_le (show 0 ≤ (a1 - ((0 : Int) - (0 : Int))) by omega)
   refine S_growZ (k := .i64) (m := m15) rfl (by rw [← hm15]; rfl) underlying35 underlying3 zr5 rfl rfl (by omega) (by omega) (by omega) ?_
   intro g15 cap15 cur15 w15 hx15 hg15 hh15 hc15 hs15
   refine S_pu 1 rfl ?_
   refine S_v (r_lenH rfl underlying35) rfl ?_
   refine S_v (r_cut0 rfl rfl underlying35 zr5) rfl ?_
   obtain ⟨hL15, hle15⟩ := row_new (v := .slice (some ⟨g15, 0, none⟩) 0 cap15) (e := 5) (sz := 1) (m := 0) (xs := []) hL5 hx15 ⟨rfl, .inr ⟨g15, cap15, cur15, rfl, hg15, hh15, Nat.zero_le _, hc15, by rw [hs15, Nat.mul_one], rfl⟩⟩
   refine S_pu 1 rfl ?_
   refine S_nil ?_
   refine At_seq ?_
   refine W_pz 2 rfl ?_
   refine W_ret ?_
   obtain rfl := Option.some.inj h
   refine At_body rfl rfl ?_
   exact ⟨hL15.ext, _, rfl, (hL15.ownH hH (i := 0) rfl .nil)⟩
  ·replace h := Go.L.ite_n hc13 h
   refine W_skip ?_
   refine At_seq ?_
   refine W_pz 2 rfl ?_
   refine W_ret ?_
   obtain rfl := Option.some.inj h
   refine At_body rfl rfl ?_
   exact ⟨hL5.ext, _, rfl, OwnH.nil⟩
noncomputable def slices_Concat_byte_byte_k3 (l57 : List UInt8) : Option ((List UInt8)) :=
 some (l57)
noncomputable def slices_Concat_byte_byte_bl4 (a0 : List (List UInt8)) : (List UInt8) × Int → Option (((List UInt8) × Int) ⊕ ((List UInt8))) := fun ⟨l69, s27_70⟩ =>
 if s27_70 < (a0.length : Int) then Go.L.chk (0 ≤ s27_70 ∧ s27_70 < (a0.length : Int)) (Go.L.chk (Go.E.Cap 1 (l69.length + (a0.getD s27_70.toNat default).length)) (Go.L.chk (Go.L.I64 (s27_70 + (1 : Int))) (some (Sum.inl ((l69 ++ a0.getD s27_70.toNat default), (s27_70 + (1 : Int))))))) else Option.map Sum.inr (slices_Concat_byte_byte_k3 l69)
noncomputable def slices_Concat_byte_byte_l4 (a0 : List (List UInt8)) (s : (List UInt8) × Int) : Option ((List UInt8)) := Go.L.run (slices_Concat_byte_byte_bl4 a0) s
noncomputable def slices_Concat_byte_byte_k1 (a0 : List (List UInt8)) (s3_15 : Int) : Option ((List UInt8)) :=
 Option.bind (slices_Grow_byte_byte ([]) s3_15) (fun x44 => (slices_Concat_byte_byte_l4 a0) (x44, (0 : Int)))
noncomputable def slices_Concat_byte_byte_bl2 (a0 : List (List UInt8)) : Int × Int → Option ((Int × Int) ⊕ ((List UInt8))) := fun ⟨s3_29, s11_30⟩ =>
 if s11_30 < (a0.length : Int) then Go.L.chk (0 ≤ s11_30 ∧ s11_30 < (a0.length : Int)) (Go.L.chk (Go.L.I64 (s3_29 + ((a0.getD s11_30.toNat default).length : Int))) (if (s3_29 + ((a0.getD s11_30.toNat default).length : Int)) < (0 : Int) then none else Go.L.chk (Go.L.I64 (s11_30 + (1 : Int))) (some (Sum.inl ((s3_29 + ((a0.getD s11_30.toNat default).length : Int)), (s11_30 + (1 : Int))))))) else Option.map Sum.inr ((slices_Concat_byte_byte_k1 a0) s3_29)
noncomputable def slices_Concat_byte_byte_l2 (a0 : List (List UInt8)) (s : Int × Int) : Option ((List UInt8)) := Go.L.run (slices_Concat_byte_byte_bl2 a0) s
noncomputable def slices_Concat_byte_byte (a0 : List (List UInt8)) : Option ((List UInt8)) :=
 (slices_Concat_byte_byte_l2 a0) ((0 : Int), (0 : Int))
theorem slices_Concat_byte_byte_ok (w : World) (H : PH) (hH : Le H (hp w)) {a0 : List (List UInt8)} {v0_0 : Value} (h0_0 : Vec (.vec .byte) H v0_0 (a0)) {r : (List UInt8)} (h : slices_Concat_byte_byte a0 = some r) :
  Ok Tryz.prog 108 [v0_0] w (fun v w' => Ext w w' ∧ ∃ u0, v = u0 ∧ OwnH 5 .byte H w w' u0 (r)) := by
 refine Ok_enter (n := 36) [(0, v0_0)] func108 rfl rfl rfl rfl rfl ?_
 have hL := Lcl.start w
 refine W_pz 1 rfl ?_
 refine W_pz 1 rfl ?_
 refine W_cut (σ := Int) (fun s3_15 => [(0, v0_0), (3, .int .i64 s3_15)]) (fun s3_15 wr => Lcl w [] wr ∧ (slices_Concat_byte_byte_k1 a0) s3_15 = some r) ?_ ?_
 ·refine W_p 1 rfl ?_
  refine S_v (r_len rfl underlying178 h0_0) rfl ?_
  refine S_pz 1 rfl ?_
  refine W_block ?_
  obtain ⟨n31, h⟩ := Go.L.run_some h
  refine W_loop (σ := Int × Int × Nat) (fun ⟨s3_29, s11_30, n⟩ => [(0, v0_0), (3, .int .i64 s3_29), (9, v0_0), (10, .int .i64 (a0.length : Int)), (11, .int .i64 s11_30)]) (fun ⟨s3_29, s11_30, n⟩ wr => Lcl w [] wr ∧ Go.L.itr (slices_Concat_byte_byte_bl2 a0) n (s3_29, s11_30) = some r) (fun ⟨s3_29, s11_30, n⟩ => n) ((0 : Int), (0 : Int), n31) (.cons rfl (.cons rfl (.cons rfl (.cons rfl (.cons rfl (Sub.nil _)))))) ⟨hL, h⟩ ?_
  rintro ⟨s3_29, s11_30, nn31⟩ wr31 ⟨hL31, h⟩
  obtain ⟨n31, e31, rfl, h, hm31⟩ := Go.L.itr_some h
  refine W_pz 1 rfl ?_
  refine W_seq ?_
  refine W_if rfl (fun hc33 => ?_) (fun hc33 => ?_)
  ·replace h := Go.L.ite_p hc33 h
   refine W_skip ?_
   refine At_seq ?_
   refine W_seq ?_
   refine W_block ?_
   refine W_seqr ?_
   obtain ⟨hk36, h⟩ := Go.L.chk_some h
   refine S_index rfl rfl underlying178 zr35 h0_0 s11_30.toNat (Int.toNat_of_nonneg hk36.1).symm (idx_lt hk36) rfl ?_
   rintro p35 _ ⟨e35v0, rfl, e35h0⟩ hp35
   refine S_v (r_load1 rfl underlying35 rfl hp35 (hH.trans hL31.arg)) rfl ?_
   refine S_pz 1 rfl ?_
   refine W_p 2 rfl ?_
   refine S_v (r_len rfl underlying35 e35h0) rfl ?_
   obtain ⟨hk37, h⟩ := Go.L.chk_some h
   refine S_v (r_ar64 rfl rfl rfl hk37) rfl ?_
   refine S_pz 1 rfl ?_
   refine W_pz 2 rfl ?_
   refine W_if rfl (fun hc38 => ?_) (fun hc38 => ?_)
   ·replace h := Go.L.ite_p hc38 h
    refine W_region ?_
    cases h
   ·replace h := Go.L.ite_n hc38 h
    refine W_skip ?_
    refine At_block ?_
    refine At_seq ?_
    refine W_region ?_
    obtain ⟨hk41, h⟩ := Go.L.chk_some h
    refine S_v (r_ar64 rfl rfl rfl hk41) rfl ?_
    refine S_pu 1 rfl ?_
    refine S_nil ?_
    have h := Go.L.Nxt.again h hm31
    refine At_round ((s3_29 + ((a0.getD s11_30.toNat default).length : Int)), (s11_30 + (1 : Int)), n31) (.cons rfl (.cons rfl (.cons rfl (.cons rfl (.cons rfl (Sub.nil _)))))) ⟨hL31, h⟩ (Nat.lt_succ_self _)
  ·replace h := Go.L.ite_n hc33 h
   refine W_exit ?_
   refine At_seq_exit ?_
   refine At_loop_exit ?_
   replace h := Go.L.Nxt.out h hm31
   refine At_exit ?_
   refine At_cut s3_29 (.cons rfl (.cons rfl (Sub.nil _))) ⟨hL31, h⟩
 ·rintro s3_15 wr16 ⟨hL16, h⟩
  refine W_p 1 rfl ?_
  obtain ⟨x44, hb44, h⟩ := Go.L.bind_some h
  refine S_callL rfl rfl hL16 (slices_Grow_byte_byte_ok _ _ (gz_le hH hL16) (Vec.nil _ _) hb44) ?_
  rintro u45_0 w45 ⟨_, rfl, hR45_0⟩ hx45 hL45 hle45
  obtain ⟨xs45, hL45, hle45, he45⟩ := hR45_0.take hH hL16 hx45
  refine S_pz 1 rfl ?_
  refine W_cut (σ := (List UInt8) × Value × (List Value)) (fun ⟨l57, vl57, xsl57⟩ => [(6, vl57)]) (fun ⟨l57, vl57, xsl57⟩ wr => InO w [.row (vl57) 5 1 (l57).length (xsl57)] wr fun Oz => Elems .byte (gz H w wr Oz) (l57) (xsl57) ∧ slices_Concat_byte_byte_k3 l57 = some r) ?_ ?_
  ·refine W_p 1 rfl ?_
   refine S_v (r_len rfl underlying178 h0_0) rfl ?_
   refine S_pz 1 rfl ?_
   refine W_block ?_
   obtain ⟨n71, h⟩ := Go.L.run_some h
   refine W_loop (σ := (List UInt8) × Int × Value × (List Value) × Nat) (fun ⟨l69, s27_70, vl69, xsl69, n⟩ => [(6, vl69), (25, v0_0), (26, .int .i64 (a0.length : Int)), (27, .int .i64 s27_70)]) (fun ⟨l69, s27_70, vl69, xsl69, n⟩ wr => InO w [.row (vl69) 5 1 (l69).length (xsl69)] wr fun Oz => Elems .byte (gz H w wr Oz) (l69) (xsl69) ∧ Go.L.itr (slices_Concat_byte_byte_bl4 a0) n (l69, s27_70) = some r) (fun ⟨l69, s27_70, vl69, xsl69, n⟩ => n) (x44, (0 : Int), u45_0, xs45, n71) (.cons rfl (.cons rfl (.cons rfl (.cons rfl (Sub.nil _))))) ⟨hL45, he45, h⟩ ?_
   rintro ⟨l69, s27_70, vl69, xsl69, nn71⟩ wr71 ⟨hL71, hel69, h⟩
   obtain ⟨n71, e71, rfl, h, hm71⟩ := Go.L.itr_some h
   refine W_pz 1 rfl ?_
   refine W_seq ?_
   refine W_if rfl (fun hc73 => ?_) (fun hc73 => ?_)
   ·replace h := Go.L.ite_p hc73 h
    refine W_skip ?_
    refine At_seq ?_
    refine W_seq ?_
    refine W_block ?_
    refine W_seqr ?_
    obtain ⟨hk76, h⟩ := Go.L.chk_some h
    refine S_index rfl rfl underlying178 zr35 h0_0 s27_70.toNat (Int.toNat_of_nonneg hk76.1).symm (idx_lt hk76) rfl ?_
    rintro p75 _ ⟨e75v0, rfl, e75h0⟩ hp75
    refine S_v (r_load1 rfl underlying35 rfl hp75 (hH.trans hL71.arg)) rfl ?_
    refine S_pz 1 rfl ?_
    refine W_region ?_
    refine S_pu 2 rfl ?_
    obtain ⟨hk78, h⟩ := Go.L.chk_some h
    refine S_appE (r := .byte) (l := l69) (m := a0.getD s27_70.toNat default) 0 rfl rfl underlying35 zr5 rfl (by decide) rfl hH hL71 rfl hel69 (e75h0.mono (gz_left hH)) hk78 ?_
    intro v77 w77 xs77 hL77 hle77 he77
    refine S_pu 1 rfl ?_
    refine S_nil ?_
    refine At_block ?_
    refine At_seq ?_
    refine W_region ?_
    obtain ⟨hk79, h⟩ := Go.L.chk_some h
    refine S_v (r_ar64 rfl rfl rfl hk79) rfl ?_
    refine S_pu 1 rfl ?_
    refine S_nil ?_
    have h := Go.L.Nxt.again h hm71
    refine At_round ((l69 ++ a0.getD s27_70.toNat default), (s27_70 + (1 : Int)), v77, xs77, n71) (.cons rfl (.cons rfl (.cons rfl (.cons rfl (Sub.nil _))))) ⟨hL77, he77, h⟩ (Nat.lt_succ_self _)
   ·replace h := Go.L.ite_n hc73 h
    refine W_exit ?_
    refine At_seq_exit ?_
    refine At_loop_exit ?_
    replace h := Go.L.Nxt.out h hm71
    refine At_exit ?_
    refine At_cut (l69, vl69, xsl69) (.cons rfl (Sub.nil _)) ⟨hL71, hel69, h⟩
  ·rintro ⟨l57, vl57, xsl57⟩ wr58 ⟨hL58, hel57, h⟩
   refine W_pz 2 rfl ?_
   refine W_ret ?_
   obtain rfl := Option.some.inj h
   refine At_body rfl rfl ?_
   exact ⟨hL58.ext, _, rfl, (hL58.ownH hH (i := 0) rfl hel57)⟩
noncomputable def wslice_Number_k1 (l16 : List UInt8) : Option ((List UInt8)) :=
 some (l16)
noncomputable def wslice_Number_bl2 (a0 : List Int) : (List UInt8) × Int → Option (((List UInt8) × Int) ⊕ ((List UInt8))) := fun ⟨l30, s13_31⟩ =>
 if s13_31 < (a0.length : Int) then Go.L.chk (0 ≤ s13_31 ∧ s13_31 < (a0.length : Int)) (Option.bind (wire_Number (a0.getD s13_31.toNat default)) (fun x38 => Go.L.chk (Go.E.Cap 1 (l30.length + x38.length)) (Go.L.chk (Go.L.I64 (s13_31 + (1 : Int))) (some (Sum.inl ((l30 ++ x38), (s13_31 + (1 : Int)))))))) else Option.map Sum.inr (wslice_Number_k1 l30)
noncomputable def wslice_Number_l2 (a0 : List Int) (s : (List UInt8) × Int) : Option ((List UInt8)) := Go.L.run (wslice_Number_bl2 a0) s
noncomputable def wslice_Number (a0 : List Int) : Option ((List UInt8)) :=
 Option.bind (wire_Number (a0.length : Int)) (fun x1 => (wslice_Number_l2 a0) (x1, (0 : Int)))
theorem wslice_Number_ok (w : World) (H : PH) (hH : Le H (hp w)) {a0 : List Int} {v0_0 : Value} (h0_0 : Vec (.int .i64) H v0_0 (a0)) {r : (List UInt8)} (h : wslice_Number a0 = some r) :
  Ok Tryz.prog 110 [v0_0, .func (.func 74) #[] #[]] w (fun v w' => Ext w w' ∧ ∃ u0, v = u0 ∧ OwnH 5 .byte H w w' u0 (r)) := by
 refine Ok_enter (n := 24) [(0, v0_0), (1, .func (.func 74) #[] #[])] func110 rfl rfl rfl rfl rfl ?_
 have hL := Lcl.start w
 refine W_pz 1 rfl ?_
 refine W_p 1 rfl ?_
 refine S_v (r_len rfl underlying52 h0_0) rfl ?_
 obtain ⟨x1, hb1, h⟩ := Go.L.bind_some h
 refine S_callL rfl rfl hL (wire_Number_ok _ _ (gz_le hH hL) hb1) ?_
 rintro u2_0 w2 ⟨_, rfl, hR2_0⟩ hx2 hL2 hle2
 obtain ⟨xs2, hL2, hle2, he2⟩ := hR2_0.take hH hL hx2
 refine S_pz 1 rfl ?_
 refine W_cut (σ := (List UInt8) × Value × (List Value)) (fun ⟨l16, vl16, xsl16⟩ => [(5, vl16)]) (fun ⟨l16, vl16, xsl16⟩ wr => InO w [.row (vl16) 5 1 (l16).length (xsl16)] wr fun Oz => Elems .byte (gz H w wr Oz) (l16) (xsl16) ∧ wslice_Number_k1 l16 = some r) ?_ ?_
 ·refine W_p 1 rfl ?_
  refine S_v (r_len rfl underlying52 h0_0) rfl ?_
  refine S_pz 1 rfl ?_
  refine W_block ?_
  obtain ⟨n32, h⟩ := Go.L.run_some h
  refine W_loop (σ := (List UInt8) × Int × Value × (List Value) × Nat) (fun ⟨l30, s13_31, vl30, xsl30, n⟩ => [(1, .func (.func 74) #[] #[]), (5, vl30), (11, v0_0), (12, .int .i64 (a0.length : Int)), (13, .int .i64 s13_31)]) (fun ⟨l30, s13_31, vl30, xsl30, n⟩ wr => InO w [.row (vl30) 5 1 (l30).length (xsl30)] wr fun Oz => Elems .byte (gz H w wr Oz) (l30) (xsl30) ∧ Go.L.itr (wslice_Number_bl2 a0) n (l30, s13_31) = some r) (fun ⟨l30, s13_31, vl30, xsl30, n⟩ => n) (x1, (0 : Int), u2_0, xs2, n32) (.cons rfl (.cons rfl (.cons rfl (.cons rfl (.cons rfl (Sub.nil _)))))) ⟨hL2, he2, h⟩ ?_
  rintro ⟨l30, s13_31, vl30, xsl30, nn32⟩ wr32 ⟨hL32, hel30, h⟩
  obtain ⟨n32, e32, rfl, h, hm32⟩ := Go.L.itr_some h
  refine W_pz 1 rfl ?_
  refine W_seq ?_
  refine W_if rfl (fun hc34 => ?_) (fun hc34 => ?_)
  ·replace h := Go.L.ite_p hc34 h
   refine W_skip ?_
   refine At_seq ?_
   refine W_seq ?_
   refine W_block ?_
   refine W_seqr ?_
   obtain ⟨hk37, h⟩ := Go.L.chk_some h
   refine S_index rfl rfl underlying52 zr3 h0_0 s13_31.toNat (Int.toNat_of_nonneg hk37.1).symm (idx_lt hk37) rfl ?_
   rintro p36 _ rfl hp36
   refine S_v (r_load1 rfl underlying3 rfl hp36 (hH.trans hL32.arg)) rfl ?_
   refine S_pz 1 rfl ?_
   refine W_region ?_
   refine S_pu 3 rfl ?_
   obtain ⟨x38, hb38, h⟩ := Go.L.bind_some h
   refine S_callwL rfl rfl rfl hL32 (wire_Number_ok _ _ (gz_le hH hL32) hb38) ?_
   rintro u39_0 w39 ⟨_, rfl, hR39_0⟩ hx39 hL39 hle39
   have hv39_0 := hR39_0.vecG hH hL32 hx39
   replace hel30 := hel30.mono (gz_mono hH hle39)
   obtain ⟨hk41, h⟩ := Go.L.chk_some h
   refine S_appE (r := .byte) (l := l30) (m := x38) 0 rfl rfl underlying35 zr5 rfl (by decide) rfl hH hL39 rfl hel30 hv39_0 hk41 ?_
   intro v40 w40 xs40 hL40 hle40 he40
   replace hv39_0 := hv39_0.mono (gz_mono hH hle40)
   refine S_pu 1 rfl ?_
   refine S_nil ?_
   refine At_block ?_
   refine At_seq ?_
   refine W_region ?_
   obtain ⟨hk42, h⟩ := Go.L.chk_some h
   refine S_v (r_ar64 rfl rfl rfl hk42) rfl ?_
   refine S_pu 1 rfl ?_
   refine S_nil ?_
   have h := Go.L.Nxt.again h hm32
   refine At_round ((l30 ++ x38), (s13_31 + (1 : Int)), v40, xs40, n32) (.cons rfl (.cons rfl (.cons rfl (.cons rfl (.cons rfl (Sub.nil _)))))) ⟨hL40, he40, h⟩ (Nat.lt_succ_self _)
  ·replace h := Go.L.ite_n hc34 h
   refine W_exit ?_
   refine At_seq_exit ?_
   refine At_loop_exit ?_
   replace h := Go.L.Nxt.out h hm32
   refine At_exit ?_
   refine At_cut (l30, vl30, xsl30) (.cons rfl (Sub.nil _)) ⟨hL32, hel30, h⟩
 ·rintro ⟨l16, vl16, xsl16⟩ wr17 ⟨hL17, hel16, h⟩
  refine W_pz 2 rfl ?_
  refine W_ret ?_
  obtain rfl := Option.some.inj h
  refine At_body rfl rfl ?_
  exact ⟨hL17.ext, _, rfl, (hL17.ownH hH (i := 0) rfl hel16)⟩
end Go.Proofs.YtmfiaecglndldaaGreatDoor
end
section
namespace Go.Proofs.YtmfiaecglndldaaGreatDoor
open Go Go.E Go.RowKit
set_option maxHeartbeats 1000000
set_option maxRecDepth 10000
open _root_.Go.Proofs.Tryz
noncomputable def shapes_form_k1 (l117 : List UInt8) : Option ((List UInt8)) :=
 some (l117)
noncomputable def shapes_form (a0 : ((List UInt8) × Int × Int × (List UInt8)) × (List Int)) : Option ((List UInt8)) :=
 Go.L.chk (a0.1.1.length ≤ 9223372036854775807) (Option.bind (wire_Chunk a0.1.1) (fun x124 => Option.bind (wire_Number a0.1.2.1) (fun x128 => Option.bind (wire_Number a0.1.2.2.1) (fun x132 => Go.L.chk (a0.1.2.2.2.length ≤ 9223372036854775807) (Option.bind (wire_Chunk a0.1.2.2.2) (fun x138 => Option.bind (wslice_Number a0.2) (fun x142 => Option.bind (slices_Concat_byte_byte ([x124, x128, x132, x138, x142])) (fun x147 => shapes_form_k1 x147))))))))
theorem shapes_form_ok (w : World) (H : PH) (hH : Le H (hp w)) {a0 : ((List UInt8) × Int × Int × (List UInt8)) × (List Int)} {v0_0 : Value} (h0_0 : Vec (.int .i64) H v0_0 (a0.2)) {r : (List UInt8)} (h : shapes_form a0 = some r) :
  Ok Tryz.prog 76 [.agg #[.string ⟨(a0.1.1).toArray⟩, .int .i64 a0.1.2.1, .int .i64 a0.1.2.2.1, .string ⟨(a0.1.2.2.2).toArray⟩, v0_0]] w (fun v w' => Ext w w' ∧ ∃ u0, v = u0 ∧ OwnH 5 .byte H w w' u0 (r)) := by
 refine Ok_enter (n := 26) [(0, .agg #[.string ⟨(a0.1.1).toArray⟩, .int .i64 a0.1.2.1, .int .i64 a0.1.2.2.1, .string ⟨(a0.1.2.2.2).toArray⟩, v0_0])] func76 rfl rfl rfl rfl rfl ?_
 have hL := Lcl.start w
 refine W_seqr ?_
 refine S_box (t := 96) rfl rfl rfl hL ?_
 intro w1 b1 hL1 hle1 _
 refine S_pz 1 rfl ?_
 refine W_cut (σ := (List UInt8) × Value × (List Value)) (fun ⟨l117, vl117, xsl117⟩ => [(2, vl117)]) (fun ⟨l117, vl117, xsl117⟩ wr => InO w [.row (vl117) 5 1 (l117).length (xsl117), .box b1 [.string ⟨(a0.1.1).toArray⟩, .int .i64 a0.1.2.1, .int .i64 a0.1.2.2.1, .string ⟨(a0.1.2.2.2).toArray⟩, v0_0] 96] wr fun Oz => Elems .byte (gz H w wr Oz) (l117) (xsl117) ∧ shapes_form_k1 l117 = some r) ?_ ?_
 ·refine W_regd (.q 0 (.q 1 (.q 2 (.q 5 (.q 6 (.q 7 (.q 9 (.q 10 (.q 11 (.q 13 (.q 14 (.q 15 (.q 18 (.q 19 (.h2 3 (.h2 4 (.h2 8 (.h2 12 (.h 16 (.h 17 (.h 20 (.h 21 (.h 22 (.q 23 (.tail 24))))))) 16 (.h 12 (.h 17 (.h 20 (.h 21 (.h 22 (.q 23 (.tail 24)))))))) 16 (.h 8 (.h 12 (.h 17 (.h 20 (.h 21 (.h 22 (.q 23 (.tail 24))))))))) 16 (.h 4 (.h 8 (.h 12 (.h 17 (.h 20 (.h 21 (.h 22 (.q 23 (.tail 24)))))))))) 16 (.h 3 (.h 4 (.h 8 (.h 12 (.h 17 (.h 20 (.h 21 (.h 22 (.q 23 (.tail 24))))))))))))))))))))))))) mixed (by kernel_rfl) (fun w120 hx120 => ?_)
  have hL121 := hL1.call hx120
  refine D_v (r_field rfl underlying96 rfl zr84 (by decide)) rfl rfl ?_
  refine D_v (r_field rfl underlying84 rfl zr9 (by decide)) rfl rfl ?_
  refine D_v (r_loadB1 0 rfl underlying9 rfl hL121 rfl rfl) rfl rfl ?_
  refine D_v (r_field rfl underlying96 rfl zr84 (by decide)) rfl rfl ?_
  refine D_v (r_field rfl underlying84 rfl zr3 (by decide)) rfl rfl ?_
  refine D_v (r_loadB1 0 rfl underlying3 rfl hL121 rfl rfl) rfl rfl ?_
  refine D_v (r_field rfl underlying96 rfl zr84 (by decide)) rfl rfl ?_
  refine D_v (r_field rfl underlying84 rfl zr3 (by decide)) rfl rfl ?_
  refine D_v (r_loadB1 0 rfl underlying3 rfl hL121 rfl rfl) rfl rfl ?_
  refine D_v (r_field rfl underlying96 rfl zr84 (by decide)) rfl rfl ?_
  refine D_v (r_field rfl underlying84 rfl zr9 (by decide)) rfl rfl ?_
  refine D_v (r_loadB1 0 rfl underlying9 rfl hL121 rfl rfl) rfl rfl ?_
  refine D_v (r_field rfl underlying96 rfl zr52 (by decide)) rfl rfl ?_
  refine D_v (r_loadB1 0 rfl underlying52 rfl hL121 rfl rfl) rfl rfl ?_
  refine D_h2 ?_ ?_
  ·obtain ⟨hk123, h⟩ := Go.L.chk_some h
   refine D_s2b (H := H) rfl rfl underlying9 underlying35 underlying5 rfl hL121 hk123 ?_
   intro v122 w122 hx122 hL122 hle122 hv122
   refine D_h2 ?_ ?_
   ·obtain ⟨x124, hb124, h⟩ := Go.L.bind_some h
    refine D_hcall rfl rfl rfl (fun w126 hx126 => wire_Chunk_ok _ _ (gz_le hH (hL122.call hx126)) (hv122.mono (gz_mono hH (fz_ext hL122 hx126))) hb124) ?_
    rintro w126 u125_0 w125 hx126 hx125 ⟨_, rfl, hR125_0⟩
    have hL127 := hL122.call hx126
    have hle127 := fz_ext hL122 hx126
    replace hv122 := hv122.mono (gz_mono hH hle127)
    have hL125 := hL127.call hx125
    have hle125 := fz_ext hL127 hx125
    have hv125_0 := hR125_0.vecG hH hL127 hx125
    replace hv122 := hv122.mono (gz_mono hH hle125)
    refine D_h2 ?_ ?_
    ·obtain ⟨x128, hb128, h⟩ := Go.L.bind_some h
     refine D_hcall rfl rfl rfl (fun w130 hx130 => wire_Number_ok _ _ (gz_le hH (hL125.call hx130)) hb128) ?_
     rintro w130 u129_0 w129 hx130 hx129 ⟨_, rfl, hR129_0⟩
     have hL131 := hL125.call hx130
     have hle131 := fz_ext hL125 hx130
     replace hv122 := hv122.mono (gz_mono hH hle131)
     replace hv125_0 := hv125_0.mono (gz_mono hH hle131)
     have hL129 := hL131.call hx129
     have hle129 := fz_ext hL131 hx129
     have hv129_0 := hR129_0.vecG hH hL131 hx129
     replace hv122 := hv122.mono (gz_mono hH hle129)
     replace hv125_0 := hv125_0.mono (gz_mono hH hle129)
     refine D_h2 ?_ ?_
     ·obtain ⟨x132, hb132, h⟩ := Go.L.bind_some h
      refine D_hcall rfl rfl rfl (fun w134 hx134 => wire_Number_ok _ _ (gz_le hH (hL129.call hx134)) hb132) ?_
      rintro w134 u133_0 w133 hx134 hx133 ⟨_, rfl, hR133_0⟩
      have hL135 := hL129.call hx134
      have hle135 := fz_ext hL129 hx134
      replace hv122 := hv122.mono (gz_mono hH hle135)
      replace hv125_0 := hv125_0.mono (gz_mono hH hle135)
      replace hv129_0 := hv129_0.mono (gz_mono hH hle135)
      have hL133 := hL135.call hx133
      have hle133 := fz_ext hL135 hx133
      have hv133_0 := hR133_0.vecG hH hL135 hx133
      replace hv122 := hv122.mono (gz_mono hH hle133)
      replace hv125_0 := hv125_0.mono (gz_mono hH hle133)
      replace hv129_0 := hv129_0.mono (gz_mono hH hle133)
      obtain ⟨hk137, h⟩ := Go.L.chk_some h
      refine D_s2b (H := H) rfl rfl underlying9 underlying35 underlying5 rfl hL133 hk137 ?_
      intro v136 w136 hx136 hL136 hle136 hv136
      replace hv122 := hv122.mono (gz_mono hH hle136)
      replace hv125_0 := hv125_0.mono (gz_mono hH hle136)
      replace hv129_0 := hv129_0.mono (gz_mono hH hle136)
      replace hv133_0 := hv133_0.mono (gz_mono hH hle136)
      obtain ⟨x138, hb138, h⟩ := Go.L.bind_some h
      refine D_hcall rfl rfl rfl (fun w140 hx140 => wire_Chunk_ok _ _ (gz_le hH (hL136.call hx140)) (hv136.mono (gz_mono hH (fz_ext hL136 hx140))) hb138) ?_
      rintro w140 u139_0 w139 hx140 hx139 ⟨_, rfl, hR139_0⟩
      have hL141 := hL136.call hx140
      have hle141 := fz_ext hL136 hx140
      replace hv122 := hv122.mono (gz_mono hH hle141)
      replace hv125_0 := hv125_0.mono (gz_mono hH hle141)
      replace hv129_0 := hv129_0.mono (gz_mono hH hle141)
      replace hv133_0 := hv133_0.mono (gz_mono hH hle141)
      replace hv136 := hv136.mono (gz_mono hH hle141)
      have hL139 := hL141.call hx139
      have hle139 := fz_ext hL141 hx139
      have hv139_0 := hR139_0.vecG hH hL141 hx139
      replace hv122 := hv122.mono (gz_mono hH hle139)
      replace hv125_0 := hv125_0.mono (gz_mono hH hle139)
      replace hv129_0 := hv129_0.mono (gz_mono hH hle139)
      replace hv133_0 := hv133_0.mono (gz_mono hH hle139)
      replace hv136 := hv136.mono (gz_mono hH hle139)
      obtain ⟨x142, hb142, h⟩ := Go.L.bind_some h
      refine D_hcall rfl rfl rfl (fun w144 hx144 => wslice_Number_ok _ _ (gz_le hH (hL139.call hx144)) (h0_0.mono (gz_left hH)) hb142) ?_
      rintro w144 u143_0 w143 hx144 hx143 ⟨_, rfl, hR143_0⟩
      have hL145 := hL139.call hx144
      have hle145 := fz_ext hL139 hx144
      replace hv122 := hv122.mono (gz_mono hH hle145)
      replace hv125_0 := hv125_0.mono (gz_mono hH hle145)
      replace hv129_0 := hv129_0.mono (gz_mono hH hle145)
      replace hv133_0 := hv133_0.mono (gz_mono hH hle145)
      replace hv136 := hv136.mono (gz_mono hH hle145)
      replace hv139_0 := hv139_0.mono (gz_mono hH hle145)
      have hL143 := hL145.call hx143
      have hle143 := fz_ext hL145 hx143
      have hv143_0 := hR143_0.vecG hH hL145 hx143
      replace hv122 := hv122.mono (gz_mono hH hle143)
      replace hv125_0 := hv125_0.mono (gz_mono hH hle143)
      replace hv129_0 := hv129_0.mono (gz_mono hH hle143)
      replace hv133_0 := hv133_0.mono (gz_mono hH hle143)
      replace hv136 := hv136.mono (gz_mono hH hle143)
      replace hv139_0 := hv139_0.mono (gz_mono hH hle143)
      refine D_litE (r := (.vec .byte)) (l := [x124, x128, x132, x138, x142]) rfl rfl (fun _ => bsl178_5 _ hv125_0.one _ hv129_0.one _ hv133_0.one _ hv139_0.one _ hv143_0.one _) rfl (show 5 ≤ 9223372036854775807 by decide) hH hL143 (.c1 ⟨_, rfl, hv125_0⟩ (.c1 ⟨_, rfl, hv129_0⟩ (.c1 ⟨_, rfl, hv133_0⟩ (.c1 ⟨_, rfl, hv139_0⟩ (.c1 ⟨_, rfl, hv143_0⟩ .nil))))) ?_
      intro v146 w146 hx146 hL146 hle146 hv146
      replace hv122 := hv122.mono (gz_mono hH hle146)
      replace hv125_0 := hv125_0.mono (gz_mono hH hle146)
      replace hv129_0 := hv129_0.mono (gz_mono hH hle146)
      replace hv133_0 := hv133_0.mono (gz_mono hH hle146)
      replace hv136 := hv136.mono (gz_mono hH hle146)
      replace hv139_0 := hv139_0.mono (gz_mono hH hle146)
      replace hv143_0 := hv143_0.mono (gz_mono hH hle146)
      obtain ⟨x147, hb147, h⟩ := Go.L.bind_some h
      refine D_hcall rfl rfl rfl (fun w149 hx149 => slices_Concat_byte_byte_ok _ _ (gz_le hH (hL146.call hx149)) (hv146.mono (gz_mono hH (fz_ext hL146 hx149))) hb147) ?_
      rintro w149 u148_0 w148 hx149 hx148 ⟨_, rfl, hR148_0⟩
      have hL150 := hL146.call hx149
      have hle150 := fz_ext hL146 hx149
      replace hv122 := hv122.mono (gz_mono hH hle150)
      replace hv125_0 := hv125_0.mono (gz_mono hH hle150)
      replace hv129_0 := hv129_0.mono (gz_mono hH hle150)
      replace hv133_0 := hv133_0.mono (gz_mono hH hle150)
      replace hv136 := hv136.mono (gz_mono hH hle150)
      replace hv139_0 := hv139_0.mono (gz_mono hH hle150)
      replace hv143_0 := hv143_0.mono (gz_mono hH hle150)
      replace hv146 := hv146.mono (gz_mono hH hle150)
      have hL148 := hL150.call hx148
      have hle148 := fz_ext hL150 hx148
      obtain ⟨xs148, hL148, hle148, he148⟩ := hR148_0.take hH hL150 hx148
      replace hv122 := hv122.mono (gz_mono hH hle148)
      replace hv125_0 := hv125_0.mono (gz_mono hH hle148)
      replace hv129_0 := hv129_0.mono (gz_mono hH hle148)
      replace hv133_0 := hv133_0.mono (gz_mono hH hle148)
      replace hv136 := hv136.mono (gz_mono hH hle148)
      replace hv139_0 := hv139_0.mono (gz_mono hH hle148)
      replace hv143_0 := hv143_0.mono (gz_mono hH hle148)
      replace hv146 := hv146.mono (gz_mono hH hle148)
      refine D_pu 1 rfl ?_
      refine D_tail (fun w151 hx151 => ?_)
      have hL152 := hL148.call hx151
      have hle152 := fz_ext hL148 hx151
      replace hv122 := hv122.mono (gz_mono hH hle152)
      replace hv125_0 := hv125_0.mono (gz_mono hH hle152)
      replace hv129_0 := hv129_0.mono (gz_mono hH hle152)
      replace hv133_0 := hv133_0.mono (gz_mono hH hle152)
      replace hv136 := hv136.mono (gz_mono hH hle152)
      replace hv139_0 := hv139_0.mono (gz_mono hH hle152)
      replace hv143_0 := hv143_0.mono (gz_mono hH hle152)
      replace hv146 := hv146.mono (gz_mono hH hle152)
      replace he148 := he148.mono (gz_mono hH hle152)
      refine S_nil ?_
      refine At_cut (x147, u148_0, xs148) (.cons rfl (Sub.nil _)) ⟨hL152, he148, h⟩
     ·obtain ⟨x132, hb132, h⟩ := Go.L.bind_some h
      obtain ⟨hk137, h⟩ := Go.L.chk_some h
      obtain ⟨x138, hb138, h⟩ := Go.L.bind_some h
      obtain ⟨x142, hb142, h⟩ := Go.L.bind_some h
      obtain ⟨x147, hb147, h⟩ := Go.L.bind_some h
      refine D_s2b (H := H) rfl rfl underlying9 underlying35 underlying5 rfl hL129 hk137 ?_
      intro v153 w153 hx153 hL153 hle153 hv153
      replace hv122 := hv122.mono (gz_mono hH hle153)
      replace hv125_0 := hv125_0.mono (gz_mono hH hle153)
      replace hv129_0 := hv129_0.mono (gz_mono hH hle153)
      refine D_hcall rfl rfl rfl (fun w155 hx155 => wire_Number_ok _ _ (gz_le hH (hL153.call hx155)) hb132) ?_
      rintro w155 u154_0 w154 hx155 hx154 ⟨_, rfl, hR154_0⟩
      have hL156 := hL153.call hx155
      have hle156 := fz_ext hL153 hx155
      replace hv122 := hv122.mono (gz_mono hH hle156)
      replace hv125_0 := hv125_0.mono (gz_mono hH hle156)
      replace hv129_0 := hv129_0.mono (gz_mono hH hle156)
      replace hv153 := hv153.mono (gz_mono hH hle156)
      have hL154 := hL156.call hx154
      have hle154 := fz_ext hL156 hx154
      have hv154_0 := hR154_0.vecG hH hL156 hx154
      replace hv122 := hv122.mono (gz_mono hH hle154)
      replace hv125_0 := hv125_0.mono (gz_mono hH hle154)
      replace hv129_0 := hv129_0.mono (gz_mono hH hle154)
      replace hv153 := hv153.mono (gz_mono hH hle154)
      refine D_hcall rfl rfl rfl (fun w158 hx158 => wire_Chunk_ok _ _ (gz_le hH (hL154.call hx158)) (hv153.mono (gz_mono hH (fz_ext hL154 hx158))) hb138) ?_
      rintro w158 u157_0 w157 hx158 hx157 ⟨_, rfl, hR157_0⟩
      have hL159 := hL154.call hx158
      have hle159 := fz_ext hL154 hx158
      replace hv122 := hv122.mono (gz_mono hH hle159)
      replace hv125_0 := hv125_0.mono (gz_mono hH hle159)
      replace hv129_0 := hv129_0.mono (gz_mono hH hle159)
      replace hv153 := hv153.mono (gz_mono hH hle159)
      replace hv154_0 := hv154_0.mono (gz_mono hH hle159)
      have hL157 := hL159.call hx157
      have hle157 := fz_ext hL159 hx157
      have hv157_0 := hR157_0.vecG hH hL159 hx157
      replace hv122 := hv122.mono (gz_mono hH hle157)
      replace hv125_0 := hv125_0.mono (gz_mono hH hle157)
      replace hv129_0 := hv129_0.mono (gz_mono hH hle157)
      replace hv153 := hv153.mono (gz_mono hH hle157)
      replace hv154_0 := hv154_0.mono (gz_mono hH hle157)
      refine D_hcall rfl rfl rfl (fun w161 hx161 => wslice_Number_ok _ _ (gz_le hH (hL157.call hx161)) (h0_0.mono (gz_left hH)) hb142) ?_
      rintro w161 u160_0 w160 hx161 hx160 ⟨_, rfl, hR160_0⟩
      have hL162 := hL157.call hx161
      have hle162 := fz_ext hL157 hx161
      replace hv122 := hv122.mono (gz_mono hH hle162)
      replace hv125_0 := hv125_0.mono (gz_mono hH hle162)
      replace hv129_0 := hv129_0.mono (gz_mono hH hle162)
      replace hv153 := hv153.mono (gz_mono hH hle162)
      replace hv154_0 := hv154_0.mono (gz_mono hH hle162)
      replace hv157_0 := hv157_0.mono (gz_mono hH hle162)
      have hL160 := hL162.call hx160
      have hle160 := fz_ext hL162 hx160
      have hv160_0 := hR160_0.vecG hH hL162 hx160
      replace hv122 := hv122.mono (gz_mono hH hle160)
      replace hv125_0 := hv125_0.mono (gz_mono hH hle160)
      replace hv129_0 := hv129_0.mono (gz_mono hH hle160)
      replace hv153 := hv153.mono (gz_mono hH hle160)
      replace hv154_0 := hv154_0.mono (gz_mono hH hle160)
      replace hv157_0 := hv157_0.mono (gz_mono hH hle160)
      refine D_litE (r := (.vec .byte)) (l := [x124, x128, x132, x138, x142]) rfl rfl (fun _ => bsl178_5 _ hv125_0.one _ hv129_0.one _ hv154_0.one _ hv157_0.one _ hv160_0.one _) rfl (show 5 ≤ 9223372036854775807 by decide) hH hL160 (.c1 ⟨_, rfl, hv125_0⟩ (.c1 ⟨_, rfl, hv129_0⟩ (.c1 ⟨_, rfl, hv154_0⟩ (.c1 ⟨_, rfl, hv157_0⟩ (.c1 ⟨_, rfl, hv160_0⟩ .nil))))) ?_
      intro v163 w163 hx163 hL163 hle163 hv163
      replace hv122 := hv122.mono (gz_mono hH hle163)
      replace hv125_0 := hv125_0.mono (gz_mono hH hle163)
      replace hv129_0 := hv129_0.mono (gz_mono hH hle163)
      replace hv153 := hv153.mono (gz_mono hH hle163)
      replace hv154_0 := hv154_0.mono (gz_mono hH hle163)
      replace hv157_0 := hv157_0.mono (gz_mono hH hle163)
      replace hv160_0 := hv160_0.mono (gz_mono hH hle163)
      refine D_hcall rfl rfl rfl (fun w165 hx165 => slices_Concat_byte_byte_ok _ _ (gz_le hH (hL163.call hx165)) (hv163.mono (gz_mono hH (fz_ext hL163 hx165))) hb147) ?_
      rintro w165 u164_0 w164 hx165 hx164 ⟨_, rfl, hR164_0⟩
      have hL166 := hL163.call hx165
      have hle166 := fz_ext hL163 hx165
      replace hv122 := hv122.mono (gz_mono hH hle166)
      replace hv125_0 := hv125_0.mono (gz_mono hH hle166)
      replace hv129_0 := hv129_0.mono (gz_mono hH hle166)
      replace hv153 := hv153.mono (gz_mono hH hle166)
      replace hv154_0 := hv154_0.mono (gz_mono hH hle166)
      replace hv157_0 := hv157_0.mono (gz_mono hH hle166)
      replace hv160_0 := hv160_0.mono (gz_mono hH hle166)
      replace hv163 := hv163.mono (gz_mono hH hle166)
      have hL164 := hL166.call hx164
      have hle164 := fz_ext hL166 hx164
      obtain ⟨xs164, hL164, hle164, he164⟩ := hR164_0.take hH hL166 hx164
      replace hv122 := hv122.mono (gz_mono hH hle164)
      replace hv125_0 := hv125_0.mono (gz_mono hH hle164)
      replace hv129_0 := hv129_0.mono (gz_mono hH hle164)
      replace hv153 := hv153.mono (gz_mono hH hle164)
      replace hv154_0 := hv154_0.mono (gz_mono hH hle164)
      replace hv157_0 := hv157_0.mono (gz_mono hH hle164)
      replace hv160_0 := hv160_0.mono (gz_mono hH hle164)
      replace hv163 := hv163.mono (gz_mono hH hle164)
      refine D_pu 1 rfl ?_
      refine D_tail (fun w167 hx167 => ?_)
      have hL168 := hL164.call hx167
      have hle168 := fz_ext hL164 hx167
      replace hv122 := hv122.mono (gz_mono hH hle168)
      replace hv125_0 := hv125_0.mono (gz_mono hH hle168)
      replace hv129_0 := hv129_0.mono (gz_mono hH hle168)
      replace hv153 := hv153.mono (gz_mono hH hle168)
      replace hv154_0 := hv154_0.mono (gz_mono hH hle168)
      replace hv157_0 := hv157_0.mono (gz_mono hH hle168)
      replace hv160_0 := hv160_0.mono (gz_mono hH hle168)
      replace hv163 := hv163.mono (gz_mono hH hle168)
      replace he164 := he164.mono (gz_mono hH hle168)
      refine S_nil ?_
      refine At_cut (x147, u164_0, xs164) (.cons rfl (Sub.nil _)) ⟨hL168, he164, h⟩
    ·obtain ⟨x128, hb128, h⟩ := Go.L.bind_some h
     obtain ⟨x132, hb132, h⟩ := Go.L.bind_some h
     obtain ⟨hk137, h⟩ := Go.L.chk_some h
     obtain ⟨x138, hb138, h⟩ := Go.L.bind_some h
     obtain ⟨x142, hb142, h⟩ := Go.L.bind_some h
     obtain ⟨x147, hb147, h⟩ := Go.L.bind_some h
     refine D_s2b (H := H) rfl rfl underlying9 underlying35 underlying5 rfl hL125 hk137 ?_
     intro v169 w169 hx169 hL169 hle169 hv169
     replace hv122 := hv122.mono (gz_mono hH hle169)
     replace hv125_0 := hv125_0.mono (gz_mono hH hle169)
     refine D_hcall rfl rfl rfl (fun w171 hx171 => wire_Number_ok _ _ (gz_le hH (hL169.call hx171)) hb128) ?_
     rintro w171 u170_0 w170 hx171 hx170 ⟨_, rfl, hR170_0⟩
     have hL172 := hL169.call hx171
     have hle172 := fz_ext hL169 hx171
     replace hv122 := hv122.mono (gz_mono hH hle172)
     replace hv125_0 := hv125_0.mono (gz_mono hH hle172)
     replace hv169 := hv169.mono (gz_mono hH hle172)
     have hL170 := hL172.call hx170
     have hle170 := fz_ext hL172 hx170
     have hv170_0 := hR170_0.vecG hH hL172 hx170
     replace hv122 := hv122.mono (gz_mono hH hle170)
     replace hv125_0 := hv125_0.mono (gz_mono hH hle170)
     replace hv169 := hv169.mono (gz_mono hH hle170)
     refine D_hcall rfl rfl rfl (fun w174 hx174 => wire_Number_ok _ _ (gz_le hH (hL170.call hx174)) hb132) ?_
     rintro w174 u173_0 w173 hx174 hx173 ⟨_, rfl, hR173_0⟩
     have hL175 := hL170.call hx174
     have hle175 := fz_ext hL170 hx174
     replace hv122 := hv122.mono (gz_mono hH hle175)
     replace hv125_0 := hv125_0.mono (gz_mono hH hle175)
     replace hv169 := hv169.mono (gz_mono hH hle175)
     replace hv170_0 := hv170_0.mono (gz_mono hH hle175)
     have hL173 := hL175.call hx173
     have hle173 := fz_ext hL175 hx173
     have hv173_0 := hR173_0.vecG hH hL175 hx173
     replace hv122 := hv122.mono (gz_mono hH hle173)
     replace hv125_0 := hv125_0.mono (gz_mono hH hle173)
     replace hv169 := hv169.mono (gz_mono hH hle173)
     replace hv170_0 := hv170_0.mono (gz_mono hH hle173)
     refine D_hcall rfl rfl rfl (fun w177 hx177 => wire_Chunk_ok _ _ (gz_le hH (hL173.call hx177)) (hv169.mono (gz_mono hH (fz_ext hL173 hx177))) hb138) ?_
     rintro w177 u176_0 w176 hx177 hx176 ⟨_, rfl, hR176_0⟩
     have hL178 := hL173.call hx177
     have hle178 := fz_ext hL173 hx177
     replace hv122 := hv122.mono (gz_mono hH hle178)
     replace hv125_0 := hv125_0.mono (gz_mono hH hle178)
     replace hv169 := hv169.mono (gz_mono hH hle178)
     replace hv170_0 := hv170_0.mono (gz_mono hH hle178)
     replace hv173_0 := hv173_0.mono (gz_mono hH hle178)
     have hL176 := hL178.call hx176
     have hle176 := fz_ext hL178 hx176
     have hv176_0 := hR176_0.vecG hH hL178 hx176
     replace hv122 := hv122.mono (gz_mono hH hle176)
     replace hv125_0 := hv125_0.mono (gz_mono hH hle176)
     replace hv169 := hv169.mono (gz_mono hH hle176)
     replace hv170_0 := hv170_0.mono (gz_mono hH hle176)
     replace hv173_0 := hv173_0.mono (gz_mono hH hle176)
     refine D_hcall rfl rfl rfl (fun w180 hx180 => wslice_Number_ok _ _ (gz_le hH (hL176.call hx180)) (h0_0.mono (gz_left hH)) hb142) ?_
     rintro w180 u179_0 w179 hx180 hx179 ⟨_, rfl, hR179_0⟩
     have hL181 := hL176.call hx180
     have hle181 := fz_ext hL176 hx180
     replace hv122 := hv122.mono (gz_mono hH hle181)
     replace hv125_0 := hv125_0.mono (gz_mono hH hle181)
     replace hv169 := hv169.mono (gz_mono hH hle181)
     replace hv170_0 := hv170_0.mono (gz_mono hH hle181)
     replace hv173_0 := hv173_0.mono (gz_mono hH hle181)
     replace hv176_0 := hv176_0.mono (gz_mono hH hle181)
     have hL179 := hL181.call hx179
     have hle179 := fz_ext hL181 hx179
     have hv179_0 := hR179_0.vecG hH hL181 hx179
     replace hv122 := hv122.mono (gz_mono hH hle179)
     replace hv125_0 := hv125_0.mono (gz_mono hH hle179)
     replace hv169 := hv169.mono (gz_mono hH hle179)
     replace hv170_0 := hv170_0.mono (gz_mono hH hle179)
     replace hv173_0 := hv173_0.mono (gz_mono hH hle179)
     replace hv176_0 := hv176_0.mono (gz_mono hH hle179)
     refine D_litE (r := (.vec .byte)) (l := [x124, x128, x132, x138, x142]) rfl rfl (fun _ => bsl178_5 _ hv125_0.one _ hv170_0.one _ hv173_0.one _ hv176_0.one _ hv179_0.one _) rfl (show 5 ≤ 9223372036854775807 by decide) hH hL179 (.c1 ⟨_, rfl, hv125_0⟩ (.c1 ⟨_, rfl, hv170_0⟩ (.c1 ⟨_, rfl, hv173_0⟩ (.c1 ⟨_, rfl, hv176_0⟩ (.c1 ⟨_, rfl, hv179_0⟩ .nil))))) ?_
     intro v182 w182 hx182 hL182 hle182 hv182
     replace hv122 := hv122.mono (gz_mono hH hle182)
     replace hv125_0 := hv125_0.mono (gz_mono hH hle182)
     replace hv169 := hv169.mono (gz_mono hH hle182)
     replace hv170_0 := hv170_0.mono (gz_mono hH hle182)
     replace hv173_0 := hv173_0.mono (gz_mono hH hle182)
     replace hv176_0 := hv176_0.mono (gz_mono hH hle182)
     replace hv179_0 := hv179_0.mono (gz_mono hH hle182)
     refine D_hcall rfl rfl rfl (fun w184 hx184 => slices_Concat_byte_byte_ok _ _ (gz_le hH (hL182.call hx184)) (hv182.mono (gz_mono hH (fz_ext hL182 hx184))) hb147) ?_
     rintro w184 u183_0 w183 hx184 hx183 ⟨_, rfl, hR183_0⟩
     have hL185 := hL182.call hx184
     have hle185 := fz_ext hL182 hx184
     replace hv122 := hv122.mono (gz_mono hH hle185)
     replace hv125_0 := hv125_0.mono (gz_mono hH hle185)
     replace hv169 := hv169.mono (gz_mono hH hle185)
     replace hv170_0 := hv170_0.mono (gz_mono hH hle185)
     replace hv173_0 := hv173_0.mono (gz_mono hH hle185)
     replace hv176_0 := hv176_0.mono (gz_mono hH hle185)
     replace hv179_0 := hv179_0.mono (gz_mono hH hle185)
     replace hv182 := hv182.mono (gz_mono hH hle185)
     have hL183 := hL185.call hx183
     have hle183 := fz_ext hL185 hx183
     obtain ⟨xs183, hL183, hle183, he183⟩ := hR183_0.take hH hL185 hx183
     replace hv122 := hv122.mono (gz_mono hH hle183)
     replace hv125_0 := hv125_0.mono (gz_mono hH hle183)
     replace hv169 := hv169.mono (gz_mono hH hle183)
     replace hv170_0 := hv170_0.mono (gz_mono hH hle183)
     replace hv173_0 := hv173_0.mono (gz_mono hH hle183)
     replace hv176_0 := hv176_0.mono (gz_mono hH hle183)
     replace hv179_0 := hv179_0.mono (gz_mono hH hle183)
     replace hv182 := hv182.mono (gz_mono hH hle183)
     refine D_pu 1 rfl ?_
     refine D_tail (fun w186 hx186 => ?_)
     have hL187 := hL183.call hx186
     have hle187 := fz_ext hL183 hx186
     replace hv122 := hv122.mono (gz_mono hH hle187)
     replace hv125_0 := hv125_0.mono (gz_mono hH hle187)
     replace hv169 := hv169.mono (gz_mono hH hle187)
     replace hv170_0 := hv170_0.mono (gz_mono hH hle187)
     replace hv173_0 := hv173_0.mono (gz_mono hH hle187)
     replace hv176_0 := hv176_0.mono (gz_mono hH hle187)
     replace hv179_0 := hv179_0.mono (gz_mono hH hle187)
     replace hv182 := hv182.mono (gz_mono hH hle187)
     replace he183 := he183.mono (gz_mono hH hle187)
     refine S_nil ?_
     refine At_cut (x147, u183_0, xs183) (.cons rfl (Sub.nil _)) ⟨hL187, he183, h⟩
   ·obtain ⟨x124, hb124, h⟩ := Go.L.bind_some h
    obtain ⟨x128, hb128, h⟩ := Go.L.bind_some h
    obtain ⟨x132, hb132, h⟩ := Go.L.bind_some h
    obtain ⟨hk137, h⟩ := Go.L.chk_some h
    obtain ⟨x138, hb138, h⟩ := Go.L.bind_some h
    obtain ⟨x142, hb142, h⟩ := Go.L.bind_some h
    obtain ⟨x147, hb147, h⟩ := Go.L.bind_some h
    refine D_s2b (H := H) rfl rfl underlying9 underlying35 underlying5 rfl hL122 hk137 ?_
    intro v188 w188 hx188 hL188 hle188 hv188
    replace hv122 := hv122.mono (gz_mono hH hle188)
    refine D_hcall rfl rfl rfl (fun w190 hx190 => wire_Chunk_ok _ _ (gz_le hH (hL188.call hx190)) (hv122.mono (gz_mono hH (fz_ext hL188 hx190))) hb124) ?_
    rintro w190 u189_0 w189 hx190 hx189 ⟨_, rfl, hR189_0⟩
    have hL191 := hL188.call hx190
    have hle191 := fz_ext hL188 hx190
    replace hv122 := hv122.mono (gz_mono hH hle191)
    replace hv188 := hv188.mono (gz_mono hH hle191)
    have hL189 := hL191.call hx189
    have hle189 := fz_ext hL191 hx189
    have hv189_0 := hR189_0.vecG hH hL191 hx189
    replace hv122 := hv122.mono (gz_mono hH hle189)
    replace hv188 := hv188.mono (gz_mono hH hle189)
    refine D_hcall rfl rfl rfl (fun w193 hx193 => wire_Number_ok _ _ (gz_le hH (hL189.call hx193)) hb128) ?_
    rintro w193 u192_0 w192 hx193 hx192 ⟨_, rfl, hR192_0⟩
    have hL194 := hL189.call hx193
    have hle194 := fz_ext hL189 hx193
    replace hv122 := hv122.mono (gz_mono hH hle194)
    replace hv188 := hv188.mono (gz_mono hH hle194)
    replace hv189_0 := hv189_0.mono (gz_mono hH hle194)
    have hL192 := hL194.call hx192
    have hle192 := fz_ext hL194 hx192
    have hv192_0 := hR192_0.vecG hH hL194 hx192
    replace hv122 := hv122.mono (gz_mono hH hle192)
    replace hv188 := hv188.mono (gz_mono hH hle192)
    replace hv189_0 := hv189_0.mono (gz_mono hH hle192)
    refine D_hcall rfl rfl rfl (fun w196 hx196 => wire_Number_ok _ _ (gz_le hH (hL192.call hx196)) hb132) ?_
    rintro w196 u195_0 w195 hx196 hx195 ⟨_, rfl, hR195_0⟩
    have hL197 := hL192.call hx196
    have hle197 := fz_ext hL192 hx196
    replace hv122 := hv122.mono (gz_mono hH hle197)
    replace hv188 := hv188.mono (gz_mono hH hle197)
    replace hv189_0 := hv189_0.mono (gz_mono hH hle197)
    replace hv192_0 := hv192_0.mono (gz_mono hH hle197)
    have hL195 := hL197.call hx195
    have hle195 := fz_ext hL197 hx195
    have hv195_0 := hR195_0.vecG hH hL197 hx195
    replace hv122 := hv122.mono (gz_mono hH hle195)
    replace hv188 := hv188.mono (gz_mono hH hle195)
    replace hv189_0 := hv189_0.mono (gz_mono hH hle195)
    replace hv192_0 := hv192_0.mono (gz_mono hH hle195)
    refine D_hcall rfl rfl rfl (fun w199 hx199 => wire_Chunk_ok _ _ (gz_le hH (hL195.call hx199)) (hv188.mono (gz_mono hH (fz_ext hL195 hx199))) hb138) ?_
    rintro w199 u198_0 w198 hx199 hx198 ⟨_, rfl, hR198_0⟩
    have hL200 := hL195.call hx199
    have hle200 := fz_ext hL195 hx199
    replace hv122 := hv122.mono (gz_mono hH hle200)
    replace hv188 := hv188.mono (gz_mono hH hle200)
    replace hv189_0 := hv189_0.mono (gz_mono hH hle200)
    replace hv192_0 := hv192_0.mono (gz_mono hH hle200)
    replace hv195_0 := hv195_0.mono (gz_mono hH hle200)
    have hL198 := hL200.call hx198
    have hle198 := fz_ext hL200 hx198
    have hv198_0 := hR198_0.vecG hH hL200 hx198
    replace hv122 := hv122.mono (gz_mono hH hle198)
    replace hv188 := hv188.mono (gz_mono hH hle198)
    replace hv189_0 := hv189_0.mono (gz_mono hH hle198)
    replace hv192_0 := hv192_0.mono (gz_mono hH hle198)
    replace hv195_0 := hv195_0.mono (gz_mono hH hle198)
    refine D_hcall rfl rfl rfl (fun w202 hx202 => wslice_Number_ok _ _ (gz_le hH (hL198.call hx202)) (h0_0.mono (gz_left hH)) hb142) ?_
    rintro w202 u201_0 w201 hx202 hx201 ⟨_, rfl, hR201_0⟩
    have hL203 := hL198.call hx202
    have hle203 := fz_ext hL198 hx202
    replace hv122 := hv122.mono (gz_mono hH hle203)
    replace hv188 := hv188.mono (gz_mono hH hle203)
    replace hv189_0 := hv189_0.mono (gz_mono hH hle203)
    replace hv192_0 := hv192_0.mono (gz_mono hH hle203)
    replace hv195_0 := hv195_0.mono (gz_mono hH hle203)
    replace hv198_0 := hv198_0.mono (gz_mono hH hle203)
    have hL201 := hL203.call hx201
    have hle201 := fz_ext hL203 hx201
    have hv201_0 := hR201_0.vecG hH hL203 hx201
    replace hv122 := hv122.mono (gz_mono hH hle201)
    replace hv188 := hv188.mono (gz_mono hH hle201)
    replace hv189_0 := hv189_0.mono (gz_mono hH hle201)
    replace hv192_0 := hv192_0.mono (gz_mono hH hle201)
    replace hv195_0 := hv195_0.mono (gz_mono hH hle201)
    replace hv198_0 := hv198_0.mono (gz_mono hH hle201)
    refine D_litE (r := (.vec .byte)) (l := [x124, x128, x132, x138, x142]) rfl rfl (fun _ => bsl178_5 _ hv189_0.one _ hv192_0.one _ hv195_0.one _ hv198_0.one _ hv201_0.one _) rfl (show 5 ≤ 9223372036854775807 by decide) hH hL201 (.c1 ⟨_, rfl, hv189_0⟩ (.c1 ⟨_, rfl, hv192_0⟩ (.c1 ⟨_, rfl, hv195_0⟩ (.c1 ⟨_, rfl, hv198_0⟩ (.c1 ⟨_, rfl, hv201_0⟩ .nil))))) ?_
    intro v204 w204 hx204 hL204 hle204 hv204
    replace hv122 := hv122.mono (gz_mono hH hle204)
    replace hv188 := hv188.mono (gz_mono hH hle204)
    replace hv189_0 := hv189_0.mono (gz_mono hH hle204)
    replace hv192_0 := hv192_0.mono (gz_mono hH hle204)
    replace hv195_0 := hv195_0.mono (gz_mono hH hle204)
    replace hv198_0 := hv198_0.mono (gz_mono hH hle204)
    replace hv201_0 := hv201_0.mono (gz_mono hH hle204)
    refine D_hcall rfl rfl rfl (fun w206 hx206 => slices_Concat_byte_byte_ok _ _ (gz_le hH (hL204.call hx206)) (hv204.mono (gz_mono hH (fz_ext hL204 hx206))) hb147) ?_
    rintro w206 u205_0 w205 hx206 hx205 ⟨_, rfl, hR205_0⟩
    have hL207 := hL204.call hx206
    have hle207 := fz_ext hL204 hx206
    replace hv122 := hv122.mono (gz_mono hH hle207)
    replace hv188 := hv188.mono (gz_mono hH hle207)
    replace hv189_0 := hv189_0.mono (gz_mono hH hle207)
    replace hv192_0 := hv192_0.mono (gz_mono hH hle207)
    replace hv195_0 := hv195_0.mono (gz_mono hH hle207)
    replace hv198_0 := hv198_0.mono (gz_mono hH hle207)
    replace hv201_0 := hv201_0.mono (gz_mono hH hle207)
    replace hv204 := hv204.mono (gz_mono hH hle207)
    have hL205 := hL207.call hx205
    have hle205 := fz_ext hL207 hx205
    obtain ⟨xs205, hL205, hle205, he205⟩ := hR205_0.take hH hL207 hx205
    replace hv122 := hv122.mono (gz_mono hH hle205)
    replace hv188 := hv188.mono (gz_mono hH hle205)
    replace hv189_0 := hv189_0.mono (gz_mono hH hle205)
    replace hv192_0 := hv192_0.mono (gz_mono hH hle205)
    replace hv195_0 := hv195_0.mono (gz_mono hH hle205)
    replace hv198_0 := hv198_0.mono (gz_mono hH hle205)
    replace hv201_0 := hv201_0.mono (gz_mono hH hle205)
    replace hv204 := hv204.mono (gz_mono hH hle205)
    refine D_pu 1 rfl ?_
    refine D_tail (fun w208 hx208 => ?_)
    have hL209 := hL205.call hx208
    have hle209 := fz_ext hL205 hx208
    replace hv122 := hv122.mono (gz_mono hH hle209)
    replace hv188 := hv188.mono (gz_mono hH hle209)
    replace hv189_0 := hv189_0.mono (gz_mono hH hle209)
    replace hv192_0 := hv192_0.mono (gz_mono hH hle209)
    replace hv195_0 := hv195_0.mono (gz_mono hH hle209)
    replace hv198_0 := hv198_0.mono (gz_mono hH hle209)
    replace hv201_0 := hv201_0.mono (gz_mono hH hle209)
    replace hv204 := hv204.mono (gz_mono hH hle209)
    replace he205 := he205.mono (gz_mono hH hle209)
    refine S_nil ?_
    refine At_cut (x147, u205_0, xs205) (.cons rfl (Sub.nil _)) ⟨hL209, he205, h⟩
  ·obtain ⟨hk123, h⟩ := Go.L.chk_some h
   obtain ⟨x124, hb124, h⟩ := Go.L.bind_some h
   obtain ⟨x128, hb128, h⟩ := Go.L.bind_some h
   obtain ⟨x132, hb132, h⟩ := Go.L.bind_some h
   obtain ⟨hk137, h⟩ := Go.L.chk_some h
   obtain ⟨x138, hb138, h⟩ := Go.L.bind_some h
   obtain ⟨x142, hb142, h⟩ := Go.L.bind_some h
   obtain ⟨x147, hb147, h⟩ := Go.L.bind_some h
   refine D_s2b (H := H) rfl rfl underlying9 underlying35 underlying5 rfl hL121 hk137 ?_
   intro v210 w210 hx210 hL210 hle210 hv210
   refine D_s2b (H := H) rfl rfl underlying9 underlying35 underlying5 rfl hL210 hk123 ?_
   intro v211 w211 hx211 hL211 hle211 hv211
   replace hv210 := hv210.mono (gz_mono hH hle211)
   refine D_hcall rfl rfl rfl (fun w213 hx213 => wire_Chunk_ok _ _ (gz_le hH (hL211.call hx213)) (hv211.mono (gz_mono hH (fz_ext hL211 hx213))) hb124) ?_
   rintro w213 u212_0 w212 hx213 hx212 ⟨_, rfl, hR212_0⟩
   have hL214 := hL211.call hx213
   have hle214 := fz_ext hL211 hx213
   replace hv210 := hv210.mono (gz_mono hH hle214)
   replace hv211 := hv211.mono (gz_mono hH hle214)
   have hL212 := hL214.call hx212
   have hle212 := fz_ext hL214 hx212
   have hv212_0 := hR212_0.vecG hH hL214 hx212
   replace hv210 := hv210.mono (gz_mono hH hle212)
   replace hv211 := hv211.mono (gz_mono hH hle212)
   refine D_hcall rfl rfl rfl (fun w216 hx216 => wire_Number_ok _ _ (gz_le hH (hL212.call hx216)) hb128) ?_
   rintro w216 u215_0 w215 hx216 hx215 ⟨_, rfl, hR215_0⟩
   have hL217 := hL212.call hx216
   have hle217 := fz_ext hL212 hx216
   replace hv210 := hv210.mono (gz_mono hH hle217)
   replace hv211 := hv211.mono (gz_mono hH hle217)
   replace hv212_0 := hv212_0.mono (gz_mono hH hle217)
   have hL215 := hL217.call hx215
   have hle215 := fz_ext hL217 hx215
   have hv215_0 := hR215_0.vecG hH hL217 hx215
   replace hv210 := hv210.mono (gz_mono hH hle215)
   replace hv211 := hv211.mono (gz_mono hH hle215)
   replace hv212_0 := hv212_0.mono (gz_mono hH hle215)
   refine D_hcall rfl rfl rfl (fun w219 hx219 => wire_Number_ok _ _ (gz_le hH (hL215.call hx219)) hb132) ?_
   rintro w219 u218_0 w218 hx219 hx218 ⟨_, rfl, hR218_0⟩
   have hL220 := hL215.call hx219
   have hle220 := fz_ext hL215 hx219
   replace hv210 := hv210.mono (gz_mono hH hle220)
   replace hv211 := hv211.mono (gz_mono hH hle220)
   replace hv212_0 := hv212_0.mono (gz_mono hH hle220)
   replace hv215_0 := hv215_0.mono (gz_mono hH hle220)
   have hL218 := hL220.call hx218
   have hle218 := fz_ext hL220 hx218
   have hv218_0 := hR218_0.vecG hH hL220 hx218
   replace hv210 := hv210.mono (gz_mono hH hle218)
   replace hv211 := hv211.mono (gz_mono hH hle218)
   replace hv212_0 := hv212_0.mono (gz_mono hH hle218)
   replace hv215_0 := hv215_0.mono (gz_mono hH hle218)
   refine D_hcall rfl rfl rfl (fun w222 hx222 => wire_Chunk_ok _ _ (gz_le hH (hL218.call hx222)) (hv210.mono (gz_mono hH (fz_ext hL218 hx222))) hb138) ?_
   rintro w222 u221_0 w221 hx222 hx221 ⟨_, rfl, hR221_0⟩
   have hL223 := hL218.call hx222
   have hle223 := fz_ext hL218 hx222
   replace hv210 := hv210.mono (gz_mono hH hle223)
   replace hv211 := hv211.mono (gz_mono hH hle223)
   replace hv212_0 := hv212_0.mono (gz_mono hH hle223)
   replace hv215_0 := hv215_0.mono (gz_mono hH hle223)
   replace hv218_0 := hv218_0.mono (gz_mono hH hle223)
   have hL221 := hL223.call hx221
   have hle221 := fz_ext hL223 hx221
   have hv221_0 := hR221_0.vecG hH hL223 hx221
   replace hv210 := hv210.mono (gz_mono hH hle221)
   replace hv211 := hv211.mono (gz_mono hH hle221)
   replace hv212_0 := hv212_0.mono (gz_mono hH hle221)
   replace hv215_0 := hv215_0.mono (gz_mono hH hle221)
   replace hv218_0 := hv218_0.mono (gz_mono hH hle221)
   refine D_hcall rfl rfl rfl (fun w225 hx225 => wslice_Number_ok _ _ (gz_le hH (hL221.call hx225)) (h0_0.mono (gz_left hH)) hb142) ?_
   rintro w225 u224_0 w224 hx225 hx224 ⟨_, rfl, hR224_0⟩
   have hL226 := hL221.call hx225
   have hle226 := fz_ext hL221 hx225
   replace hv210 := hv210.mono (gz_mono hH hle226)
   replace hv211 := hv211.mono (gz_mono hH hle226)
   replace hv212_0 := hv212_0.mono (gz_mono hH hle226)
   replace hv215_0 := hv215_0.mono (gz_mono hH hle226)
   replace hv218_0 := hv218_0.mono (gz_mono hH hle226)
   replace hv221_0 := hv221_0.mono (gz_mono hH hle226)
   have hL224 := hL226.call hx224
   have hle224 := fz_ext hL226 hx224
   have hv224_0 := hR224_0.vecG hH hL226 hx224
   replace hv210 := hv210.mono (gz_mono hH hle224)
   replace hv211 := hv211.mono (gz_mono hH hle224)
   replace hv212_0 := hv212_0.mono (gz_mono hH hle224)
   replace hv215_0 := hv215_0.mono (gz_mono hH hle224)
   replace hv218_0 := hv218_0.mono (gz_mono hH hle224)
   replace hv221_0 := hv221_0.mono (gz_mono hH hle224)
   refine D_litE (r := (.vec .byte)) (l := [x124, x128, x132, x138, x142]) rfl rfl (fun _ => bsl178_5 _ hv212_0.one _ hv215_0.one _ hv218_0.one _ hv221_0.one _ hv224_0.one _) rfl (show 5 ≤ 9223372036854775807 by decide) hH hL224 (.c1 ⟨_, rfl, hv212_0⟩ (.c1 ⟨_, rfl, hv215_0⟩ (.c1 ⟨_, rfl, hv218_0⟩ (.c1 ⟨_, rfl, hv221_0⟩ (.c1 ⟨_, rfl, hv224_0⟩ .nil))))) ?_
   intro v227 w227 hx227 hL227 hle227 hv227
   replace hv210 := hv210.mono (gz_mono hH hle227)
   replace hv211 := hv211.mono (gz_mono hH hle227)
   replace hv212_0 := hv212_0.mono (gz_mono hH hle227)
   replace hv215_0 := hv215_0.mono (gz_mono hH hle227)
   replace hv218_0 := hv218_0.mono (gz_mono hH hle227)
   replace hv221_0 := hv221_0.mono (gz_mono hH hle227)
   replace hv224_0 := hv224_0.mono (gz_mono hH hle227)
   refine D_hcall rfl rfl rfl (fun w229 hx229 => slices_Concat_byte_byte_ok _ _ (gz_le hH (hL227.call hx229)) (hv227.mono (gz_mono hH (fz_ext hL227 hx229))) hb147) ?_
   rintro w229 u228_0 w228 hx229 hx228 ⟨_, rfl, hR228_0⟩
   have hL230 := hL227.call hx229
   have hle230 := fz_ext hL227 hx229
   replace hv210 := hv210.mono (gz_mono hH hle230)
   replace hv211 := hv211.mono (gz_mono hH hle230)
   replace hv212_0 := hv212_0.mono (gz_mono hH hle230)
   replace hv215_0 := hv215_0.mono (gz_mono hH hle230)
   replace hv218_0 := hv218_0.mono (gz_mono hH hle230)
   replace hv221_0 := hv221_0.mono (gz_mono hH hle230)
   replace hv224_0 := hv224_0.mono (gz_mono hH hle230)
   replace hv227 := hv227.mono (gz_mono hH hle230)
   have hL228 := hL230.call hx228
   have hle228 := fz_ext hL230 hx228
   obtain ⟨xs228, hL228, hle228, he228⟩ := hR228_0.take hH hL230 hx228
   replace hv210 := hv210.mono (gz_mono hH hle228)
   replace hv211 := hv211.mono (gz_mono hH hle228)
   replace hv212_0 := hv212_0.mono (gz_mono hH hle228)
   replace hv215_0 := hv215_0.mono (gz_mono hH hle228)
   replace hv218_0 := hv218_0.mono (gz_mono hH hle228)
   replace hv221_0 := hv221_0.mono (gz_mono hH hle228)
   replace hv224_0 := hv224_0.mono (gz_mono hH hle228)
   replace hv227 := hv227.mono (gz_mono hH hle228)
   refine D_pu 1 rfl ?_
   refine D_tail (fun w231 hx231 => ?_)
   have hL232 := hL228.call hx231
   have hle232 := fz_ext hL228 hx231
   replace hv210 := hv210.mono (gz_mono hH hle232)
   replace hv211 := hv211.mono (gz_mono hH hle232)
   replace hv212_0 := hv212_0.mono (gz_mono hH hle232)
   replace hv215_0 := hv215_0.mono (gz_mono hH hle232)
   replace hv218_0 := hv218_0.mono (gz_mono hH hle232)
   replace hv221_0 := hv221_0.mono (gz_mono hH hle232)
   replace hv224_0 := hv224_0.mono (gz_mono hH hle232)
   replace hv227 := hv227.mono (gz_mono hH hle232)
   replace he228 := he228.mono (gz_mono hH hle232)
   refine S_nil ?_
   refine At_cut (x147, u228_0, xs228) (.cons rfl (Sub.nil _)) ⟨hL232, he228, h⟩
 ·rintro ⟨l117, vl117, xsl117⟩ wr118 ⟨hL118, hel117, h⟩
  refine W_ret ?_
  obtain rfl := Option.some.inj h
  refine At_body rfl rfl ?_
  exact ⟨hL118.ext, _, rfl, (hL118.ownH hH (i := 0) rfl hel117)⟩
noncomputable def wslice_form_k1 (l18 : List UInt8) : Option ((List UInt8)) :=
 some (l18)
noncomputable def wslice_form_bl2 (a0 : List (((List UInt8) × Int × Int × (List UInt8)) × (List Int))) : (List UInt8) × Int → Option (((List UInt8) × Int) ⊕ ((List UInt8))) := fun ⟨l34, s13_35⟩ =>
 if s13_35 < (a0.length : Int) then Go.L.chk (0 ≤ s13_35 ∧ s13_35 < (a0.length : Int)) (Option.bind (shapes_form ((((a0.getD s13_35.toNat default).1).1, ((a0.getD s13_35.toNat default).1).2.1, ((a0.getD s13_35.toNat default).1).2.2.1, ((a0.getD s13_35.toNat default).1).2.2.2), (a0.getD s13_35.toNat default).2)) (fun x44 => Go.L.chk (Go.E.Cap 1 (l34.length + x44.length)) (Go.L.chk (Go.L.I64 (s13_35 + (1 : Int))) (some (Sum.inl ((l34 ++ x44), (s13_35 + (1 : Int)))))))) else Option.map Sum.inr (wslice_form_k1 l34)
noncomputable def wslice_form_l2 (a0 : List (((List UInt8) × Int × Int × (List UInt8)) × (List Int))) (s : (List UInt8) × Int) : Option ((List UInt8)) := Go.L.run (wslice_form_bl2 a0) s
noncomputable def wslice_form (a0 : List (((List UInt8) × Int × Int × (List UInt8)) × (List Int))) : Option ((List UInt8)) :=
 Option.bind (wire_Number (a0.length : Int)) (fun x1 => (wslice_form_l2 a0) (x1, (0 : Int)))
theorem wslice_form_ok (w : World) (H : PH) (hH : Le H (hp w)) {a0 : List (((List UInt8) × Int × Int × (List UInt8)) × (List Int))} {v0_0 : Value} (h0_0 : Vec (.pair (.pair .st (.pair (.int .i64) (.pair (.int .i64) .st))) (.vec (.int .i64))) H v0_0 (a0)) {r : (List UInt8)} (h : wslice_form a0 = some r) :
  Ok Tryz.prog 75 [v0_0, .func (.func 76) #[] #[]] w (fun v w' => Ext w w' ∧ ∃ u0, v = u0 ∧ OwnH 5 .byte H w w' u0 (r)) := by
 refine Ok_enter (n := 24) [(0, v0_0), (1, .func (.func 76) #[] #[])] func75 rfl rfl rfl rfl rfl ?_
 have hL := Lcl.start w
 refine W_pz 1 rfl ?_
 refine W_p 1 rfl ?_
 refine S_v (r_len rfl underlying45 h0_0) rfl ?_
 obtain ⟨x1, hb1, h⟩ := Go.L.bind_some h
 refine S_callL rfl rfl hL (wire_Number_ok _ _ (gz_le hH hL) hb1) ?_
 rintro u2_0 w2 ⟨_, rfl, hR2_0⟩ hx2 hL2 hle2
 obtain ⟨xs2, hL2, hle2, he2⟩ := hR2_0.take hH hL hx2
 refine S_pz 1 rfl ?_
 refine W_cut (σ := (List UInt8) × Value × (List Value)) (fun ⟨l18, vl18, xsl18⟩ => [(5, vl18)]) (fun ⟨l18, vl18, xsl18⟩ wr => InO w [.row (vl18) 5 1 (l18).length (xsl18)] wr fun Oz => Elems .byte (gz H w wr Oz) (l18) (xsl18) ∧ wslice_form_k1 l18 = some r) ?_ ?_
 ·refine W_p 1 rfl ?_
  refine S_v (r_len rfl underlying45 h0_0) rfl ?_
  refine S_pz 1 rfl ?_
  refine W_block ?_
  obtain ⟨n36, h⟩ := Go.L.run_some h
  refine W_loop (σ := (List UInt8) × Int × Value × (List Value) × Nat) (fun ⟨l34, s13_35, vl34, xsl34, n⟩ => [(1, .func (.func 76) #[] #[]), (5, vl34), (11, v0_0), (12, .int .i64 (a0.length : Int)), (13, .int .i64 s13_35)]) (fun ⟨l34, s13_35, vl34, xsl34, n⟩ wr => InO w [.row (vl34) 5 1 (l34).length (xsl34)] wr fun Oz => Elems .byte (gz H w wr Oz) (l34) (xsl34) ∧ Go.L.itr (wslice_form_bl2 a0) n (l34, s13_35) = some r) (fun ⟨l34, s13_35, vl34, xsl34, n⟩ => n) (x1, (0 : Int), u2_0, xs2, n36) (.cons rfl (.cons rfl (.cons rfl (.cons rfl (.cons rfl (Sub.nil _)))))) ⟨hL2, he2, h⟩ ?_
  rintro ⟨l34, s13_35, vl34, xsl34, nn36⟩ wr36 ⟨hL36, hel34, h⟩
  obtain ⟨n36, e36, rfl, h, hm36⟩ := Go.L.itr_some h
  refine W_pz 1 rfl ?_
  refine W_seq ?_
  refine W_if rfl (fun hc38 => ?_) (fun hc38 => ?_)
  ·replace h := Go.L.ite_p hc38 h
   refine W_skip ?_
   refine At_seq ?_
   refine W_seq ?_
   refine W_block ?_
   refine W_seqr ?_
   obtain ⟨hk41, h⟩ := Go.L.chk_some h
   refine S_index rfl rfl underlying45 zr96 h0_0 s13_35.toNat (Int.toNat_of_nonneg hk41.1).symm (idx_lt hk41) rfl ?_
   rintro p40 _ ⟨_, _, rfl, ⟨_, _, rfl, rfl, ⟨_, _, rfl, rfl, ⟨_, _, rfl, rfl, rfl⟩⟩⟩, ⟨e40v4, rfl, e40h4⟩⟩ hp40
   refine S_v (r_loadN rfl underlying96 rfl zr96 hp40 (hH.trans hL36.arg)) rfl ?_
   refine S_alloc zr96 rfl rfl hL36 ?_
   intro w42 b42 hL42 hle42 _
   replace hel34 := hel34.mono (gz_mono hH hle42)
   refine S_storeBN 0 rfl rfl rfl zr96 hL42 rfl rfl (onc rfl (onc rfl (onc rfl (onc rfl (onc e40h4.one on0))))) ?_
   intro w43 hL43 hle43
   replace hel34 := hel34.mono (gz_mono hH hle43)
   refine S_seqnil ?_
   refine W_region ?_
   refine S_pu 2 rfl ?_
   refine S_v (r_loadBN 0 rfl underlying96 rfl zr96 hL43 rfl) rfl ?_
   obtain ⟨x44, hb44, h⟩ := Go.L.bind_some h
   refine S_callwL rfl rfl rfl hL43 (shapes_form_ok (a0 := ((((a0.getD s13_35.toNat default).1).1, ((a0.getD s13_35.toNat default).1).2.1, ((a0.getD s13_35.toNat default).1).2.2.1, ((a0.getD s13_35.toNat default).1).2.2.2), (a0.getD s13_35.toNat default).2)) _ _ (gz_le hH hL43) (e40h4.mono (gz_left hH)) hb44) ?_
   rintro u45_0 w45 ⟨_, rfl, hR45_0⟩ hx45 hL45 hle45
   have hv45_0 := hR45_0.vecG hH hL43 hx45
   replace hel34 := hel34.mono (gz_mono hH hle45)
   obtain ⟨hk47, h⟩ := Go.L.chk_some h
   refine S_appE (r := .byte) (l := l34) (m := x44) 1 rfl rfl underlying35 zr5 rfl (by decide) rfl hH hL45 rfl hel34 hv45_0 hk47 ?_
   intro v46 w46 xs46 hL46 hle46 he46
   replace hv45_0 := hv45_0.mono (gz_mono hH hle46)
   refine S_pu 1 rfl ?_
   refine S_nil ?_
   refine At_block ?_
   refine At_seq ?_
   refine W_region ?_
   obtain ⟨hk48, h⟩ := Go.L.chk_some h
   refine S_v (r_ar64 rfl rfl rfl hk48) rfl ?_
   refine S_pu 1 rfl ?_
   refine S_nil ?_
   have hL49 := hL46.dropAt (i := 0) rfl
   replace he46 := he46.mono (gz_mono hH (fz_dropAt (i := 0) rfl))
   have h := Go.L.Nxt.again h hm36
   refine At_round ((l34 ++ x44), (s13_35 + (1 : Int)), v46, xs46, n36) (.cons rfl (.cons rfl (.cons rfl (.cons rfl (.cons rfl (Sub.nil _)))))) ⟨hL49, he46, h⟩ (Nat.lt_succ_self _)
  ·replace h := Go.L.ite_n hc38 h
   refine W_exit ?_
   refine At_seq_exit ?_
   refine At_loop_exit ?_
   replace h := Go.L.Nxt.out h hm36
   refine At_exit ?_
   refine At_cut (l34, vl34, xsl34) (.cons rfl (Sub.nil _)) ⟨hL36, hel34, h⟩
 ·rintro ⟨l18, vl18, xsl18⟩ wr19 ⟨hL19, hel18, h⟩
  refine W_pz 2 rfl ?_
  refine W_ret ?_
  obtain rfl := Option.some.inj h
  refine At_body rfl rfl ?_
  exact ⟨hL19.ext, _, rfl, (hL19.ownH hH (i := 0) rfl hel18)⟩
end Go.Proofs.YtmfiaecglndldaaGreatDoor
end
section
namespace Go.Proofs.YtmfiaecglndldaaGreatDoor
open Go Go.E Go.RowKit
set_option maxHeartbeats 1000000
set_option maxRecDepth 10000
open _root_.Go.Proofs.Tryz
noncomputable def shapes_Index_Bytes (a0 : Int × (List (((List UInt8) × Int × Int × (List UInt8)) × (List Int)))) : Option ((List UInt8)) :=
 Option.bind (wire_Number a0.1) (fun x4 => Option.bind (wslice_form a0.2) (fun x8 => Go.L.chk (Go.E.Cap 1 (x4.length + x8.length)) (some ((x4 ++ x8)))))
theorem shapes_Index_Bytes_ok (w : World) (H : PH) (hH : Le H (hp w)) {a0 : Int × (List (((List UInt8) × Int × Int × (List UInt8)) × (List Int)))} {v0_0 : Value} (h0_0 : Vec (.pair (.pair .st (.pair (.int .i64) (.pair (.int .i64) .st))) (.vec (.int .i64))) H v0_0 (a0.2)) {r : (List UInt8)} (h : shapes_Index_Bytes a0 = some r) :
  Ok Tryz.prog 37 [.agg #[.int .i64 a0.1, v0_0]] w (fun v w' => Ext w w' ∧ ∃ u0, v = u0 ∧ OwnH 5 .byte H w w' u0 (r)) := by
 refine Ok_enter (n := 10) [(0, .agg #[.int .i64 a0.1, v0_0])] func37 rfl rfl rfl rfl rfl ?_
 have hL := Lcl.start w
 refine W_seqr ?_
 refine S_box (t := 47) rfl rfl rfl hL ?_
 intro w1 b1 hL1 hle1 _
 refine S_pz 1 rfl ?_
 refine W_seqd (.q 0 (.q 1 (.q 3 (.q 4 (.h 2 (.h 5 (.tail 6))))))) mixed (by kernel_rfl) (fun w2 hx2 => ?_)
 have hL3 := hL1.call hx2
 refine D_v (r_field rfl underlying47 rfl zr3 (by decide)) rfl rfl ?_
 refine D_v (r_loadB1 0 rfl underlying3 rfl hL3 rfl rfl) rfl rfl ?_
 refine D_v (r_field rfl underlying47 rfl zr45 (by decide)) rfl rfl ?_
 refine D_v (r_loadB1 0 rfl underlying45 rfl hL3 rfl rfl) rfl rfl ?_
 obtain ⟨x4, hb4, h⟩ := Go.L.bind_some h
 refine D_hcall rfl rfl rfl (fun w6 hx6 => wire_Number_ok _ _ (gz_le hH (hL3.call hx6)) hb4) ?_
 rintro w6 u5_0 w5 hx6 hx5 ⟨_, rfl, hR5_0⟩
 have hL7 := hL3.call hx6
 have hL5 := hL7.call hx5
 have hle5 := fz_ext hL7 hx5
 obtain ⟨xs5, hL5, hle5, he5⟩ := hR5_0.take hH hL7 hx5
 obtain ⟨x8, hb8, h⟩ := Go.L.bind_some h
 refine D_hcall rfl rfl rfl (fun w10 hx10 => wslice_form_ok _ _ (gz_le hH (hL5.call hx10)) (h0_0.mono (gz_left hH)) hb8) ?_
 rintro w10 u9_0 w9 hx10 hx9 ⟨_, rfl, hR9_0⟩
 have hL11 := hL5.call hx10
 have hle11 := fz_ext hL5 hx10
 replace he5 := he5.mono (gz_mono hH hle11)
 have hL9 := hL11.call hx9
 have hle9 := fz_ext hL11 hx9
 have hv9_0 := hR9_0.vecG hH hL11 hx9
 replace he5 := he5.mono (gz_mono hH hle9)
 refine D_tail (fun w12 hx12 => ?_)
 have hL13 := hL9.call hx12
 have hle13 := fz_ext hL9 hx12
 replace he5 := he5.mono (gz_mono hH hle13)
 replace hv9_0 := hv9_0.mono (gz_mono hH hle13)
 obtain ⟨hk15, h⟩ := Go.L.chk_some h
 refine S_appE (r := .byte) (l := x4) (m := x8) 0 rfl rfl underlying35 zr5 rfl (by decide) rfl hH hL13 rfl he5 hv9_0 hk15 ?_
 intro v14 w14 xs14 hL14 hle14 he14
 replace hv9_0 := hv9_0.mono (gz_mono hH hle14)
 refine S_pz 1 rfl ?_
 refine W_ret ?_
 obtain rfl := Option.some.inj h
 refine At_body rfl rfl ?_
 exact ⟨hL14.ext, _, rfl, (hL14.ownH hH (i := 0) rfl he14)⟩
noncomputable def shapes_Index_Items (a0 : Int × (List (((List UInt8) × Int × Int × (List UInt8)) × (List Int)))) : Option (Int) :=
 some (a0.1)
theorem shapes_Index_Items_ok (w : World) (H : PH) (_hH : Le H (hp w)) {a0 : Int × (List (((List UInt8) × Int × Int × (List UInt8)) × (List Int)))} {v0_0 : Value} (_h0_0 : Vec (.pair (.pair .st (.pair (.int .i64) (.pair (.int .i64) .st))) (.vec (.int .i64))) H v0_0 (a0.2)) {r : Int} (h : shapes_Index_Items a0 = some r) :
  Ok Tryz.prog 27 [.agg #[.int .i64 a0.1, v0_0]] w (fun v w' => Ext w w' ∧ v = .int .i64 r) := by
 refine Ok_enter (n := 5) [(0, .agg #[.int .i64 a0.1, v0_0])] func27 rfl rfl rfl rfl rfl ?_
 have hL := Lcl.start w
 refine W_seqr ?_
 refine S_box (t := 47) rfl rfl rfl hL ?_
 intro w1 b1 hL1 hle1 _
 refine S_pz 1 rfl ?_
 refine W_seqr ?_
 refine S_v (r_field rfl underlying47 rfl zr3 (by decide)) rfl ?_
 refine S_v (r_loadB1 0 rfl underlying3 rfl hL1 rfl rfl) rfl ?_
 refine S_pz 1 rfl ?_
 refine W_ret ?_
 obtain rfl := Option.some.inj h
 refine At_body rfl rfl ?_
 exact ⟨hL1.ext, rfl⟩
noncomputable def slices_Clone_int_int (a0 : List Int) : Option ((List Int)) :=
 Go.L.chk (Go.E.Cap 8 (([] : List Int).length + a0.length)) (some ((([] : List Int) ++ a0)))
theorem slices_Clone_int_int_ok (w : World) (H : PH) (hH : Le H (hp w)) {a0 : List Int} {v0_0 : Value} (h0_0 : Vec (.int .i64) H v0_0 (a0)) {r : (List Int)} (h : slices_Clone_int_int a0 = some r) :
  Ok Tryz.prog 98 [v0_0] w (fun v w' => Ext w w' ∧ ∃ u0, v = u0 ∧ OwnH 3 (.int .i64) H w w' u0 (r)) := by
 refine Ok_enter (n := 8) [(0, v0_0)] func98 rfl rfl rfl rfl rfl ?_
 have hL := Lcl.start w
 refine W_pz 1 rfl ?_
 refine W_seq ?_
 refine W_p 1 rfl ?_
 rcases nil_or h0_0 with ⟨rfl, rfl⟩ | hnn
 ·refine S_v (r_nilT rfl rfl underlying52) rfl ?_
  refine S_seqnil ?_
  refine W_true rfl ?_
  refine W_pz 1 rfl ?_
  refine W_ret ?_
  obtain ⟨_, h⟩ := Go.L.chk_some h
  obtain rfl := Option.some.inj h
  refine At_seq_ret ?_
  refine At_body rfl rfl ?_
  exact ⟨hL.ext, _, rfl, ownNil _ hL hH⟩
 refine S_v (r_nilF rfl rfl underlying52 hnn) rfl ?_
 refine S_seqnil ?_
 refine W_false rfl ?_
 refine W_skip ?_
 refine At_seq ?_
 refine W_seqr ?_
 refine S_litO (r := (.int .i64)) (l := ([] : List Int)) rfl (fun _ => bsl52_0 _) rfl (show 0 ≤ 9223372036854775807 by decide) hH hL .nil ?_
 intro v1 w1 xs1 hL1 hle1 he1
 refine S_pu 1 rfl ?_
 obtain ⟨hk3, h⟩ := Go.L.chk_some h
 refine S_appE (r := (.int .i64)) (l := ([] : List Int)) (m := a0) 0 rfl rfl underlying52 zr3 rfl (by decide) rfl hH hL1 rfl he1 (h0_0.mono (gz_left hH)) hk3 ?_
 intro v2 w2 xs2 hL2 hle2 he2
 refine S_pz 1 rfl ?_
 refine W_ret ?_
 obtain rfl := Option.some.inj h
 refine At_body rfl rfl ?_
 exact ⟨hL2.ext, _, rfl, (hL2.ownH hH (i := 0) rfl he2)⟩
noncomputable def shapes_build_k1 (a0 : Int) (l71 : List (((List UInt8) × Int × Int × (List UInt8)) × (List Int))) : Option ((Int × (List (((List UInt8) × Int × Int × (List UInt8)) × (List Int)))) × (Int × Int)) :=
 Option.bind (shapes_Index_Bytes (a0, l71)) (fun x144 => if (16384 : Int) < (x144.length : Int) then Option.bind (shapes_fault (14 : Int) (-1 : Int)) (fun x148 => some (((0 : Int), []), (x148.1, x148.2))) else some ((a0, l71), ((0 : Int), (0 : Int))))
noncomputable def shapes_build_bl2 (a0 : Int) (a1 : List (((List UInt8) × Int × Int × (List UInt8)) × (List Int))) (x74 : (List ((List UInt8) × Int × Int × (List UInt8)))) : (List (((List UInt8) × Int × Int × (List UInt8)) × (List Int))) × Int → Option (((List (((List UInt8) × Int × Int × (List UInt8)) × (List Int))) × Int) ⊕ ((Int × (List (((List UInt8) × Int × Int × (List UInt8)) × (List Int)))) × (Int × Int))) := fun ⟨l102, s15_103⟩ =>
 if s15_103 < (x74.length : Int) then Go.L.chk (0 ≤ s15_103 ∧ s15_103 < (x74.length : Int)) (Option.bind (slices_Clone_int_int (Go.L.mget [] ((x74.getD s15_103.toNat default).1, (x74.getD s15_103.toNat default).2.1, (x74.getD s15_103.toNat default).2.2.1, (x74.getD s15_103.toNat default).2.2.2) a1)) (fun x114 => Go.L.chk (x114.length < 4611686018427387904) (Go.L.chk ((srtI x114).length ≤ 9223372036854775807) (Go.L.chk (Go.E.Cap 72 (l102.length + ([(((x74.getD s15_103.toNat default).1, (x74.getD s15_103.toNat default).2.1, (x74.getD s15_103.toNat default).2.2.1, (x74.getD s15_103.toNat default).2.2.2), (Lib.compact (srtI x114)))]).length)) (Go.L.chk (Go.L.I64 (s15_103 + (1 : Int))) (some (Sum.inl ((l102 ++ [(((x74.getD s15_103.toNat default).1, (x74.getD s15_103.toNat default).2.1, (x74.getD s15_103.toNat default).2.2.1, (x74.getD s15_103.toNat default).2.2.2), (Lib.compact (srtI x114)))]), (s15_103 + (1 : Int)))))))))) else Option.map Sum.inr ((shapes_build_k1 a0) l102)
noncomputable def shapes_build_l2 (a0 : Int) (a1 : List (((List UInt8) × Int × Int × (List UInt8)) × (List Int))) (x74 : (List ((List UInt8) × Int × Int × (List UInt8)))) (s : (List (((List UInt8) × Int × Int × (List UInt8)) × (List Int))) × Int) : Option ((Int × (List (((List UInt8) × Int × Int × (List UInt8)) × (List Int)))) × (Int × Int)) := Go.L.run (shapes_build_bl2 a0 a1 x74) s
noncomputable def shapes_build (a0 : Int) (a1 : List (((List UInt8) × Int × Int × (List UInt8)) × (List Int))) : Option ((Int × (List (((List UInt8) × Int × Int × (List UInt8)) × (List Int)))) × (Int × Int)) :=
 Option.bind (sortedK a1) (fun x74 => (shapes_build_l2 a0 a1 x74) (([] : List (((List UInt8) × Int × Int × (List UInt8)) × (List Int))), (0 : Int)))
theorem shapes_build_ok (w : World) (H : PH) (hH : Le H (hp w)) {a0 : Int} {a1 : List (((List UInt8) × Int × Int × (List UInt8)) × (List Int))} {v1_0 : Value} (h1_0 : VMap encLf (.vec (.int .i64)) H (v1_0) (a1)) {r : (Int × (List (((List UInt8) × Int × Int × (List UInt8)) × (List Int)))) × (Int × Int)} (h : shapes_build a0 a1 = some r) :
  Ok Tryz.prog 59 [.int .i64 a0, v1_0] w (fun v w' => Ext w w' ∧ ∃ u0, v = .tuple #[.agg #[.int .i64 r.1.1, u0], .agg #[.int .i64 r.2.1, .int .i64 r.2.2]] ∧ OwnH 96 (.pair (.pair .st (.pair (.int .i64) (.pair (.int .i64) .st))) (.vec (.int .i64))) H w w' u0 (r.1.2)) := by
 refine Ok_enter (n := 43) [(0, .int .i64 a0), (1, v1_0)] func59 rfl rfl rfl rfl rfl ?_
 have hL := Lcl.start w
 refine W_seqr ?_
 refine S_alloc zr47 rfl rfl hL ?_
 intro w1 b1 hL1 hle1 _
 refine S_alloc zr23 rfl rfl hL1 ?_
 intro w2 b2 hL2 hle2 _
 refine S_seqnil ?_
 refine W_p 1 rfl ?_
 refine S_v (r_build rfl (fun _ => bld47_0 _ _)) rfl ?_
 refine S_alloc zr47 rfl rfl hL2 ?_
 intro w3 b3 hL3 hle3 _
 refine S_storeBN 0 rfl rfl rfl zr47 hL3 rfl rfl (onc rfl (onc rfl on0)) ?_
 intro w4 hL4 hle4
 refine S_seqnil ?_
 refine W_cut (σ := (List (((List UInt8) × Int × Int × (List UInt8)) × (List Int))) × Value × (List Value)) (fun ⟨l71, vl71, xsl71⟩ => [(4, .pointer (some ⟨b1, 0, none⟩)), (5, .pointer (some ⟨b2, 0, none⟩)), (6, .pointer (some ⟨b3, 0, none⟩))]) (fun ⟨l71, vl71, xsl71⟩ wr => InO w [.row (vl71) 96 5 (l71).length (xsl71), .box b3 [.int .i64 a0, vl71] 47, .box b2 [.int .i64 (0 : Int), .int .i64 (0 : Int)] 23, .box b1 [.int .i64 (0 : Int), .slice none 0 0] 47] wr fun Oz => Elems (.pair (.pair .st (.pair (.int .i64) (.pair (.int .i64) .st))) (.vec (.int .i64))) (gz H w wr Oz) (l71) (xsl71) ∧ (shapes_build_k1 a0) l71 = some r) ?_ ?_
 ·refine W_p 1 rfl ?_
  obtain ⟨x74, hb74, h⟩ := Go.L.bind_some h
  refine S_callL rfl rfl hL4 (sortedK_ok _ _ (gz_le hH hL4) (h1_0.mono (gz_left hH)) hb74) ?_
  rintro u75_0 w75 ⟨_, rfl, hR75_0⟩ hx75 hL75 hle75
  have hv75_0 := hR75_0.vecG hH hL4 hx75
  refine S_v (r_len rfl underlying131 hv75_0) rfl ?_
  refine S_pz 1 rfl ?_
  refine W_block ?_
  obtain ⟨hL105, hle105, he105⟩ := row_nilE (.pair (.pair .st (.pair (.int .i64) (.pair (.int .i64) .st))) (.vec (.int .i64))) H 96 hL75
  replace hv75_0 := hv75_0.mono (gz_mono hH hle105)
  obtain ⟨n104, h⟩ := Go.L.run_some h
  refine W_loop (σ := (List (((List UInt8) × Int × Int × (List UInt8)) × (List Int))) × Int × Value × (List Value) × Nat) (fun ⟨l102, s15_103, vl102, xsl102, n⟩ => [(1, v1_0), (4, .pointer (some ⟨b1, 0, none⟩)), (5, .pointer (some ⟨b2, 0, none⟩)), (6, .pointer (some ⟨b3, 0, none⟩)), (13, u75_0), (14, .int .i64 (x74.length : Int)), (15, .int .i64 s15_103)]) (fun ⟨l102, s15_103, vl102, xsl102, n⟩ wr => InO w [.row (vl102) 96 5 (l102).length (xsl102), .box b3 [.int .i64 a0, vl102] 47, .box b2 [.int .i64 (0 : Int), .int .i64 (0 : Int)] 23, .box b1 [.int .i64 (0 : Int), .slice none 0 0] 47] wr fun Oz => Vec (.pair .st (.pair (.int .i64) (.pair (.int .i64) .st))) (gz H w wr Oz) (u75_0) (x74) ∧ Elems (.pair (.pair .st (.pair (.int .i64) (.pair (.int .i64) .st))) (.vec (.int .i64))) (gz H w wr Oz) (l102) (xsl102) ∧ Go.L.itr (shapes_build_bl2 a0 a1 x74) n (l102, s15_103) = some r) (fun ⟨l102, s15_103, vl102, xsl102, n⟩ => n) (([] : List (((List UInt8) × Int × Int × (List UInt8)) × (List Int))), (0 : Int), .slice none 0 0, [], n104) (.cons rfl (.cons rfl (.cons rfl (.cons rfl (.cons rfl (.cons rfl (.cons rfl (Sub.nil _)))))))) ⟨hL105, hv75_0, he105, h⟩ ?_
  rintro ⟨l102, s15_103, vl102, xsl102, nn104⟩ wr104 ⟨hL104, hf104_0, hel102, h⟩
  obtain ⟨n104, e104, rfl, h, hm104⟩ := Go.L.itr_some h
  refine W_pz 1 rfl ?_
  refine W_seq ?_
  refine W_if rfl (fun hc107 => ?_) (fun hc107 => ?_)
  ·replace h := Go.L.ite_p hc107 h
   refine W_skip ?_
   refine At_seq ?_
   refine W_seq ?_
   refine W_block ?_
   refine W_seqr ?_
   obtain ⟨hk110, h⟩ := Go.L.chk_some h
   refine S_index rfl rfl underlying131 zr84 hf104_0 s15_103.toNat (Int.toNat_of_nonneg hk110.1).symm (idx_lt hk110) rfl ?_
   rintro p109 _ ⟨_, _, rfl, rfl, ⟨_, _, rfl, rfl, ⟨_, _, rfl, rfl, rfl⟩⟩⟩ hp109
   refine S_v (r_loadN rfl underlying84 rfl zr84 hp109 (gz_le hH hL104)) rfl ?_
   refine S_alloc zr84 rfl rfl hL104 ?_
   intro w111 b111 hL111 hle111 _
   replace hf104_0 := hf104_0.mono (gz_mono hH hle111)
   replace hel102 := hel102.mono (gz_mono hH hle111)
   replace hp109 := hp109.mono (gz_mono hH hle111)
   refine S_storeBN 0 rfl rfl rfl zr84 hL111 rfl rfl (onc rfl (onc rfl (onc rfl (onc rfl on0)))) ?_
   intro w112 hL112 hle112
   replace hf104_0 := hf104_0.mono (gz_mono hH hle112)
   replace hel102 := hel102.mono (gz_mono hH hle112)
   replace hp109 := hp109.mono (gz_mono hH hle112)
   refine S_seqnil ?_
   refine W_p 1 rfl ?_
   refine S_v (r_loadBN 0 rfl underlying84 rfl zr84 hL112 rfl) rfl ?_
   refine S_lookF (k := ((x74.getD s15_103.toNat default).1, (x74.getD s15_103.toNat default).2.1, (x74.getD s15_103.toNat default).2.2.1, (x74.getD s15_103.toNat default).2.2.2)) rfl rfl underlying92 key84 zeroValue52 h1_0 (hH.trans hL112.arg) rfl ?_
   intro u113 hv113
   obtain ⟨x114, hb114, h⟩ := Go.L.bind_some h
   refine S_callL rfl rfl hL112 (slices_Clone_int_int_ok _ _ (gz_le hH hL112) (hv113.mono (gz_left hH)) hb114) ?_
   rintro u115_0 w115 ⟨_, rfl, hR115_0⟩ hx115 hL115 hle115
   obtain ⟨xs115, hL115, hle115, he115⟩ := hR115_0.take hH hL112 hx115
   replace hf104_0 := hf104_0.mono (gz_mono hH hle115)
   replace hel102 := hel102.mono (gz_mono hH hle115)
   refine S_pz 1 rfl ?_
   have hG116 := hL115.rG H
   refine W_p 1 rfl ?_
   obtain ⟨hk118, h⟩ := Go.L.chk_some h
   refine S_sortI (i := 0) Tryz.laySI rfl ⟨Tryz.f99, _, func99, rfl, rfl⟩ rfl rfl hH hL115 rfl (he115.mono hG116) hk118 ?_
   intro w117 xs117 hL117 hle117 he117
   replace hG116 := hG116.trans (gz_mono hH hle117)
   refine S_seqnil ?_
   refine W_naiveI (fun z0 z => Le (gz H w z0 [.row (u115_0) 3 1 ((srtI x114)).length (xs117), .box b111 [.string ⟨((x74.getD s15_103.toNat default).1).toArray⟩, .int .i64 ((x74.getD s15_103.toNat default).2.1), .int .i64 ((x74.getD s15_103.toNat default).2.2.1), .string ⟨((x74.getD s15_103.toNat default).2.2.2).toArray⟩] 84, .row (vl102) 96 5 (l102).length (xsl102), .box b3 [.int .i64 a0, vl102] 47, .box b2 [.int .i64 (0 : Int), .int .i64 (0 : Int)] 23, .box b1 [.int .i64 (0 : Int), .slice none 0 0] 47]) (hp z) ∧ z.heap[b111]? = some (.cells [.string ⟨((x74.getD s15_103.toNat default).1).toArray⟩, .int .i64 ((x74.getD s15_103.toNat default).2.1), .int .i64 ((x74.getD s15_103.toNat default).2.2.1), .string ⟨((x74.getD s15_103.toNat default).2.2.2).toArray⟩].toArray 84 (0, 0)) ∧ z.heap[b2]? = some (.cells [.int .i64 (0 : Int), .int .i64 (0 : Int)].toArray 23 (0, 0)) ∧ z.heap[b1]? = some (.cells [.int .i64 (0 : Int), .slice none 0 0].toArray 47 (0, 0))) mixed rfl (fun w119 hx119 => ?_)
   have hL120 := hL117.call hx119
   have hle120 := fz_ext hL117 hx119
   replace he117 := he117.mono (gz_mono hH hle120)
   replace hG116 := hG116.trans (gz_mono hH hle120)
   have hG121 := hL120.rG H
   refine NI_hoist 0 (np_block (np_seq (np_loop (np_block (np_cut np_body))))) ⟨hG121.trans (gz_le hH hL120), hL120.at (i := 1) rfl, hL120.at (i := 4) rfl, hL120.at (i := 5) rfl⟩ (by kernel_rfl) rfl (fun _ _ => r_field rfl underlying47 rfl zr45 (by decide)) rfl ?_
   refine NI_hoist 2 (np_block (np_seq (np_loop (np_block (np_cut np_body))))) ⟨hG121.trans (gz_le hH hL120), hL120.at (i := 1) rfl, hL120.at (i := 4) rfl, hL120.at (i := 5) rfl⟩ (by kernel_rfl) rfl (fun _ hI => r_loadHN rfl underlying84 rfl zr84 hI.2.1) rfl ?_
   refine NI_hoist 3 (np_block (np_seq (np_loop (np_block (np_cut np_body))))) ⟨hG121.trans (gz_le hH hL120), hL120.at (i := 1) rfl, hL120.at (i := 4) rfl, hL120.at (i := 5) rfl⟩ (by kernel_rfl) rfl (fun _ _ => RunsAt_pu rfl) rfl ?_
   refine NI2 (i := 1) (j := 4) (by kernel_rfl) rfl rfl ?_ ?_
   ·refine S_v (r_loadB1 3 rfl underlying45 rfl hL120 rfl rfl) rfl ?_
    refine NI_nil ⟨hG121.trans (gz_le hH hL120), hL120.at (i := 1) rfl, hL120.at (i := 4) rfl, hL120.at (i := 5) rfl⟩ ?_
    refine NI1 (i := 4) (by kernel_rfl) rfl ?_
    obtain ⟨hk123, h⟩ := Go.L.chk_some h
    refine S_compI (i := 0) Tryz.layCI rfl ⟨Tryz.f100, _, func100, rfl, rfl⟩ rfl rfl hH hL120 rfl (he117.mono hG121) hk123 ?_
    intro v122 w122 xs122 hL122 hle122 he122
    replace hG121 := hG121.trans (gz_mono hH hle122)
    refine NI_nil ⟨hG121.trans (gz_le hH hL122), hL122.at (i := 1) rfl, hL122.at (i := 4) rfl, hL122.at (i := 5) rfl⟩ ?_
    refine NI_hoist 5 (np_block (np_seq (np_loop (np_block (np_cut np_body))))) ⟨hG121.trans (gz_le hH hL122), hL122.at (i := 1) rfl, hL122.at (i := 4) rfl, hL122.at (i := 5) rfl⟩ (by kernel_rfl) rfl (fun _ _ => r_build rfl (fun _ => bld96_0_1 _ _ _ _ _ (row_one (hL122.at (i := 0) rfl)) _)) rfl ?_
    refine NI1 (i := 6) (by kernel_rfl) rfl ?_
    have hv125 := hL122.vecG hH (i := 0) rfl he122
    have hL125 := hL122.dropAt (i := 0) rfl
    replace hG121 := hG121.trans (gz_mono hH (fz_dropAt (i := 0) rfl))
    refine S_litE (r := (.pair (.pair .st (.pair (.int .i64) (.pair (.int .i64) .st))) (.vec (.int .i64)))) (l := [(((x74.getD s15_103.toNat default).1, (x74.getD s15_103.toNat default).2.1, (x74.getD s15_103.toNat default).2.2.1, (x74.getD s15_103.toNat default).2.2.2), (Lib.compact (srtI x114)))]) rfl (fun _ => bsl45_1 _ _ _ _ _ _) rfl (show 1 ≤ 9223372036854775807 by decide) hH hL125 (.c5 ⟨_, _, rfl, ⟨_, _, rfl, rfl, ⟨_, _, rfl, rfl, ⟨_, _, rfl, rfl, rfl⟩⟩⟩, ⟨_, rfl, hv125⟩⟩ .nil) ?_
    intro v124 w124 hx124 hL124 hle124 hv124
    replace hv125 := hv125.mono (gz_mono hH hle124)
    replace hG121 := hG121.trans (gz_mono hH hle124)
    refine NI_nil ⟨hG121.trans (gz_le hH hL124), hL124.at (i := 0) rfl, hL124.at (i := 3) rfl, hL124.at (i := 4) rfl⟩ ?_
    refine NI1 (i := 7) (by kernel_rfl) rfl ?_
    obtain ⟨hk127, h⟩ := Go.L.chk_some h
    refine S_appE (r := (.pair (.pair .st (.pair (.int .i64) (.pair (.int .i64) .st))) (.vec (.int .i64)))) (l := l102) (m := [(((x74.getD s15_103.toNat default).1, (x74.getD s15_103.toNat default).2.1, (x74.getD s15_103.toNat default).2.2.1, (x74.getD s15_103.toNat default).2.2.2), (Lib.compact (srtI x114)))]) 1 rfl rfl underlying45 zr96 rfl (by decide) rfl hH hL124 rfl ((hel102.mono hG116).mono hG121) hv124 hk127 ?_
    intro v126 w126 xs126 hL126 hle126 he126
    replace hv125 := hv125.mono (gz_mono hH hle126)
    replace hv124 := hv124.mono (gz_mono hH hle126)
    replace hG121 := hG121.trans (gz_mono hH hle126)
    refine NI_nil ⟨hG121.trans (gz_le hH hL126), hL126.at (i := 0) rfl, hL126.at (i := 3) rfl, hL126.at (i := 4) rfl⟩ ?_
    refine NI_hoist 8 (np_block (np_seq (np_loop (np_block (np_cut np_body))))) ⟨hG121.trans (gz_le hH hL126), hL126.at (i := 0) rfl, hL126.at (i := 3) rfl, hL126.at (i := 4) rfl⟩ (by kernel_rfl) rfl (fun _ _ => r_field rfl underlying47 rfl zr45 (by decide)) rfl ?_
    refine NI1 (i := 9) (by kernel_rfl) rfl ?_
    refine S_storeB1 2 rfl rfl (row_one (hL126.at (i := 1) rfl)) zr45 hL126 rfl rfl ?_
    intro w128 hL128 hle128
    replace hv125 := hv125.mono (gz_mono hH hle128)
    replace hv124 := hv124.mono (gz_mono hH hle128)
    replace he126 := he126.mono (gz_mono hH hle128)
    replace hG121 := hG121.trans (gz_mono hH hle128)
    refine NI_last (by kernel_rfl) ?_
    refine NI_end (by kernel_rfl) ?_
    refine At_block ?_
    refine At_seq ?_
    refine W_region ?_
    obtain ⟨hk129, h⟩ := Go.L.chk_some h
    refine S_v (r_ar64 rfl rfl rfl hk129) rfl ?_
    refine S_pu 1 rfl ?_
    refine S_nil ?_
    have hL130 := hL128.dropAt (i := 0) rfl
    replace he126 := he126.mono (gz_mono hH (fz_dropAt (i := 0) rfl))
    replace hG121 := hG121.trans (gz_mono hH (fz_dropAt (i := 0) rfl))
    have h := Go.L.Nxt.again h hm104
    refine At_round ((l102 ++ [(((x74.getD s15_103.toNat default).1, (x74.getD s15_103.toNat default).2.1, (x74.getD s15_103.toNat default).2.2.1, (x74.getD s15_103.toNat default).2.2.2), (Lib.compact (srtI x114)))]), (s15_103 + (1 : Int)), v126, xs126, n104) (.cons rfl (.cons rfl (.cons rfl (.cons rfl (.cons rfl (.cons rfl (.cons rfl (Sub.nil _)))))))) ⟨hL130, ((hf104_0.mono hG116).mono hG121), he126, h⟩ (Nat.lt_succ_self _)
   ·obtain ⟨hk123, h⟩ := Go.L.chk_some h
    obtain ⟨hk127, h⟩ := Go.L.chk_some h
    obtain ⟨hk129, h⟩ := Go.L.chk_some h
    refine S_compI (i := 0) Tryz.layCI rfl ⟨Tryz.f100, _, func100, rfl, rfl⟩ rfl rfl hH hL120 rfl (he117.mono hG121) hk123 ?_
    intro v131 w131 xs131 hL131 hle131 he131
    replace hG121 := hG121.trans (gz_mono hH hle131)
    refine NI_nil ⟨hG121.trans (gz_le hH hL131), hL131.at (i := 1) rfl, hL131.at (i := 4) rfl, hL131.at (i := 5) rfl⟩ ?_
    refine NI_hoist 5 (np_block (np_seq (np_loop (np_block (np_cut np_body))))) ⟨hG121.trans (gz_le hH hL131), hL131.at (i := 1) rfl, hL131.at (i := 4) rfl, hL131.at (i := 5) rfl⟩ (by kernel_rfl) rfl (fun _ _ => r_build rfl (fun _ => bld96_0_1 _ _ _ _ _ (row_one (hL131.at (i := 0) rfl)) _)) rfl ?_
    refine NI2 (i := 1) (j := 6) (by kernel_rfl) rfl rfl ?_ ?_
    ·refine S_v (r_loadB1 3 rfl underlying45 rfl hL131 rfl rfl) rfl ?_
     refine NI_nil ⟨hG121.trans (gz_le hH hL131), hL131.at (i := 1) rfl, hL131.at (i := 4) rfl, hL131.at (i := 5) rfl⟩ ?_
     refine NI1 (i := 6) (by kernel_rfl) rfl ?_
     have hv133 := hL131.vecG hH (i := 0) rfl he131
     have hL133 := hL131.dropAt (i := 0) rfl
     replace hG121 := hG121.trans (gz_mono hH (fz_dropAt (i := 0) rfl))
     refine S_litE (r := (.pair (.pair .st (.pair (.int .i64) (.pair (.int .i64) .st))) (.vec (.int .i64)))) (l := [(((x74.getD s15_103.toNat default).1, (x74.getD s15_103.toNat default).2.1, (x74.getD s15_103.toNat default).2.2.1, (x74.getD s15_103.toNat default).2.2.2), (Lib.compact (srtI x114)))]) rfl (fun _ => bsl45_1 _ _ _ _ _ _) rfl (show 1 ≤ 9223372036854775807 by decide) hH hL133 (.c5 ⟨_, _, rfl, ⟨_, _, rfl, rfl, ⟨_, _, rfl, rfl, ⟨_, _, rfl, rfl, rfl⟩⟩⟩, ⟨_, rfl, hv133⟩⟩ .nil) ?_
     intro v132 w132 hx132 hL132 hle132 hv132
     replace hv133 := hv133.mono (gz_mono hH hle132)
     replace hG121 := hG121.trans (gz_mono hH hle132)
     refine NI_nil ⟨hG121.trans (gz_le hH hL132), hL132.at (i := 0) rfl, hL132.at (i := 3) rfl, hL132.at (i := 4) rfl⟩ ?_
     refine NI1 (i := 7) (by kernel_rfl) rfl ?_
     refine S_appE (r := (.pair (.pair .st (.pair (.int .i64) (.pair (.int .i64) .st))) (.vec (.int .i64)))) (l := l102) (m := [(((x74.getD s15_103.toNat default).1, (x74.getD s15_103.toNat default).2.1, (x74.getD s15_103.toNat default).2.2.1, (x74.getD s15_103.toNat default).2.2.2), (Lib.compact (srtI x114)))]) 1 rfl rfl underlying45 zr96 rfl (by decide) rfl hH hL132 rfl ((hel102.mono hG116).mono hG121) hv132 hk127 ?_
     intro v134 w134 xs134 hL134 hle134 he134
     replace hv133 := hv133.mono (gz_mono hH hle134)
     replace hv132 := hv132.mono (gz_mono hH hle134)
     replace hG121 := hG121.trans (gz_mono hH hle134)
     refine NI_nil ⟨hG121.trans (gz_le hH hL134), hL134.at (i := 0) rfl, hL134.at (i := 3) rfl, hL134.at (i := 4) rfl⟩ ?_
     refine NI_hoist 8 (np_block (np_seq (np_loop (np_block (np_cut np_body))))) ⟨hG121.trans (gz_le hH hL134), hL134.at (i := 0) rfl, hL134.at (i := 3) rfl, hL134.at (i := 4) rfl⟩ (by kernel_rfl) rfl (fun _ _ => r_field rfl underlying47 rfl zr45 (by decide)) rfl ?_
     refine NI1 (i := 9) (by kernel_rfl) rfl ?_
     refine S_storeB1 2 rfl rfl (row_one (hL134.at (i := 1) rfl)) zr45 hL134 rfl rfl ?_
     intro w135 hL135 hle135
     replace hv133 := hv133.mono (gz_mono hH hle135)
     replace hv132 := hv132.mono (gz_mono hH hle135)
     replace he134 := he134.mono (gz_mono hH hle135)
     replace hG121 := hG121.trans (gz_mono hH hle135)
     refine NI_last (by kernel_rfl) ?_
     refine NI_end (by kernel_rfl) ?_
     refine At_block ?_
     refine At_seq ?_
     refine W_region ?_
     refine S_v (r_ar64 rfl rfl rfl hk129) rfl ?_
     refine S_pu 1 rfl ?_
     refine S_nil ?_
     have hL136 := hL135.dropAt (i := 0) rfl
     replace he134 := he134.mono (gz_mono hH (fz_dropAt (i := 0) rfl))
     replace hG121 := hG121.trans (gz_mono hH (fz_dropAt (i := 0) rfl))
     have h := Go.L.Nxt.again h hm104
     refine At_round ((l102 ++ [(((x74.getD s15_103.toNat default).1, (x74.getD s15_103.toNat default).2.1, (x74.getD s15_103.toNat default).2.2.1, (x74.getD s15_103.toNat default).2.2.2), (Lib.compact (srtI x114)))]), (s15_103 + (1 : Int)), v134, xs134, n104) (.cons rfl (.cons rfl (.cons rfl (.cons rfl (.cons rfl (.cons rfl (.cons rfl (Sub.nil _)))))))) ⟨hL136, ((hf104_0.mono hG116).mono hG121), he134, h⟩ (Nat.lt_succ_self _)
    ·have hv138 := hL131.vecG hH (i := 0) rfl he131
     have hL138 := hL131.dropAt (i := 0) rfl
     replace hG121 := hG121.trans (gz_mono hH (fz_dropAt (i := 0) rfl))
     refine S_litE (r := (.pair (.pair .st (.pair (.int .i64) (.pair (.int .i64) .st))) (.vec (.int .i64)))) (l := [(((x74.getD s15_103.toNat default).1, (x74.getD s15_103.toNat default).2.1, (x74.getD s15_103.toNat default).2.2.1, (x74.getD s15_103.toNat default).2.2.2), (Lib.compact (srtI x114)))]) rfl (fun _ => bsl45_1 _ _ _ _ _ _) rfl (show 1 ≤ 9223372036854775807 by decide) hH hL138 (.c5 ⟨_, _, rfl, ⟨_, _, rfl, rfl, ⟨_, _, rfl, rfl, ⟨_, _, rfl, rfl, rfl⟩⟩⟩, ⟨_, rfl, hv138⟩⟩ .nil) ?_
     intro v137 w137 hx137 hL137 hle137 hv137
     replace hv138 := hv138.mono (gz_mono hH hle137)
     replace hG121 := hG121.trans (gz_mono hH hle137)
     refine NI_nil ⟨hG121.trans (gz_le hH hL137), hL137.at (i := 0) rfl, hL137.at (i := 3) rfl, hL137.at (i := 4) rfl⟩ ?_
     refine NI1 (i := 1) (by kernel_rfl) rfl ?_
     refine S_v (r_loadB1 2 rfl underlying45 rfl hL137 rfl rfl) rfl ?_
     refine NI_nil ⟨hG121.trans (gz_le hH hL137), hL137.at (i := 0) rfl, hL137.at (i := 3) rfl, hL137.at (i := 4) rfl⟩ ?_
     refine NI1 (i := 7) (by kernel_rfl) rfl ?_
     refine S_appE (r := (.pair (.pair .st (.pair (.int .i64) (.pair (.int .i64) .st))) (.vec (.int .i64)))) (l := l102) (m := [(((x74.getD s15_103.toNat default).1, (x74.getD s15_103.toNat default).2.1, (x74.getD s15_103.toNat default).2.2.1, (x74.getD s15_103.toNat default).2.2.2), (Lib.compact (srtI x114)))]) 1 rfl rfl underlying45 zr96 rfl (by decide) rfl hH hL137 rfl ((hel102.mono hG116).mono hG121) hv137 hk127 ?_
     intro v139 w139 xs139 hL139 hle139 he139
     replace hv138 := hv138.mono (gz_mono hH hle139)
     replace hv137 := hv137.mono (gz_mono hH hle139)
     replace hG121 := hG121.trans (gz_mono hH hle139)
     refine NI_nil ⟨hG121.trans (gz_le hH hL139), hL139.at (i := 0) rfl, hL139.at (i := 3) rfl, hL139.at (i := 4) rfl⟩ ?_
     refine NI_hoist 8 (np_block (np_seq (np_loop (np_block (np_cut np_body))))) ⟨hG121.trans (gz_le hH hL139), hL139.at (i := 0) rfl, hL139.at (i := 3) rfl, hL139.at (i := 4) rfl⟩ (by kernel_rfl) rfl (fun _ _ => r_field rfl underlying47 rfl zr45 (by decide)) rfl ?_
     refine NI1 (i := 9) (by kernel_rfl) rfl ?_
     refine S_storeB1 2 rfl rfl (row_one (hL139.at (i := 1) rfl)) zr45 hL139 rfl rfl ?_
     intro w140 hL140 hle140
     replace hv138 := hv138.mono (gz_mono hH hle140)
     replace hv137 := hv137.mono (gz_mono hH hle140)
     replace he139 := he139.mono (gz_mono hH hle140)
     replace hG121 := hG121.trans (gz_mono hH hle140)
     refine NI_last (by kernel_rfl) ?_
     refine NI_end (by kernel_rfl) ?_
     refine At_block ?_
     refine At_seq ?_
     refine W_region ?_
     refine S_v (r_ar64 rfl rfl rfl hk129) rfl ?_
     refine S_pu 1 rfl ?_
     refine S_nil ?_
     have hL141 := hL140.dropAt (i := 0) rfl
     replace he139 := he139.mono (gz_mono hH (fz_dropAt (i := 0) rfl))
     replace hG121 := hG121.trans (gz_mono hH (fz_dropAt (i := 0) rfl))
     have h := Go.L.Nxt.again h hm104
     refine At_round ((l102 ++ [(((x74.getD s15_103.toNat default).1, (x74.getD s15_103.toNat default).2.1, (x74.getD s15_103.toNat default).2.2.1, (x74.getD s15_103.toNat default).2.2.2), (Lib.compact (srtI x114)))]), (s15_103 + (1 : Int)), v139, xs139, n104) (.cons rfl (.cons rfl (.cons rfl (.cons rfl (.cons rfl (.cons rfl (.cons rfl (Sub.nil _)))))))) ⟨hL141, ((hf104_0.mono hG116).mono hG121), he139, h⟩ (Nat.lt_succ_self _)
  ·replace h := Go.L.ite_n hc107 h
   refine W_exit ?_
   refine At_seq_exit ?_
   refine At_loop_exit ?_
   replace h := Go.L.Nxt.out h hm104
   refine At_exit ?_
   refine At_cut (l102, vl102, xsl102) (.cons rfl (.cons rfl (.cons rfl (Sub.nil _)))) ⟨hL104, hel102, h⟩
 ·rintro ⟨l71, vl71, xsl71⟩ wr72 ⟨hL72, hel71, h⟩
  refine W_seq ?_
  refine W_seqr ?_
  refine S_v (r_loadBN 1 rfl underlying47 rfl zr47 hL72 rfl) rfl ?_
  obtain ⟨x144, hb144, h⟩ := Go.L.bind_some h
  refine S_callL rfl rfl hL72 (shapes_Index_Bytes_ok (a0 := (a0, l71)) _ _ (Le.refl _) (hL72.vecN hH (i := 0) rfl hel71) hb144) ?_
  rintro u145_0 w145 ⟨_, rfl, hR145_0⟩ hx145 hL145 hle145
  have hv145_0 := (hR145_0.ofPlain plain_byte).vecG hH hL72 hx145
  replace hel71 := hel71.mono (gz_mono hH hle145)
  refine S_v (r_len rfl underlying35 hv145_0) rfl ?_
  refine S_pz 1 rfl ?_
  refine W_if rfl (fun hc146 => ?_) (fun hc146 => ?_)
  ·replace h := Go.L.ite_p hc146 h
   refine W_seqr ?_
   refine S_v (r_build rfl (fun _ => bld47_z _)) rfl ?_
   obtain ⟨x148, hb148, h⟩ := Go.L.bind_some h
   refine S_callL rfl rfl hL145 (shapes_fault_ok _ _ (gz_le hH hL145) hb148) ?_
   rintro _ w149 rfl hx149 hL149 hle149
   replace hel71 := hel71.mono (gz_mono hH hle149)
   refine S_storeBN 3 rfl rfl rfl zr47 hL149 rfl rfl (onc rfl (onc rfl on0)) ?_
   intro w150 hL150 hle150
   replace hel71 := hel71.mono (gz_mono hH hle150)
   refine S_storeBN 2 rfl rfl rfl zr23 hL150 rfl rfl (onc rfl (onc rfl on0)) ?_
   intro w151 hL151 hle151
   replace hel71 := hel71.mono (gz_mono hH hle151)
   refine S_seqnil ?_
   refine W_ret ?_
   refine At_seq_ret ?_
   obtain rfl := Option.some.inj h
   refine At_got2 rfl (.cell rfl underlying47 rfl zr47 (box_ptr (i := 3) hL151 rfl)) (.cell rfl underlying23 rfl zr23 (box_ptr (i := 2) hL151 rfl)) ?_
   exact ⟨hL151.ext, _, rfl, OwnH.nil⟩
  ·replace h := Go.L.ite_n hc146 h
   refine W_skip ?_
   refine At_seq ?_
   refine W_seqr ?_
   refine S_v (r_loadBN 1 rfl underlying47 rfl zr47 hL145 rfl) rfl ?_
   refine S_v (r_build rfl (fun _ => bld23_z _)) rfl ?_
   refine S_storeBN 3 rfl rfl rfl zr47 hL145 rfl rfl (onc rfl (onc (row_one (hL145.at (i := 0) rfl)) on0)) ?_
   intro w153 hL153 hle153
   replace hel71 := hel71.mono (gz_mono hH hle153)
   refine S_storeBN 2 rfl rfl rfl zr23 hL153 rfl rfl (onc rfl (onc rfl on0)) ?_
   intro w154 hL154 hle154
   replace hel71 := hel71.mono (gz_mono hH hle154)
   refine S_seqnil ?_
   refine W_ret ?_
   obtain rfl := Option.some.inj h
   refine At_got2 rfl (.cell rfl underlying47 rfl zr47 (box_ptr (i := 3) hL154 rfl)) (.cell rfl underlying23 rfl zr23 (box_ptr (i := 2) hL154 rfl)) ?_
   exact ⟨hL154.ext, _, rfl, (hL154.ownH hH (i := 0) rfl hel71)⟩
noncomputable def shapes_Build_k1 (a0 : List Go.L.Pv) (l68 : List (((List UInt8) × Int × Int × (List UInt8)) × (List Int))) : Option ((Int × (List (((List UInt8) × Int × Int × (List UInt8)) × (List Int)))) × (Int × Int)) :=
 Option.bind (shapes_build (a0.length : Int) l68) (fun x131 => some ((x131.1.1, x131.1.2), (x131.2.1, x131.2.2)))
noncomputable def shapes_Build_bl2 (a0 : List Go.L.Pv) : (List (((List UInt8) × Int × Int × (List UInt8)) × (List Int))) × Int → Option (((List (((List UInt8) × Int × Int × (List UInt8)) × (List Int))) × Int) ⊕ ((Int × (List (((List UInt8) × Int × Int × (List UInt8)) × (List Int)))) × (Int × Int))) := fun ⟨l97, s16_98⟩ =>
 if s16_98 < (a0.length : Int) then Go.L.chk (0 ≤ s16_98 ∧ s16_98 < (a0.length : Int)) (Option.bind (value_Validate (a0.getD s16_98.toNat default)) (fun x109 => if x109.1 = (0 : Int) ∧ x109.2 = (0 : Int) then Option.bind (shapes_leaves (buildStep s16_98) (a0.getD s16_98.toNat default) ([] : List (List UInt8)) l97) (fun x122 => Go.L.chk (Go.L.I64 (s16_98 + (1 : Int))) (some (Sum.inl (x122, (s16_98 + (1 : Int)))))) else Option.bind (shapes_fault x109.1 s16_98) (fun x115 => Option.map Sum.inr (some (((0 : Int), []), (x115.1, x115.2)))))) else Option.map Sum.inr ((shapes_Build_k1 a0) l97)
noncomputable def shapes_Build_l2 (a0 : List Go.L.Pv) (s : (List (((List UInt8) × Int × Int × (List UInt8)) × (List Int))) × Int) : Option ((Int × (List (((List UInt8) × Int × Int × (List UInt8)) × (List Int)))) × (Int × Int)) := Go.L.run (shapes_Build_bl2 a0) s
noncomputable def shapes_Build (a0 : List Go.L.Pv) : Option ((Int × (List (((List UInt8) × Int × Int × (List UInt8)) × (List Int)))) × (Int × Int)) :=
 if (64 : Int) < (a0.length : Int) then Option.bind (shapes_fault (2 : Int) (-1 : Int)) (fun x5 => some (((0 : Int), []), (x5.1, x5.2))) else (shapes_Build_l2 a0) (([] : List (((List UInt8) × Int × Int × (List UInt8)) × (List Int))), (0 : Int))
theorem shapes_Build_ok (w : World) (H : PH) (hH : Le H (hp w)) {a0 : List Go.L.Pv} {v0_0 : Value} (h0_0 : Vec .tree H v0_0 (a0)) {r : (Int × (List (((List UInt8) × Int × Int × (List UInt8)) × (List Int)))) × (Int × Int)} (h : shapes_Build a0 = some r) :
  Ok Tryz.prog 25 [v0_0] w (fun v w' => Ext w w' ∧ ∃ u0, v = .tuple #[.agg #[.int .i64 r.1.1, u0], .agg #[.int .i64 r.2.1, .int .i64 r.2.2]] ∧ Vec (.pair (.pair .st (.pair (.int .i64) (.pair (.int .i64) .st))) (.vec (.int .i64))) (un H (nw w w')) u0 (r.1.2)) := by
 refine Ok_enter (n := 41) [(0, v0_0)] func25 rfl rfl rfl rfl rfl ?_
 have hL := Lcl.start w
 refine W_seqr ?_
 refine S_alloc zr47 rfl rfl hL ?_
 intro w1 b1 hL1 hle1 _
 refine S_alloc zr23 rfl rfl hL1 ?_
 intro w2 b2 hL2 hle2 _
 refine S_seqnil ?_
 refine W_seq ?_
 refine W_p 1 rfl ?_
 refine S_v (r_len rfl underlying36 h0_0) rfl ?_
 refine S_pz 1 rfl ?_
 refine W_if rfl (fun hc3 => ?_) (fun hc3 => ?_)
 ·replace h := Go.L.ite_p hc3 h
  refine W_seqr ?_
  refine S_v (r_build rfl (fun _ => bld47_z _)) rfl ?_
  obtain ⟨x5, hb5, h⟩ := Go.L.bind_some h
  refine S_callL rfl rfl hL2 (shapes_fault_ok _ _ (gz_le hH hL2) hb5) ?_
  rintro _ w6 rfl hx6 hL6 hle6
  refine S_storeBN 1 rfl rfl rfl zr47 hL6 rfl rfl (onc rfl (onc rfl on0)) ?_
  intro w7 hL7 hle7
  refine S_storeBN 0 rfl rfl rfl zr23 hL7 rfl rfl (onc rfl (onc rfl on0)) ?_
  intro w8 hL8 hle8
  refine S_seqnil ?_
  refine W_ret ?_
  refine At_seq_ret ?_
  obtain rfl := Option.some.inj h
  refine At_got2 rfl (.cell rfl underlying47 rfl zr47 (box_ptr (i := 1) hL8 rfl)) (.cell rfl underlying23 rfl zr23 (box_ptr (i := 0) hL8 rfl)) ?_
  exact ⟨hL8.ext, _, rfl, (Vec.nil _ _)⟩
 ·replace h := Go.L.ite_n hc3 h
  refine W_skip ?_
  refine At_seq ?_
  refine W_seqr ?_
  refine S_makeMap encLf (List Int) rfl hL2 ?_
  intro w10 b10 hL10 hle10
  refine S_alloc zr92 rfl rfl hL10 ?_
  intro w11 b11 hL11 hle11 _
  refine S_storeB1 0 rfl rfl rfl zr92 hL11 rfl rfl ?_
  intro w12 hL12 hle12
  refine S_seqnil ?_
  refine W_cut (σ := (List (((List UInt8) × Int × Int × (List UInt8)) × (List Int))) × (List Value)) (fun ⟨l68, vsl68⟩ => [(0, v0_0), (2, .pointer (some ⟨b1, 0, none⟩)), (3, .pointer (some ⟨b2, 0, none⟩)), (4, .pointer (some ⟨b11, 0, none⟩))]) (fun ⟨l68, vsl68⟩ wr => InO w (HAppend.hAppend ([.box b11 [.map (some b10)] 92, mpR encLf b10 (l68) (vsl68), .box b2 [.int .i64 (0 : Int), .int .i64 (0 : Int)] 23, .box b1 [.int .i64 (0 : Int), .slice none 0 0] 47] : List Res) (mT cwI 3 1 (l68) (vsl68))) wr fun Oz => (l68).length = (vsl68).length ∧ (shapes_Build_k1 a0) l68 = some r) ?_ ?_
  ·refine W_p 1 rfl ?_
   refine S_v (r_len rfl underlying36 h0_0) rfl ?_
   refine S_pz 1 rfl ?_
   refine W_block ?_
   obtain ⟨n99, h⟩ := Go.L.run_some h
   refine W_loop (σ := (List (((List UInt8) × Int × Int × (List UInt8)) × (List Int))) × Int × (List Value) × Nat) (fun ⟨l97, s16_98, vsl97, n⟩ => [(0, v0_0), (2, .pointer (some ⟨b1, 0, none⟩)), (3, .pointer (some ⟨b2, 0, none⟩)), (4, .pointer (some ⟨b11, 0, none⟩)), (14, v0_0), (15, .int .i64 (a0.length : Int)), (16, .int .i64 s16_98)]) (fun ⟨l97, s16_98, vsl97, n⟩ wr => InO w (HAppend.hAppend ([.box b11 [.map (some b10)] 92, mpR encLf b10 (l97) (vsl97), .box b2 [.int .i64 (0 : Int), .int .i64 (0 : Int)] 23, .box b1 [.int .i64 (0 : Int), .slice none 0 0] 47] : List Res) (mT cwI 3 1 (l97) (vsl97))) wr fun Oz => (l97).length = (vsl97).length ∧ Go.L.itr (shapes_Build_bl2 a0) n (l97, s16_98) = some r) (fun ⟨l97, s16_98, vsl97, n⟩ => n) (([] : List (((List UInt8) × Int × Int × (List UInt8)) × (List Int))), (0 : Int), ([] : List Value), n99) (.cons rfl (.cons rfl (.cons rfl (.cons rfl (.cons rfl (.cons rfl (.cons rfl (Sub.nil _)))))))) ⟨hL12, rfl, h⟩ ?_
   rintro ⟨l97, s16_98, vsl97, nn99⟩ wr99 ⟨hL99, hnl97, h⟩
   obtain ⟨n99, e99, rfl, h, hm99⟩ := Go.L.itr_some h
   refine W_pz 1 rfl ?_
   refine W_seq ?_
   refine W_if rfl (fun hc101 => ?_) (fun hc101 => ?_)
   ·replace h := Go.L.ite_p hc101 h
    refine W_skip ?_
    refine At_seq ?_
    refine W_seq ?_
    refine W_block ?_
    refine W_p 1 rfl ?_
    obtain ⟨hk104, h⟩ := Go.L.chk_some h
    refine S_index rfl rfl underlying36 zr38 h0_0 s16_98.toNat (Int.toNat_of_nonneg hk104.1).symm (idx_lt hk104) rfl ?_
    rintro p103 _ e103t0 hp103
    obtain ⟨_, _, rfl, rfl, ⟨_, _, rfl, rfl, ⟨_, _, rfl, ⟨e103v2, rfl, e103h2⟩, ⟨_, _, rfl, ⟨e103v3, rfl, e103h3⟩, ⟨e103v4, rfl, e103h4⟩⟩⟩⟩⟩ := Go.E.Rp.tree_open e103t0
    refine S_v (r_loadN rfl underlying38 rfl zr38 hp103 (hH.trans hL99.arg)) rfl ?_
    refine S_alloc zr3 rfl rfl hL99 ?_
    intro w105 b105 hL105 hle105 _
    refine S_alloc zr38 rfl rfl hL105 ?_
    intro w106 b106 hL106 hle106 _
    refine S_storeB1 1 rfl rfl rfl zr3 hL106 rfl rfl ?_
    intro w107 hL107 hle107
    refine S_storeBN 0 rfl rfl rfl zr38 hL107 rfl rfl (onc rfl (onc rfl (onc e103h2.one (onc e103h3.one (onc e103h4.one on0))))) ?_
    intro w108 hL108 hle108
    refine S_seqnil ?_
    refine W_seq ?_
    refine W_seqr ?_
    refine S_v (r_loadBN 0 rfl underlying38 rfl zr38 hL108 rfl) rfl ?_
    obtain ⟨x109, hb109, h⟩ := Go.L.bind_some h
    refine S_callL rfl rfl hL108 (value_Validate_ok (a0 := (a0.getD s16_98.toNat default)) _ _ (gz_le hH hL108) (e103h2.mono (gz_left hH)) (e103h3.mono (gz_left hH)) (e103h4.mono (gz_left hH)) hb109) ?_
    rintro _ w110 rfl hx110 hL110 hle110
    refine S_alloc zr23 rfl rfl hL110 ?_
    intro w111 b111 hL111 hle111 _
    refine S_storeBN 0 rfl rfl rfl zr23 hL111 rfl rfl (onc rfl (onc rfl on0)) ?_
    intro w112 hL112 hle112
    refine S_seqnil ?_
    refine W_seqr ?_
    refine S_v (r_loadBN 0 rfl underlying23 rfl zr23 hL112 rfl) rfl ?_
    refine S_v (r_build rfl (fun _ => bld23_z _)) rfl ?_
    refine S_v (r_neA rfl rfl eqg23 (eq23 _ _ _ _ )) rfl ?_
    refine S_seqnil ?_
    refine W_ifn rfl (fun hc113 => ?_) (fun hc113 => ?_)
    ·replace h := Go.L.ite_n hc113 h
     refine W_seqr ?_
     refine S_v (r_build rfl (fun _ => bld47_z _)) rfl ?_
     refine S_v (r_field rfl underlying23 rfl zr3 (by decide)) rfl ?_
     refine S_v (r_loadB1 0 rfl underlying3 rfl hL112 rfl rfl) rfl ?_
     refine S_v (r_loadB1 2 rfl underlying3 rfl hL112 rfl rfl) rfl ?_
     obtain ⟨x115, hb115, h⟩ := Go.L.bind_some h
     refine S_callL rfl rfl hL112 (shapes_fault_ok _ _ (gz_le hH hL112) hb115) ?_
     rintro _ w116 rfl hx116 hL116 hle116
     refine S_storeBN 6 rfl rfl rfl zr47 hL116 rfl rfl (onc rfl (onc rfl on0)) ?_
     intro w117 hL117 hle117
     refine S_storeBN 5 rfl rfl rfl zr23 hL117 rfl rfl (onc rfl (onc rfl on0)) ?_
     intro w118 hL118 hle118
     refine S_seqnil ?_
     refine W_ret ?_
     refine At_seq_ret ?_
     refine At_block_ret ?_
     refine At_seq_ret ?_
     refine At_loop_ret ?_
     replace h := Go.L.Nxt.out h hm99
     refine At_block_ret ?_
     refine At_cut_ret ?_
     obtain rfl := Option.some.inj h
     refine At_got2 rfl (.cell rfl underlying47 rfl zr47 (box_ptr (i := 6) hL118 rfl)) (.cell rfl underlying23 rfl zr23 (box_ptr (i := 5) hL118 rfl)) ?_
     exact ⟨hL118.ext, _, rfl, (Vec.nil _ _)⟩
    ·replace h := Go.L.ite_p hc113 h
     refine W_skip ?_
     refine At_seq ?_
     refine W_region ?_
     refine S_v (r_loadBN 1 rfl underlying38 rfl zr38 hL112 rfl) rfl ?_
     refine S_pu 1 rfl ?_
     have hL120 : Lcl w (HAppend.hAppend ([.box b105 [.int .i64 s16_98] 3, mpR encLf b10 (l97) (vsl97), .box b111 [.int .i64 x109.1, .int .i64 x109.2] 23, .box b106 [.int .i64 ((a0.getD s16_98.toNat default).f.1), .int .i64 ((a0.getD s16_98.toNat default).f.2.1), e103v2, e103v3, e103v4] 38, .box b11 [.map (some b10)] 92, .box b2 [.int .i64 (0 : Int), .int .i64 (0 : Int)] 23, .box b1 [.int .i64 (0 : Int), .slice none 0 0] 47] : List Res) (mT cwI 3 1 (l97) (vsl97))) w112 := hL112.picks [4, 3] rfl
     have hle120 := fz_picks [4, 3] hL112 hL120 rfl
     have hL121 : Lcl w (HAppend.hAppend ([.box b11 [.map (some b10)] 92, .box b105 [.int .i64 s16_98] 3, mpR encLf b10 (l97) (vsl97), .box b111 [.int .i64 x109.1, .int .i64 x109.2] 23, .box b106 [.int .i64 ((a0.getD s16_98.toNat default).f.1), .int .i64 ((a0.getD s16_98.toNat default).f.2.1), e103v2, e103v3, e103v4] 38, .box b2 [.int .i64 (0 : Int), .int .i64 (0 : Int)] 23, .box b1 [.int .i64 (0 : Int), .slice none 0 0] 47] : List Res) (mT cwI 3 1 (l97) (vsl97))) w112 := hL120.picks [4] rfl
     have hle121 := fz_picks [4] hL120 hL121 rfl
     obtain ⟨x122, hb122, h⟩ := Go.L.bind_some h
     refine S_call rfl rfl (leaves_build hH (O := [.box b111 [.int .i64 x109.1, .int .i64 x109.2] 23, .box b106 [.int .i64 ((a0.getD s16_98.toNat default).f.1), .int .i64 ((a0.getD s16_98.toNat default).f.2.1), e103v2, e103v3, e103v4] 38, .box b2 [.int .i64 (0 : Int), .int .i64 (0 : Int)] 23, .box b1 [.int .i64 (0 : Int), .slice none 0 0] 47]) (i := s16_98) (l := l97) (vs := vsl97) (a0 := (a0.getD s16_98.toNat default)) (a1 := ([] : List (List UInt8))) hL121 (e103h2.mono (gz_left hH)) (e103h3.mono (gz_left hH)) (e103h4.mono (gz_left hH)) (Vec.nil _ _) hnl97 hb122) ?_
     rintro _ w123 ⟨rfl, vs123, hn123, hL123, hle123⟩
     refine S_nil ?_
     refine At_block ?_
     refine At_seq ?_
     refine W_region ?_
     obtain ⟨hk124, h⟩ := Go.L.chk_some h
     refine S_v (r_ar64 rfl rfl rfl hk124) rfl ?_
     refine S_pu 1 rfl ?_
     refine S_nil ?_
     have hL125 := hL123.dropAt (i := 1) rfl
     have hL126 := hL125.dropAt (i := 2) rfl
     have hL127 := hL126.dropAt (i := 2) rfl
     have h := Go.L.Nxt.again h hm99
     refine At_round (x122, (s16_98 + (1 : Int)), vs123, n99) (.cons rfl (.cons rfl (.cons rfl (.cons rfl (.cons rfl (.cons rfl (.cons rfl (Sub.nil _)))))))) ⟨hL127, hn123, h⟩ (Nat.lt_succ_self _)
   ·replace h := Go.L.ite_n hc101 h
    refine W_exit ?_
    refine At_seq_exit ?_
    refine At_loop_exit ?_
    replace h := Go.L.Nxt.out h hm99
    refine At_exit ?_
    refine At_cut (l97, vsl97) (.cons rfl (.cons rfl (.cons rfl (.cons rfl (Sub.nil _))))) ⟨hL99, hnl97, h⟩
  ·rintro ⟨l68, vsl68⟩ wr69 ⟨hL69, hnl68, h⟩
   refine W_p 1 rfl ?_
   refine S_v (r_len rfl underlying36 h0_0) rfl ?_
   refine S_v (r_loadB1 0 rfl underlying92 rfl hL69 rfl rfl) rfl ?_
   obtain ⟨hL130, hle130, hv130⟩ := map_pub (A := [.box b11 [.map (some b10)] 92, mpR encLf b10 (l68) (vsl68), .box b2 [.int .i64 (0 : Int), .int .i64 (0 : Int)] 23, .box b1 [.int .i64 (0 : Int), .slice none 0 0] 47]) (l := l68) (vs := vsl68) (e := 3) (r := (.int .i64)) 1 rfl rel_I hH hnl68 hL69 rfl
   obtain ⟨x131, hb131, h⟩ := Go.L.bind_some h
   refine S_callL rfl rfl hL130 (shapes_build_ok _ _ (gz_le hH hL130) hv130 hb131) ?_
   rintro _ w132 ⟨u132_0, rfl, hR132_0⟩ hx132 hL132 hle132
   have hv132_0 := hR132_0.vecG hH hL130 hx132
   replace hv130 := hv130.mono (gz_mono hH hle132)
   refine S_pu 2 rfl ?_
   refine S_storeBN 2 rfl rfl rfl zr47 hL132 rfl rfl (onc rfl (onc hv132_0.one on0)) ?_
   intro w133 hL133 hle133
   replace hv130 := hv130.mono (gz_mono hH hle133)
   replace hv132_0 := hv132_0.mono (gz_mono hH hle133)
   refine S_storeBN 1 rfl rfl rfl zr23 hL133 rfl rfl (onc rfl (onc rfl on0)) ?_
   intro w134 hL134 hle134
   replace hv130 := hv130.mono (gz_mono hH hle134)
   replace hv132_0 := hv132_0.mono (gz_mono hH hle134)
   refine S_seqnil ?_
   refine W_ret ?_
   obtain rfl := Option.some.inj h
   refine At_got2 rfl (.cell rfl underlying47 rfl zr47 (box_ptr (i := 2) hL134 rfl)) (.cell rfl underlying23 rfl zr23 (box_ptr (i := 1) hL134 rfl)) ?_
   exact ⟨hL134.ext, _, rfl, (hv132_0.mono (gz_res hH))⟩
end Go.Proofs.YtmfiaecglndldaaGreatDoor
end
section
namespace Go.Proofs.YtmfiaecglndldaaGreatDoor
open Go Go.E Go.RowKit
set_option maxHeartbeats 1000000
set_option maxRecDepth 10000
open _root_.Go.Proofs.Tryz
noncomputable def bytes_Equal (a0 : List UInt8) (a1 : List UInt8) : Option (Bool) :=
 some (decide (a0 = a1))
theorem bytes_Equal_ok (w : World) (H : PH) (hH : Le H (hp w)) {a0 : List UInt8} {a1 : List UInt8} {v0_0 : Value} {v1_0 : Value} (h0_0 : Vec .byte H v0_0 (a0)) (h1_0 : Vec .byte H v1_0 (a1)) {r : Bool} (h : bytes_Equal a0 a1 = some r) :
  Ok Tryz.prog 73 [v0_0, v1_0] w (fun v w' => Ext w w' ∧ v = .bool r) := by
 refine Ok_enter (n := 10) [(0, v0_0), (1, v1_0)] func73 rfl rfl rfl rfl rfl ?_
 have hL := Lcl.start w
 refine W_pz 1 rfl ?_
 refine W_p 1 rfl ?_
 refine S_v (r_str rfl underlying35 underlying5 underlying9 h0_0 (hH.trans hL.arg)) rfl ?_
 refine S_pu 1 rfl ?_
 refine S_v (r_str rfl underlying35 underlying5 underlying9 h1_0 (hH.trans hL.arg)) rfl ?_
 refine S_v (r_seq rfl rfl) rfl ?_
 refine S_pz 1 rfl ?_
 refine W_ret ?_
 obtain rfl := Option.some.inj h
 refine At_body rfl rfl ?_
 exact ⟨hL.ext, rfl⟩
noncomputable def wire_ReadNumber_k1 (a1 : Int) : Option (Int × Int × (Int × Int)) :=
 Option.bind (wire_fault (1 : Int) a1) (fun x219 => some ((0 : Int), (0 : Int), (x219.1, x219.2)))
noncomputable def wire_ReadNumber_bl2 (a0 : List UInt8) (a1 : Int) : Int × Int → Option ((Int × Int) ⊕ (Int × Int × (Int × Int))) := fun ⟨s7_166, s19_167⟩ =>
 if s19_167 < (10 : Int) then Go.L.chk (Go.L.I64 (a1 + s19_167)) (if (a1 + s19_167) = (a0.length : Int) then Option.bind (wire_fault (15 : Int) a1) (fun x175 => Option.map Sum.inr (some ((0 : Int), (0 : Int), (x175.1, x175.2)))) else Go.L.chk (Go.L.I64 (a1 + s19_167)) (Go.L.chk (0 ≤ (a1 + s19_167) ∧ (a1 + s19_167) < (a0.length : Int)) (if (s19_167 = (9 : Int)) ∧ (1 < ((a0.getD ((a1 + s19_167).toNat) default).toNat : Int)) then Option.map Sum.inr ((wire_ReadNumber_k1 a1)) else if (0 : Int) < s19_167 then if ((a0.getD ((a1 + s19_167).toNat) default).toNat : Int) = 0 then Option.map Sum.inr ((wire_ReadNumber_k1 a1)) else Go.L.chk (Go.L.I64 ((7 : Int) * s19_167)) (Go.L.chk (0 ≤ ((7 : Int) * s19_167) ∧ ((7 : Int) * s19_167) ≤ 63) (Go.L.chk ((0 ≤ s7_166 ∧ s7_166 < 2 ^ 64) ∧ (0 ≤ (IntKind.u64.wrap ((IntKind.u64.wrap ((a0.getD ((a1 + s19_167).toNat) default &&& (127 : UInt8)).toNat : Int)) * 2 ^ ((7 : Int) * s19_167).toNat)) ∧ (IntKind.u64.wrap ((IntKind.u64.wrap ((a0.getD ((a1 + s19_167).toNat) default &&& (127 : UInt8)).toNat : Int)) * 2 ^ ((7 : Int) * s19_167).toNat)) < 2 ^ 64)) (if ((a0.getD ((a1 + s19_167).toNat) default).toNat : Int) < 128 then Go.L.chk ((0 ≤ ((s7_166.toNat ||| (IntKind.u64.wrap ((IntKind.u64.wrap ((a0.getD ((a1 + s19_167).toNat) default &&& (127 : UInt8)).toNat : Int)) * 2 ^ ((7 : Int) * s19_167).toNat)).toNat : Nat) : Int) ∧ ((s7_166.toNat ||| (IntKind.u64.wrap ((IntKind.u64.wrap ((a0.getD ((a1 + s19_167).toNat) default &&& (127 : UInt8)).toNat : Int)) * 2 ^ ((7 : Int) * s19_167).toNat)).toNat : Nat) : Int) < 2 ^ 64) ∧ (0 ≤ (1 : Int) ∧ (1 : Int) < 2 ^ 64)) (Go.L.chk (Go.L.I64 (-(IntKind.i64.wrap ((((s7_166.toNat ||| (IntKind.u64.wrap ((IntKind.u64.wrap ((a0.getD ((a1 + s19_167).toNat) default &&& (127 : UInt8)).toNat : Int)) * 2 ^ ((7 : Int) * s19_167).toNat)).toNat : Nat) : Int).toNat &&& (1 : Int).toNat : Nat) : Int)))) (Go.L.chk ((0 ≤ (IntKind.i64.wrap (((s7_166.toNat ||| (IntKind.u64.wrap ((IntKind.u64.wrap ((a0.getD ((a1 + s19_167).toNat) default &&& (127 : UInt8)).toNat : Int)) * 2 ^ ((7 : Int) * s19_167).toNat)).toNat : Nat) : Int) / 2)) ∧ (IntKind.i64.wrap (((s7_166.toNat ||| (IntKind.u64.wrap ((IntKind.u64.wrap ((a0.getD ((a1 + s19_167).toNat) default &&& (127 : UInt8)).toNat : Int)) * 2 ^ ((7 : Int) * s19_167).toNat)).toNat : Nat) : Int) / 2)) < 2 ^ 63) ∧ (0 ≤ (-(IntKind.i64.wrap ((((s7_166.toNat ||| (IntKind.u64.wrap ((IntKind.u64.wrap ((a0.getD ((a1 + s19_167).toNat) default &&& (127 : UInt8)).toNat : Int)) * 2 ^ ((7 : Int) * s19_167).toNat)).toNat : Nat) : Int).toNat &&& (1 : Int).toNat : Nat) : Int))) ∧ (-(IntKind.i64.wrap ((((s7_166.toNat ||| (IntKind.u64.wrap ((IntKind.u64.wrap ((a0.getD ((a1 + s19_167).toNat) default &&& (127 : UInt8)).toNat : Int)) * 2 ^ ((7 : Int) * s19_167).toNat)).toNat : Nat) : Int).toNat &&& (1 : Int).toNat : Nat) : Int))) < 2 ^ 63)) (Go.L.chk (Go.L.I64 (a1 + s19_167)) (Go.L.chk (Go.L.I64 ((a1 + s19_167) + (1 : Int))) (Option.map Sum.inr (some ((((IntKind.i64.wrap (((s7_166.toNat ||| (IntKind.u64.wrap ((IntKind.u64.wrap ((a0.getD ((a1 + s19_167).toNat) default &&& (127 : UInt8)).toNat : Int)) * 2 ^ ((7 : Int) * s19_167).toNat)).toNat : Nat) : Int) / 2)).toNat ^^^ (-(IntKind.i64.wrap ((((s7_166.toNat ||| (IntKind.u64.wrap ((IntKind.u64.wrap ((a0.getD ((a1 + s19_167).toNat) default &&& (127 : UInt8)).toNat : Int)) * 2 ^ ((7 : Int) * s19_167).toNat)).toNat : Nat) : Int).toNat &&& (1 : Int).toNat : Nat) : Int))).toNat : Nat) : Int), ((a1 + s19_167) + (1 : Int)), ((0 : Int), (0 : Int))))))))) else Go.L.chk (Go.L.I64 (s19_167 + (1 : Int))) (some (Sum.inl (((s7_166.toNat ||| (IntKind.u64.wrap ((IntKind.u64.wrap ((a0.getD ((a1 + s19_167).toNat) default &&& (127 : UInt8)).toNat : Int)) * 2 ^ ((7 : Int) * s19_167).toNat)).toNat : Nat) : Int), (s19_167 + (1 : Int)))))))) else Go.L.chk (Go.L.I64 ((7 : Int) * s19_167)) (Go.L.chk (0 ≤ ((7 : Int) * s19_167) ∧ ((7 : Int) * s19_167) ≤ 63) (Go.L.chk ((0 ≤ s7_166 ∧ s7_166 < 2 ^ 64) ∧ (0 ≤ (IntKind.u64.wrap ((IntKind.u64.wrap ((a0.getD ((a1 + s19_167).toNat) default &&& (127 : UInt8)).toNat : Int)) * 2 ^ ((7 : Int) * s19_167).toNat)) ∧ (IntKind.u64.wrap ((IntKind.u64.wrap ((a0.getD ((a1 + s19_167).toNat) default &&& (127 : UInt8)).toNat : Int)) * 2 ^ ((7 : Int) * s19_167).toNat)) < 2 ^ 64)) (if ((a0.getD ((a1 + s19_167).toNat) default).toNat : Int) < 128 then Go.L.chk ((0 ≤ ((s7_166.toNat ||| (IntKind.u64.wrap ((IntKind.u64.wrap ((a0.getD ((a1 + s19_167).toNat) default &&& (127 : UInt8)).toNat : Int)) * 2 ^ ((7 : Int) * s19_167).toNat)).toNat : Nat) : Int) ∧ ((s7_166.toNat ||| (IntKind.u64.wrap ((IntKind.u64.wrap ((a0.getD ((a1 + s19_167).toNat) default &&& (127 : UInt8)).toNat : Int)) * 2 ^ ((7 : Int) * s19_167).toNat)).toNat : Nat) : Int) < 2 ^ 64) ∧ (0 ≤ (1 : Int) ∧ (1 : Int) < 2 ^ 64)) (Go.L.chk (Go.L.I64 (-(IntKind.i64.wrap ((((s7_166.toNat ||| (IntKind.u64.wrap ((IntKind.u64.wrap ((a0.getD ((a1 + s19_167).toNat) default &&& (127 : UInt8)).toNat : Int)) * 2 ^ ((7 : Int) * s19_167).toNat)).toNat : Nat) : Int).toNat &&& (1 : Int).toNat : Nat) : Int)))) (Go.L.chk ((0 ≤ (IntKind.i64.wrap (((s7_166.toNat ||| (IntKind.u64.wrap ((IntKind.u64.wrap ((a0.getD ((a1 + s19_167).toNat) default &&& (127 : UInt8)).toNat : Int)) * 2 ^ ((7 : Int) * s19_167).toNat)).toNat : Nat) : Int) / 2)) ∧ (IntKind.i64.wrap (((s7_166.toNat ||| (IntKind.u64.wrap ((IntKind.u64.wrap ((a0.getD ((a1 + s19_167).toNat) default &&& (127 : UInt8)).toNat : Int)) * 2 ^ ((7 : Int) * s19_167).toNat)).toNat : Nat) : Int) / 2)) < 2 ^ 63) ∧ (0 ≤ (-(IntKind.i64.wrap ((((s7_166.toNat ||| (IntKind.u64.wrap ((IntKind.u64.wrap ((a0.getD ((a1 + s19_167).toNat) default &&& (127 : UInt8)).toNat : Int)) * 2 ^ ((7 : Int) * s19_167).toNat)).toNat : Nat) : Int).toNat &&& (1 : Int).toNat : Nat) : Int))) ∧ (-(IntKind.i64.wrap ((((s7_166.toNat ||| (IntKind.u64.wrap ((IntKind.u64.wrap ((a0.getD ((a1 + s19_167).toNat) default &&& (127 : UInt8)).toNat : Int)) * 2 ^ ((7 : Int) * s19_167).toNat)).toNat : Nat) : Int).toNat &&& (1 : Int).toNat : Nat) : Int))) < 2 ^ 63)) (Go.L.chk (Go.L.I64 (a1 + s19_167)) (Go.L.chk (Go.L.I64 ((a1 + s19_167) + (1 : Int))) (Option.map Sum.inr (some ((((IntKind.i64.wrap (((s7_166.toNat ||| (IntKind.u64.wrap ((IntKind.u64.wrap ((a0.getD ((a1 + s19_167).toNat) default &&& (127 : UInt8)).toNat : Int)) * 2 ^ ((7 : Int) * s19_167).toNat)).toNat : Nat) : Int) / 2)).toNat ^^^ (-(IntKind.i64.wrap ((((s7_166.toNat ||| (IntKind.u64.wrap ((IntKind.u64.wrap ((a0.getD ((a1 + s19_167).toNat) default &&& (127 : UInt8)).toNat : Int)) * 2 ^ ((7 : Int) * s19_167).toNat)).toNat : Nat) : Int).toNat &&& (1 : Int).toNat : Nat) : Int))).toNat : Nat) : Int), ((a1 + s19_167) + (1 : Int)), ((0 : Int), (0 : Int))))))))) else Go.L.chk (Go.L.I64 (s19_167 + (1 : Int))) (some (Sum.inl (((s7_166.toNat ||| (IntKind.u64.wrap ((IntKind.u64.wrap ((a0.getD ((a1 + s19_167).toNat) default &&& (127 : UInt8)).toNat : Int)) * 2 ^ ((7 : Int) * s19_167).toNat)).toNat : Nat) : Int), (s19_167 + (1 : Int))))))))))) else Option.map Sum.inr ((wire_ReadNumber_k1 a1))
noncomputable def wire_ReadNumber_l2 (a0 : List UInt8) (a1 : Int) (s : Int × Int) : Option (Int × Int × (Int × Int)) := Go.L.run (wire_ReadNumber_bl2 a0 a1) s
noncomputable def wire_ReadNumber (a0 : List UInt8) (a1 : Int) : Option (Int × Int × (Int × Int)) :=
 if a1 < (0 : Int) then Option.bind (wire_fault (4 : Int) (-2 : Int)) (fun x4 => some ((0 : Int), (0 : Int), (x4.1, x4.2))) else if (a0.length : Int) < a1 then Option.bind (wire_fault (4 : Int) (-2 : Int)) (fun x10 => some ((0 : Int), (0 : Int), (x10.1, x10.2))) else (wire_ReadNumber_l2 a0 a1) ((0 : Int), (0 : Int))
theorem wire_ReadNumber_ok (w : World) (H : PH) (hH : Le H (hp w)) {a0 : List UInt8} {a1 : Int} {v0_0 : Value} (h0_0 : Vec .byte H v0_0 (a0)) {r : Int × Int × (Int × Int)} (h : wire_ReadNumber a0 a1 = some r) :
  Ok Tryz.prog 68 [v0_0, .int .i64 a1] w (fun v w' => Ext w w' ∧ v = .tuple #[.int .i64 r.1, .int .i64 r.2.1, .agg #[.int .i64 r.2.2.1, .int .i64 r.2.2.2]]) := by
 refine Ok_enter (n := 76) [(0, v0_0), (1, .int .i64 a1)] func68 rfl rfl rfl rfl rfl ?_
 have hL := Lcl.start w
 refine W_p 2 rfl ?_
 refine S_alloc zr23 rfl rfl hL ?_
 intro w1 b1 hL1 hle1 _
 refine S_seqnil ?_
 refine W_seq ?_
 refine W_p 3 rfl ?_
 refine S_split (s := 12) rfl (fun hg2 => ?_) (fun hg2 => ?_)
 ·replace h := Go.L.ite_p (of_decide_eq_true hg2) h
  iterate 4 refine S_unwanted rfl rfl hg2 rfl ?_
  refine S_v (r_pickT rfl hg2 rfl) rfl ?_
  refine S_seqnil ?_
  refine W_true rfl ?_
  refine W_seqr ?_
  obtain ⟨x4, hb4, h⟩ := Go.L.bind_some h
  refine S_callL rfl rfl hL1 (wire_fault_ok _ _ (gz_le hH hL1) hb4) ?_
  rintro _ w5 rfl hx5 hL5 hle5
  refine S_pu 2 rfl ?_
  refine S_storeBN 0 rfl rfl rfl zr23 hL5 rfl rfl (onc rfl (onc rfl on0)) ?_
  intro w6 hL6 hle6
  refine S_seqnil ?_
  refine W_ret ?_
  refine At_seq_ret ?_
  obtain rfl := Option.some.inj h
  refine At_got3 rfl (.tmp rfl) (.tmp rfl) (.cell rfl underlying23 rfl zr23 (box_ptr (i := 0) hL6 rfl)) ?_
  exact ⟨hL6.ext, rfl⟩
 ·replace h := Go.L.ite_n (of_decide_eq_false hg2) h
  refine S_guarded rfl rfl hg2 ?_
  refine S_v (RunsAt_pu rfl) rfl ?_
  refine S_guarded rfl rfl hg2 ?_
  refine S_v (RunsAt_pu rfl) rfl ?_
  refine S_guarded rfl rfl hg2 ?_
  refine S_v (r_len rfl underlying35 h0_0) rfl ?_
  refine S_guarded rfl rfl hg2 ?_
  refine S_v (RunsAt_pu rfl) rfl ?_
  refine S_v (r_pickF rfl hg2 rfl) rfl ?_
  refine S_seqnil ?_
  refine W_if rfl (fun hc8 => ?_) (fun hc8 => ?_)
  ·replace h := Go.L.ite_p hc8 h
   refine W_seqr ?_
   obtain ⟨x10, hb10, h⟩ := Go.L.bind_some h
   refine S_callL rfl rfl hL1 (wire_fault_ok _ _ (gz_le hH hL1) hb10) ?_
   rintro _ w11 rfl hx11 hL11 hle11
   refine S_pu 2 rfl ?_
   refine S_storeBN 0 rfl rfl rfl zr23 hL11 rfl rfl (onc rfl (onc rfl on0)) ?_
   intro w12 hL12 hle12
   refine S_seqnil ?_
   refine W_ret ?_
   refine At_seq_ret ?_
   obtain rfl := Option.some.inj h
   refine At_got3 rfl (.tmp rfl) (.tmp rfl) (.cell rfl underlying23 rfl zr23 (box_ptr (i := 0) hL12 rfl)) ?_
   exact ⟨hL12.ext, rfl⟩
  ·replace h := Go.L.ite_n hc8 h
   refine W_skip ?_
   refine At_seq ?_
   refine W_pz 1 rfl ?_
   refine W_cut (σ := Unit) (fun (_ : Unit) => [(1, .int .i64 a1), (6, .pointer (some ⟨b1, 0, none⟩))]) (fun (_ : Unit) wr => Lcl w [.box b1 [.int .i64 (0 : Int), .int .i64 (0 : Int)] 23] wr ∧ (wire_ReadNumber_k1 a1) = some r) ?_ ?_
   ·refine W_pz 1 rfl ?_
    refine W_block ?_
    obtain ⟨n168, h⟩ := Go.L.run_some h
    refine W_loop (σ := Int × Int × Nat) (fun ⟨s7_166, s19_167, n⟩ => [(0, v0_0), (1, .int .i64 a1), (6, .pointer (some ⟨b1, 0, none⟩)), (7, .int .u64 s7_166), (19, .int .i64 s19_167)]) (fun ⟨s7_166, s19_167, n⟩ wr => Lcl w [.box b1 [.int .i64 (0 : Int), .int .i64 (0 : Int)] 23] wr ∧ Go.L.itr (wire_ReadNumber_bl2 a0 a1) n (s7_166, s19_167) = some r) (fun ⟨s7_166, s19_167, n⟩ => n) ((0 : Int), (0 : Int), n168) (.cons rfl (.cons rfl (.cons rfl (.cons rfl (.cons rfl (Sub.nil _)))))) ⟨hL1, h⟩ ?_
    rintro ⟨s7_166, s19_167, nn168⟩ wr168 ⟨hL168, h⟩
    obtain ⟨n168, e168, rfl, h, hm168⟩ := Go.L.itr_some h
    refine W_pz 1 rfl ?_
    refine W_seq ?_
    refine W_if rfl (fun hc170 => ?_) (fun hc170 => ?_)
    ·replace h := Go.L.ite_p hc170 h
     refine W_skip ?_
     refine At_seq ?_
     refine W_seq ?_
     refine W_block ?_
     refine W_pz 2 rfl ?_
     refine W_seq ?_
     refine W_p 2 rfl ?_
     obtain ⟨hk172, h⟩ := Go.L.chk_some h
     refine S_v (r_ar64 rfl rfl rfl hk172) rfl ?_
     refine S_pu 1 rfl ?_
     refine S_v (r_len rfl underlying35 h0_0) rfl ?_
     refine S_pz 1 rfl ?_
     refine W_if rfl (fun hc173 => ?_) (fun hc173 => ?_)
     ·replace h := Go.L.ite_p hc173 h
      refine W_p 1 rfl ?_
      obtain ⟨x175, hb175, h⟩ := Go.L.bind_some h
      refine S_callL rfl rfl hL168 (wire_fault_ok _ _ (gz_le hH hL168) hb175) ?_
      rintro _ w176 rfl hx176 hL176 hle176
      refine S_pu 2 rfl ?_
      refine S_storeBN 0 rfl rfl rfl zr23 hL176 rfl rfl (onc rfl (onc rfl on0)) ?_
      intro w177 hL177 hle177
      refine S_seqnil ?_
      refine W_ret ?_
      refine At_seq_ret ?_
      refine At_block_ret ?_
      refine At_seq_ret ?_
      refine At_loop_ret ?_
      replace h := Go.L.Nxt.out h hm168
      refine At_block_ret ?_
      refine At_cut_ret ?_
      obtain rfl := Option.some.inj h
      refine At_got3 rfl (.tmp rfl) (.tmp rfl) (.cell rfl underlying23 rfl zr23 (box_ptr (i := 0) hL177 rfl)) ?_
      exact ⟨hL177.ext, rfl⟩
     ·replace h := Go.L.ite_n hc173 h
      refine W_skip ?_
      refine At_seq ?_
      refine W_p 3 rfl ?_
      obtain ⟨hk179, h⟩ := Go.L.chk_some h
      refine S_v (r_ar64 rfl rfl rfl hk179) rfl ?_
      obtain ⟨hk181, h⟩ := Go.L.chk_some h
      refine S_index rfl rfl underlying35 zr5 h0_0 ((a1 + s19_167).toNat) (Int.toNat_of_nonneg hk181.1).symm (idx_lt hk181) rfl ?_
      rintro p180 _ rfl hp180
      refine S_v (r_load1 rfl underlying5 rfl hp180 (hH.trans hL168.arg)) rfl ?_
      refine S_pz 1 rfl ?_
      refine W_seq ?_
      refine W_p 3 rfl ?_
      refine S_and 2 2 rfl rfl rfl rfl rfl rfl ?_
      refine S_pu 1 rfl ?_
      refine S_split (s := 42) rfl (fun hg182 => ?_) (fun hg182 => ?_)
      ·replace h := Go.L.ite_p (of_decide_eq_true hg182) h
       iterate 3 refine S_unwanted rfl rfl hg182 rfl ?_
       iterate 2 refine S_unwanted2 rfl rfl rfl ?_
       refine S_unwanted rfl rfl hg182 rfl ?_
       refine S_v (r_pickT rfl hg182 rfl) rfl ?_
       refine S_seqnil ?_
       refine W_true rfl ?_
       refine W_exit ?_
       refine At_seq_exit ?_
       refine At_exit_ne rfl ?_
       refine At_seq_exit ?_
       refine At_loop_exit ?_
       replace h := Go.L.Nxt.out h hm168
       refine At_exit ?_
       refine At_cut () (.cons rfl (.cons rfl (Sub.nil _))) ⟨hL168, h⟩
      ·replace h := Go.L.ite_n (of_decide_eq_false hg182) h
       refine S_guarded rfl rfl hg182 ?_
       refine S_v (RunsAt_pu rfl) rfl ?_
       refine S_guarded rfl rfl hg182 ?_
       refine S_v (RunsAt_pu rfl) rfl ?_
       refine S_guarded rfl rfl hg182 ?_
       refine S_v (RunsAt_pu rfl) rfl ?_
       refine S_split (s := 45) rfl (fun hg185 => ?_) (fun hg185 => ?_)
       ·replace h := Go.L.ite_p (of_decide_eq_true hg185) h
        refine S_guarded rfl rfl hg185 ?_
        refine S_v (RunsAt_pu rfl) rfl ?_
        refine S_guarded rfl rfl hg185 ?_
        refine S_v (RunsAt_pu rfl) rfl ?_
        refine S_guarded rfl rfl hg182 ?_
        refine S_v (r_pickT rfl hg185 rfl) rfl ?_
        refine S_v (r_pickF rfl hg182 rfl) rfl ?_
        refine S_seqnil ?_
        refine W_if rfl (fun hc187 => ?_) (fun hc187 => ?_)
        ·replace h := Go.L.ite_p hc187 h
         refine W_exit ?_
         refine At_seq_exit ?_
         refine At_exit_ne rfl ?_
         refine At_seq_exit ?_
         refine At_loop_exit ?_
         replace h := Go.L.Nxt.out h hm168
         refine At_exit ?_
         refine At_cut () (.cons rfl (.cons rfl (Sub.nil _))) ⟨hL168, h⟩
        ·replace h := Go.L.ite_n hc187 h
         refine W_skip ?_
         refine At_seq ?_
         refine W_p 2 rfl ?_
         refine S_v (r_bit8 (b := 127) rfl rfl rfl) rfl ?_
         refine S_v (r_conv underlying5 underlying136 rfl rfl) rfl ?_
         refine S_pu 1 rfl ?_
         obtain ⟨hk190, h⟩ := Go.L.chk_some h
         refine S_v (r_ar64 rfl rfl rfl hk190) rfl ?_
         obtain ⟨hk191, h⟩ := Go.L.chk_some h
         refine S_v (r_shlVu rfl rfl hk191) rfl ?_
         obtain ⟨hk192, h⟩ := Go.L.chk_some h
         refine S_v (r_bitU rfl rfl rfl hk192) rfl ?_
         refine S_pz 1 rfl ?_
         refine W_pz 2 rfl ?_
         refine W_if rfl (fun hc193 => ?_) (fun hc193 => ?_)
         ·replace h := Go.L.ite_p hc193 h
          refine W_p 1 rfl ?_
          refine S_v (r_shr (c := 1) (m := 2) rfl rfl rfl (by decide)) rfl ?_
          refine S_v (r_conv underlying136 underlying3 rfl rfl) rfl ?_
          refine S_pu 1 rfl ?_
          obtain ⟨hk195, h⟩ := Go.L.chk_some h
          refine S_v (r_bitU rfl rfl rfl hk195) rfl ?_
          refine S_v (r_conv underlying136 underlying3 rfl rfl) rfl ?_
          obtain ⟨hk196, h⟩ := Go.L.chk_some h
          refine S_v (r_neg rfl hk196) rfl ?_
          obtain ⟨hk197, h⟩ := Go.L.chk_some h
          refine S_v (r_bitI rfl rfl rfl hk197) rfl ?_
          refine S_pu 2 rfl ?_
          obtain ⟨hk198, h⟩ := Go.L.chk_some h
          refine S_v (r_ar64 rfl rfl rfl hk198) rfl ?_
          obtain ⟨hk199, h⟩ := Go.L.chk_some h
          refine S_v (r_ar64 rfl rfl rfl hk199) rfl ?_
          refine S_v (r_build rfl (fun _ => bld23_z _)) rfl ?_
          refine S_pu 2 rfl ?_
          refine S_storeBN 0 rfl rfl rfl zr23 hL168 rfl rfl (onc rfl (onc rfl on0)) ?_
          intro w200 hL200 hle200
          refine S_seqnil ?_
          refine W_ret ?_
          refine At_block_ret ?_
          refine At_seq_ret ?_
          refine At_loop_ret ?_
          replace h := Go.L.Nxt.out h hm168
          refine At_block_ret ?_
          refine At_cut_ret ?_
          obtain rfl := Option.some.inj h
          refine At_got3 rfl (.tmp rfl) (.tmp rfl) (.cell rfl underlying23 rfl zr23 (box_ptr (i := 0) hL200 rfl)) ?_
          exact ⟨hL200.ext, rfl⟩
         ·replace h := Go.L.ite_n hc193 h
          refine W_skip ?_
          refine At_block ?_
          refine At_seq ?_
          refine W_region ?_
          obtain ⟨hk202, h⟩ := Go.L.chk_some h
          refine S_v (r_ar64 rfl rfl rfl hk202) rfl ?_
          refine S_pu 1 rfl ?_
          refine S_nil ?_
          have h := Go.L.Nxt.again h hm168
          refine At_round (((s7_166.toNat ||| (IntKind.u64.wrap ((IntKind.u64.wrap ((a0.getD ((a1 + s19_167).toNat) default &&& (127 : UInt8)).toNat : Int)) * 2 ^ ((7 : Int) * s19_167).toNat)).toNat : Nat) : Int), (s19_167 + (1 : Int)), n168) (.cons rfl (.cons rfl (.cons rfl (.cons rfl (.cons rfl (Sub.nil _)))))) ⟨hL168, h⟩ (Nat.lt_succ_self _)
       ·replace h := Go.L.ite_n (of_decide_eq_false hg185) h
        iterate 2 refine S_unwanted rfl rfl hg185 rfl ?_
        refine S_guarded rfl rfl hg182 ?_
        refine S_v (r_pickF rfl hg185 rfl) rfl ?_
        refine S_v (r_pickF rfl hg182 rfl) rfl ?_
        refine S_seqnil ?_
        refine W_false rfl ?_
        refine W_skip ?_
        refine At_seq ?_
        refine W_p 2 rfl ?_
        refine S_v (r_bit8 (b := 127) rfl rfl rfl) rfl ?_
        refine S_v (r_conv underlying5 underlying136 rfl rfl) rfl ?_
        refine S_pu 1 rfl ?_
        obtain ⟨hk204, h⟩ := Go.L.chk_some h
        refine S_v (r_ar64 rfl rfl rfl hk204) rfl ?_
        obtain ⟨hk205, h⟩ := Go.L.chk_some h
        refine S_v (r_shlVu rfl rfl hk205) rfl ?_
        obtain ⟨hk206, h⟩ := Go.L.chk_some h
        refine S_v (r_bitU rfl rfl rfl hk206) rfl ?_
        refine S_pz 1 rfl ?_
        refine W_pz 2 rfl ?_
        refine W_if rfl (fun hc207 => ?_) (fun hc207 => ?_)
        ·replace h := Go.L.ite_p hc207 h
         refine W_p 1 rfl ?_
         refine S_v (r_shr (c := 1) (m := 2) rfl rfl rfl (by decide)) rfl ?_
         refine S_v (r_conv underlying136 underlying3 rfl rfl) rfl ?_
         refine S_pu 1 rfl ?_
         obtain ⟨hk209, h⟩ := Go.L.chk_some h
         refine S_v (r_bitU rfl rfl rfl hk209) rfl ?_
         refine S_v (r_conv underlying136 underlying3 rfl rfl) rfl ?_
         obtain ⟨hk210, h⟩ := Go.L.chk_some h
         refine S_v (r_neg rfl hk210) rfl ?_
         obtain ⟨hk211, h⟩ := Go.L.chk_some h
         refine S_v (r_bitI rfl rfl rfl hk211) rfl ?_
         refine S_pu 2 rfl ?_
         obtain ⟨hk212, h⟩ := Go.L.chk_some h
         refine S_v (r_ar64 rfl rfl rfl hk212) rfl ?_
         obtain ⟨hk213, h⟩ := Go.L.chk_some h
         refine S_v (r_ar64 rfl rfl rfl hk213) rfl ?_
         refine S_v (r_build rfl (fun _ => bld23_z _)) rfl ?_
         refine S_pu 2 rfl ?_
         refine S_storeBN 0 rfl rfl rfl zr23 hL168 rfl rfl (onc rfl (onc rfl on0)) ?_
         intro w214 hL214 hle214
         refine S_seqnil ?_
         refine W_ret ?_
         refine At_block_ret ?_
         refine At_seq_ret ?_
         refine At_loop_ret ?_
         replace h := Go.L.Nxt.out h hm168
         refine At_block_ret ?_
         refine At_cut_ret ?_
         obtain rfl := Option.some.inj h
         refine At_got3 rfl (.tmp rfl) (.tmp rfl) (.cell rfl underlying23 rfl zr23 (box_ptr (i := 0) hL214 rfl)) ?_
         exact ⟨hL214.ext, rfl⟩
        ·replace h := Go.L.ite_n hc207 h
         refine W_skip ?_
         refine At_block ?_
         refine At_seq ?_
         refine W_region ?_
         obtain ⟨hk216, h⟩ := Go.L.chk_some h
         refine S_v (r_ar64 rfl rfl rfl hk216) rfl ?_
         refine S_pu 1 rfl ?_
         refine S_nil ?_
         have h := Go.L.Nxt.again h hm168
         refine At_round (((s7_166.toNat ||| (IntKind.u64.wrap ((IntKind.u64.wrap ((a0.getD ((a1 + s19_167).toNat) default &&& (127 : UInt8)).toNat : Int)) * 2 ^ ((7 : Int) * s19_167).toNat)).toNat : Nat) : Int), (s19_167 + (1 : Int)), n168) (.cons rfl (.cons rfl (.cons rfl (.cons rfl (.cons rfl (Sub.nil _)))))) ⟨hL168, h⟩ (Nat.lt_succ_self _)
    ·replace h := Go.L.ite_n hc170 h
     refine W_exit ?_
     refine At_seq_exit ?_
     refine At_loop_exit ?_
     replace h := Go.L.Nxt.out h hm168
     refine At_exit ?_
     refine At_cut () (.cons rfl (.cons rfl (Sub.nil _))) ⟨hL168, h⟩
   ·rintro _ wr115 ⟨hL115, h⟩
    refine W_p 1 rfl ?_
    obtain ⟨x219, hb219, h⟩ := Go.L.bind_some h
    refine S_callL rfl rfl hL115 (wire_fault_ok _ _ (gz_le hH hL115) hb219) ?_
    rintro _ w220 rfl hx220 hL220 hle220
    refine S_pu 2 rfl ?_
    refine S_storeBN 0 rfl rfl rfl zr23 hL220 rfl rfl (onc rfl (onc rfl on0)) ?_
    intro w221 hL221 hle221
    refine S_seqnil ?_
    refine W_ret ?_
    obtain rfl := Option.some.inj h
    refine At_got3 rfl (.tmp rfl) (.tmp rfl) (.cell rfl underlying23 rfl zr23 (box_ptr (i := 0) hL221 rfl)) ?_
    exact ⟨hL221.ext, rfl⟩
noncomputable def wire_ReadChunk (a0 : List UInt8) (a1 : Int) : Option ((List UInt8) × Int × (Int × Int)) :=
 Option.bind (wire_ReadNumber a0 a1) (fun x2 => if x2.2.2.1 = (0 : Int) ∧ x2.2.2.2 = (0 : Int) then (if x2.1 < (0 : Int) then Option.bind (wire_fault (4 : Int) a1) (fun x16 => some ([], (0 : Int), (x16.1, x16.2))) else Go.L.chk (Go.L.I64 ((a0.length : Int) - x2.2.1)) (if ((a0.length : Int) - x2.2.1) < x2.1 then Option.bind (wire_fault (15 : Int) a1) (fun x23 => some ([], (0 : Int), (x23.1, x23.2))) else Go.L.chk (Go.L.I64 (x2.2.1 + x2.1)) (Go.L.chk (0 ≤ x2.2.1 ∧ x2.2.1 ≤ (x2.2.1 + x2.1) ∧ (x2.2.1 + x2.1) ≤ (a0.length : Int)) (Go.L.chk (Go.E.Cap 1 (([] : List UInt8).length + ((a0.drop x2.2.1.toNat).take ((x2.2.1 + x2.1).toNat - x2.2.1.toNat)).length)) (Go.L.chk (Go.L.I64 (x2.2.1 + x2.1)) (some ((([] : List UInt8) ++ ((a0.drop x2.2.1.toNat).take ((x2.2.1 + x2.1).toNat - x2.2.1.toNat))), (x2.2.1 + x2.1), ((0 : Int), (0 : Int))))))))) else some ([], (0 : Int), (x2.2.2.1, x2.2.2.2)))
theorem wire_ReadChunk_ok (w : World) (H : PH) (hH : Le H (hp w)) {a0 : List UInt8} {a1 : Int} {v0_0 : Value} (h0_0 : Vec .byte H v0_0 (a0)) {r : (List UInt8) × Int × (Int × Int)} (h : wire_ReadChunk a0 a1 = some r) :
  Ok Tryz.prog 103 [v0_0, .int .i64 a1] w (fun v w' => Ext w w' ∧ ∃ u0, v = .tuple #[u0, .int .i64 r.2.1, .agg #[.int .i64 r.2.2.1, .int .i64 r.2.2.2]] ∧ OwnH 5 .byte H w w' u0 (r.1)) := by
 refine Ok_enter (n := 47) [(0, v0_0), (1, .int .i64 a1)] func103 rfl rfl rfl rfl rfl ?_
 have hL := Lcl.start w
 refine W_p 2 rfl ?_
 refine S_alloc zr23 rfl rfl hL ?_
 intro w1 b1 hL1 hle1 _
 refine S_seqnil ?_
 refine W_p 2 rfl ?_
 obtain ⟨x2, hb2, h⟩ := Go.L.bind_some h
 refine S_callL rfl rfl hL1 (wire_ReadNumber_ok _ _ (gz_le hH hL1) (h0_0.mono (gz_left hH)) hb2) ?_
 rintro _ w3 rfl hx3 hL3 hle3
 refine S_pu 4 rfl ?_
 refine S_alloc zr23 rfl rfl hL3 ?_
 intro w4 b4 hL4 hle4 _
 refine S_pu 2 rfl ?_
 refine S_storeBN 0 rfl rfl rfl zr23 hL4 rfl rfl (onc rfl (onc rfl on0)) ?_
 intro w5 hL5 hle5
 refine S_seqnil ?_
 refine W_seq ?_
 refine W_block ?_
 refine W_seqr ?_
 refine S_v (r_loadBN 0 rfl underlying23 rfl zr23 hL5 rfl) rfl ?_
 refine S_v (r_build rfl (fun _ => bld23_z _)) rfl ?_
 refine S_v (r_neA rfl rfl eqg23 (eq23 _ _ _ _ )) rfl ?_
 refine S_pz 1 rfl ?_
 refine W_ifn rfl (fun hc6 => ?_) (fun hc6 => ?_)
 ·replace h := Go.L.ite_n hc6 h
  refine W_seqd (.q 0 (.q 1 (.q 2 (.tail 3)))) mixed (by kernel_rfl) (fun w8 hx8 => ?_)
  have hL9 := hL5.call hx8
  refine D_v (r_loadBN 0 rfl underlying23 rfl zr23 hL9 rfl) rfl rfl ?_
  refine D_pu 2 rfl ?_
  refine D_tail (fun w10 hx10 => ?_)
  have hL11 := hL9.call hx10
  refine S_storeBN 1 rfl rfl rfl zr23 hL11 rfl rfl (onc rfl (onc rfl on0)) ?_
  intro w12 hL12 hle12
  refine S_seqnil ?_
  refine W_ret ?_
  refine At_block_ret ?_
  refine At_seq_ret ?_
  obtain rfl := Option.some.inj h
  refine At_got3 rfl (.tmp rfl) (.tmp rfl) (.cell rfl underlying23 rfl zr23 (box_ptr (i := 1) hL12 rfl)) ?_
  exact ⟨hL12.ext, _, rfl, OwnH.nil⟩
 ·replace h := Go.L.ite_p hc6 h
  refine W_pz 3 rfl ?_
  refine W_if rfl (fun hc14 => ?_) (fun hc14 => ?_)
  ·replace h := Go.L.ite_p hc14 h
   refine W_p 1 rfl ?_
   obtain ⟨x16, hb16, h⟩ := Go.L.bind_some h
   refine S_callL rfl rfl hL5 (wire_fault_ok _ _ (gz_le hH hL5) hb16) ?_
   rintro _ w17 rfl hx17 hL17 hle17
   refine S_pu 2 rfl ?_
   refine S_storeBN 1 rfl rfl rfl zr23 hL17 rfl rfl (onc rfl (onc rfl on0)) ?_
   intro w18 hL18 hle18
   refine S_seqnil ?_
   refine W_ret ?_
   refine At_block_ret ?_
   refine At_seq_ret ?_
   obtain rfl := Option.some.inj h
   refine At_got3 rfl (.tmp rfl) (.tmp rfl) (.cell rfl underlying23 rfl zr23 (box_ptr (i := 1) hL18 rfl)) ?_
   exact ⟨hL18.ext, _, rfl, OwnH.nil⟩
  ·replace h := Go.L.ite_n hc14 h
   refine W_p 2 rfl ?_
   refine S_v (r_len rfl underlying35 h0_0) rfl ?_
   refine S_pu 1 rfl ?_
   obtain ⟨hk20, h⟩ := Go.L.chk_some h
   refine S_v (r_ar64 rfl rfl rfl hk20) rfl ?_
   refine S_pz 2 rfl ?_
   refine W_if rfl (fun hc21 => ?_) (fun hc21 => ?_)
   ·replace h := Go.L.ite_p hc21 h
    refine W_p 1 rfl ?_
    obtain ⟨x23, hb23, h⟩ := Go.L.bind_some h
    refine S_callL rfl rfl hL5 (wire_fault_ok _ _ (gz_le hH hL5) hb23) ?_
    rintro _ w24 rfl hx24 hL24 hle24
    refine S_pu 2 rfl ?_
    refine S_storeBN 1 rfl rfl rfl zr23 hL24 rfl rfl (onc rfl (onc rfl on0)) ?_
    intro w25 hL25 hle25
    refine S_seqnil ?_
    refine W_ret ?_
    refine At_block_ret ?_
    refine At_seq_ret ?_
    obtain rfl := Option.some.inj h
    refine At_got3 rfl (.tmp rfl) (.tmp rfl) (.cell rfl underlying23 rfl zr23 (box_ptr (i := 1) hL25 rfl)) ?_
    exact ⟨hL25.ext, _, rfl, OwnH.nil⟩
   ·replace h := Go.L.ite_n hc21 h
    refine W_skip ?_
    refine At_block ?_
    refine At_seq ?_
    refine W_p 4 rfl ?_
    obtain ⟨hk27, h⟩ := Go.L.chk_some h
    refine S_v (r_ar64 rfl rfl rfl hk27) rfl ?_
    obtain ⟨hk29, h⟩ := Go.L.chk_some h
    refine S_sliceB rfl rfl rfl underlying35 zr5 h0_0 hk29 rfl ?_
    intro v28 hv28
    obtain ⟨hL31, hle31, he31⟩ := row_nilE .byte H 5 hL5
    obtain ⟨hk32, h⟩ := Go.L.chk_some h
    refine S_appE (r := .byte) (l := ([] : List UInt8)) (m := ((a0.drop x2.2.1.toNat).take ((x2.2.1 + x2.1).toNat - x2.2.1.toNat))) 0 rfl rfl underlying35 zr5 rfl (by decide) rfl hH hL31 rfl he31 (hv28.mono (gz_left hH)) hk32 ?_
    intro v30 w30 xs30 hL30 hle30 he30
    refine S_pu 2 rfl ?_
    obtain ⟨hk33, h⟩ := Go.L.chk_some h
    refine S_v (r_ar64 rfl rfl rfl hk33) rfl ?_
    refine S_v (r_build rfl (fun _ => bld23_z _)) rfl ?_
    refine S_pu 2 rfl ?_
    refine S_storeBN 2 rfl rfl rfl zr23 hL30 rfl rfl (onc rfl (onc rfl on0)) ?_
    intro w34 hL34 hle34
    replace he30 := he30.mono (gz_mono hH hle34)
    refine S_seqnil ?_
    refine W_ret ?_
    obtain rfl := Option.some.inj h
    refine At_got3 rfl (.tmp rfl) (.tmp rfl) (.cell rfl underlying23 rfl zr23 (box_ptr (i := 2) hL34 rfl)) ?_
    exact ⟨hL34.ext, _, rfl, (hL34.ownH hH (i := 0) rfl he30)⟩
noncomputable def wreads_Number_k1 (l65 : List Int) (s12_66 : Int) : Option ((List Int) × Int × (Int × Int)) :=
 some (l65, s12_66, ((0 : Int), (0 : Int)))
noncomputable def wreads_Number_bl2 (a0 : List UInt8) (x2 : Int × Int × (Int × Int)) : (List Int) × Int × Int → Option (((List Int) × Int × Int) ⊕ ((List Int) × Int × (Int × Int))) := fun ⟨l89, s12_90, s41_91⟩ =>
 if s41_91 < x2.1 then Option.bind (wire_ReadNumber a0 s12_90) (fun x96 => if x96.2.2.1 = (0 : Int) ∧ x96.2.2.2 = (0 : Int) then Go.L.chk (Go.E.Cap 8 (l89.length + ([x96.1]).length)) (Go.L.chk (Go.L.I64 (s41_91 + (1 : Int))) (some (Sum.inl ((l89 ++ [x96.1]), x96.2.1, (s41_91 + (1 : Int)))))) else Option.map Sum.inr (some ([], (0 : Int), (x96.2.2.1, x96.2.2.2)))) else Option.map Sum.inr (wreads_Number_k1 l89 s12_90)
noncomputable def wreads_Number_l2 (a0 : List UInt8) (x2 : Int × Int × (Int × Int)) (s : (List Int) × Int × Int) : Option ((List Int) × Int × (Int × Int)) := Go.L.run (wreads_Number_bl2 a0 x2) s
noncomputable def wreads_Number (a0 : List UInt8) (a1 : Int) (a2 : Int) : Option ((List Int) × Int × (Int × Int)) :=
 Option.bind (wire_ReadNumber a0 a1) (fun x2 => if x2.2.2.1 = (0 : Int) ∧ x2.2.2.2 = (0 : Int) then (if (x2.1 < (0 : Int)) ∨ (a2 < x2.1) then Option.bind (wire_fault (4 : Int) a1) (fun x16 => some ([], (0 : Int), (x16.1, x16.2))) else (wreads_Number_l2 a0 x2) (([] : List Int), x2.2.1, (0 : Int))) else some ([], (0 : Int), (x2.2.2.1, x2.2.2.2)))
theorem wreads_Number_ok (w : World) (H : PH) (hH : Le H (hp w)) {a0 : List UInt8} {a1 : Int} {a2 : Int} {v0_0 : Value} (h0_0 : Vec .byte H v0_0 (a0)) {r : (List Int) × Int × (Int × Int)} (h : wreads_Number a0 a1 a2 = some r) :
  Ok Tryz.prog 104 [v0_0, .int .i64 a1, .int .i64 a2, .func (.func 68) #[] #[]] w (fun v w' => Ext w w' ∧ ∃ u0, v = .tuple #[u0, .int .i64 r.2.1, .agg #[.int .i64 r.2.2.1, .int .i64 r.2.2.2]] ∧ OwnH 3 (.int .i64) H w w' u0 (r.1)) := by
 refine Ok_enter (n := 64) [(0, v0_0), (1, .int .i64 a1), (2, .int .i64 a2), (3, .func (.func 68) #[] #[])] func104 rfl rfl rfl rfl rfl ?_
 have hL := Lcl.start w
 refine W_p 2 rfl ?_
 refine S_alloc zr23 rfl rfl hL ?_
 intro w1 b1 hL1 hle1 _
 refine S_seqnil ?_
 refine W_p 2 rfl ?_
 obtain ⟨x2, hb2, h⟩ := Go.L.bind_some h
 refine S_callL rfl rfl hL1 (wire_ReadNumber_ok _ _ (gz_le hH hL1) (h0_0.mono (gz_left hH)) hb2) ?_
 rintro _ w3 rfl hx3 hL3 hle3
 refine S_pu 4 rfl ?_
 refine S_alloc zr23 rfl rfl hL3 ?_
 intro w4 b4 hL4 hle4 _
 refine S_pu 2 rfl ?_
 refine S_storeBN 0 rfl rfl rfl zr23 hL4 rfl rfl (onc rfl (onc rfl on0)) ?_
 intro w5 hL5 hle5
 refine S_seqnil ?_
 refine W_seq ?_
 refine W_block ?_
 refine W_seqr ?_
 refine S_v (r_loadBN 0 rfl underlying23 rfl zr23 hL5 rfl) rfl ?_
 refine S_v (r_build rfl (fun _ => bld23_z _)) rfl ?_
 refine S_v (r_neA rfl rfl eqg23 (eq23 _ _ _ _ )) rfl ?_
 refine S_pz 1 rfl ?_
 refine W_ifn rfl (fun hc6 => ?_) (fun hc6 => ?_)
 ·replace h := Go.L.ite_n hc6 h
  refine W_seqd (.q 0 (.q 1 (.q 2 (.tail 3)))) mixed (by kernel_rfl) (fun w8 hx8 => ?_)
  have hL9 := hL5.call hx8
  refine D_v (r_loadBN 0 rfl underlying23 rfl zr23 hL9 rfl) rfl rfl ?_
  refine D_pu 2 rfl ?_
  refine D_tail (fun w10 hx10 => ?_)
  have hL11 := hL9.call hx10
  refine S_storeBN 1 rfl rfl rfl zr23 hL11 rfl rfl (onc rfl (onc rfl on0)) ?_
  intro w12 hL12 hle12
  refine S_seqnil ?_
  refine W_ret ?_
  refine At_block_ret ?_
  refine At_seq_ret ?_
  obtain rfl := Option.some.inj h
  refine At_got3 rfl (.tmp rfl) (.tmp rfl) (.cell rfl underlying23 rfl zr23 (box_ptr (i := 1) hL12 rfl)) ?_
  exact ⟨hL12.ext, _, rfl, OwnH.nil⟩
 ·replace h := Go.L.ite_p hc6 h
  refine W_p 3 rfl ?_
  refine S_or 3 2 rfl rfl rfl rfl rfl rfl ?_
  refine S_pz 1 rfl ?_
  refine W_if rfl (fun hc14 => ?_) (fun hc14 => ?_)
  ·replace h := Go.L.ite_p hc14 h
   refine W_p 1 rfl ?_
   obtain ⟨x16, hb16, h⟩ := Go.L.bind_some h
   refine S_callL rfl rfl hL5 (wire_fault_ok _ _ (gz_le hH hL5) hb16) ?_
   rintro _ w17 rfl hx17 hL17 hle17
   refine S_pu 2 rfl ?_
   refine S_storeBN 1 rfl rfl rfl zr23 hL17 rfl rfl (onc rfl (onc rfl on0)) ?_
   intro w18 hL18 hle18
   refine S_seqnil ?_
   refine W_ret ?_
   refine At_block_ret ?_
   refine At_seq_ret ?_
   obtain rfl := Option.some.inj h
   refine At_got3 rfl (.tmp rfl) (.tmp rfl) (.cell rfl underlying23 rfl zr23 (box_ptr (i := 1) hL18 rfl)) ?_
   exact ⟨hL18.ext, _, rfl, OwnH.nil⟩
  ·replace h := Go.L.ite_n hc14 h
   refine W_skip ?_
   refine At_block ?_
   refine At_seq ?_
   refine W_p 1 rfl ?_
   obtain ⟨hL20, hle20, he20⟩ := row_nilE (.int .i64) H 3 hL5
   refine S_seqnil ?_
   refine W_cut (σ := (List Int) × Int × Value × (List Value)) (fun ⟨l65, s12_66, vl65, xsl65⟩ => [(10, .pointer (some ⟨b1, 0, none⟩)), (12, .int .i64 s12_66), (14, vl65)]) (fun ⟨l65, s12_66, vl65, xsl65⟩ wr => InO w [.row (vl65) 3 1 (l65).length (xsl65), .box b4 [.int .i64 x2.2.2.1, .int .i64 x2.2.2.2] 23, .box b1 [.int .i64 (0 : Int), .int .i64 (0 : Int)] 23] wr fun Oz => Elems (.int .i64) (gz H w wr Oz) (l65) (xsl65) ∧ wreads_Number_k1 l65 s12_66 = some r) ?_ ?_
   ·refine W_pz 2 rfl ?_
    refine W_block ?_
    obtain ⟨n92, h⟩ := Go.L.run_some h
    refine W_loop (σ := (List Int) × Int × Int × Value × (List Value) × Nat) (fun ⟨l89, s12_90, s41_91, vl89, xsl89, n⟩ => [(0, v0_0), (3, .func (.func 68) #[] #[]), (10, .pointer (some ⟨b1, 0, none⟩)), (12, .int .i64 s12_90), (14, vl89), (40, .int .i64 x2.1), (41, .int .i64 s41_91)]) (fun ⟨l89, s12_90, s41_91, vl89, xsl89, n⟩ wr => InO w [.row (vl89) 3 1 (l89).length (xsl89), .box b4 [.int .i64 x2.2.2.1, .int .i64 x2.2.2.2] 23, .box b1 [.int .i64 (0 : Int), .int .i64 (0 : Int)] 23] wr fun Oz => Elems (.int .i64) (gz H w wr Oz) (l89) (xsl89) ∧ Go.L.itr (wreads_Number_bl2 a0 x2) n (l89, s12_90, s41_91) = some r) (fun ⟨l89, s12_90, s41_91, vl89, xsl89, n⟩ => n) (([] : List Int), x2.2.1, (0 : Int), .slice none 0 0, [], n92) (.cons rfl (.cons rfl (.cons rfl (.cons rfl (.cons rfl (.cons rfl (.cons rfl (Sub.nil _)))))))) ⟨hL20, he20, h⟩ ?_
    rintro ⟨l89, s12_90, s41_91, vl89, xsl89, nn92⟩ wr92 ⟨hL92, hel89, h⟩
    obtain ⟨n92, e92, rfl, h, hm92⟩ := Go.L.itr_some h
    refine W_pz 1 rfl ?_
    refine W_seq ?_
    refine W_if rfl (fun hc94 => ?_) (fun hc94 => ?_)
    ·replace h := Go.L.ite_p hc94 h
     refine W_skip ?_
     refine At_seq ?_
     refine W_seq ?_
     refine W_block ?_
     refine W_p 3 rfl ?_
     obtain ⟨x96, hb96, h⟩ := Go.L.bind_some h
     refine S_callwL rfl rfl rfl hL92 (wire_ReadNumber_ok _ _ (gz_le hH hL92) (h0_0.mono (gz_left hH)) hb96) ?_
     rintro _ w97 rfl hx97 hL97 hle97
     replace hel89 := hel89.mono (gz_mono hH hle97)
     refine S_pu 4 rfl ?_
     refine S_alloc zr23 rfl rfl hL97 ?_
     intro w98 b98 hL98 hle98 _
     replace hel89 := hel89.mono (gz_mono hH hle98)
     refine S_pu 2 rfl ?_
     refine S_storeBN 0 rfl rfl rfl zr23 hL98 rfl rfl (onc rfl (onc rfl on0)) ?_
     intro w99 hL99 hle99
     replace hel89 := hel89.mono (gz_mono hH hle99)
     refine S_seqnil ?_
     refine W_seq ?_
     refine W_seqr ?_
     refine S_v (r_loadBN 0 rfl underlying23 rfl zr23 hL99 rfl) rfl ?_
     refine S_v (r_build rfl (fun _ => bld23_z _)) rfl ?_
     refine S_v (r_neA rfl rfl eqg23 (eq23 _ _ _ _ )) rfl ?_
     refine S_seqnil ?_
     refine W_ifn rfl (fun hc100 => ?_) (fun hc100 => ?_)
     ·replace h := Go.L.ite_n hc100 h
      refine W_seqd (.q 0 (.q 1 (.q 2 (.tail 3)))) mixed (by kernel_rfl) (fun w102 hx102 => ?_)
      have hL103 := hL99.call hx102
      have hle103 := fz_ext hL99 hx102
      replace hel89 := hel89.mono (gz_mono hH hle103)
      refine D_v (r_loadBN 0 rfl underlying23 rfl zr23 hL103 rfl) rfl rfl ?_
      refine D_pu 2 rfl ?_
      refine D_tail (fun w104 hx104 => ?_)
      have hL105 := hL103.call hx104
      have hle105 := fz_ext hL103 hx104
      replace hel89 := hel89.mono (gz_mono hH hle105)
      refine S_storeBN 3 rfl rfl rfl zr23 hL105 rfl rfl (onc rfl (onc rfl on0)) ?_
      intro w106 hL106 hle106
      replace hel89 := hel89.mono (gz_mono hH hle106)
      refine S_seqnil ?_
      refine W_ret ?_
      refine At_seq_ret ?_
      refine At_block_ret ?_
      refine At_seq_ret ?_
      refine At_loop_ret ?_
      replace h := Go.L.Nxt.out h hm92
      refine At_block_ret ?_
      refine At_cut_ret ?_
      obtain rfl := Option.some.inj h
      refine At_got3 rfl (.tmp rfl) (.tmp rfl) (.cell rfl underlying23 rfl zr23 (box_ptr (i := 3) hL106 rfl)) ?_
      exact ⟨hL106.ext, _, rfl, OwnH.nil⟩
     ·replace h := Go.L.ite_p hc100 h
      refine W_skip ?_
      refine At_seq ?_
      refine W_region ?_
      refine S_pu 2 rfl ?_
      refine S_litE (r := (.int .i64)) (l := [x96.1]) rfl (fun _ => bsl52_1 _ _) rfl (show 1 ≤ 9223372036854775807 by decide) hH hL99 (.c1 rfl .nil) ?_
      intro v108 w108 hx108 hL108 hle108 hv108
      replace hel89 := hel89.mono (gz_mono hH hle108)
      obtain ⟨hk110, h⟩ := Go.L.chk_some h
      refine S_appE (r := (.int .i64)) (l := l89) (m := [x96.1]) 1 rfl rfl underlying52 zr3 rfl (by decide) rfl hH hL108 rfl hel89 hv108 hk110 ?_
      intro v109 w109 xs109 hL109 hle109 he109
      replace hv108 := hv108.mono (gz_mono hH hle109)
      refine S_pu 3 rfl ?_
      refine S_nil ?_
      refine At_block ?_
      refine At_seq ?_
      refine W_region ?_
      obtain ⟨hk111, h⟩ := Go.L.chk_some h
      refine S_v (r_ar64 rfl rfl rfl hk111) rfl ?_
      refine S_pu 1 rfl ?_
      refine S_nil ?_
      have hL112 := hL109.dropAt (i := 0) rfl
      replace he109 := he109.mono (gz_mono hH (fz_dropAt (i := 0) rfl))
      have h := Go.L.Nxt.again h hm92
      refine At_round ((l89 ++ [x96.1]), x96.2.1, (s41_91 + (1 : Int)), v109, xs109, n92) (.cons rfl (.cons rfl (.cons rfl (.cons rfl (.cons rfl (.cons rfl (.cons rfl (Sub.nil _)))))))) ⟨hL112, he109, h⟩ (Nat.lt_succ_self _)
    ·replace h := Go.L.ite_n hc94 h
     refine W_exit ?_
     refine At_seq_exit ?_
     refine At_loop_exit ?_
     replace h := Go.L.Nxt.out h hm92
     refine At_exit ?_
     refine At_cut (l89, s12_90, vl89, xsl89) (.cons rfl (.cons rfl (.cons rfl (Sub.nil _)))) ⟨hL92, hel89, h⟩
   ·rintro ⟨l65, s12_66, vl65, xsl65⟩ wr67 ⟨hL67, hel65, h⟩
    refine W_p 2 rfl ?_
    refine S_v (r_build rfl (fun _ => bld23_z _)) rfl ?_
    refine S_pu 2 rfl ?_
    refine S_storeBN 2 rfl rfl rfl zr23 hL67 rfl rfl (onc rfl (onc rfl on0)) ?_
    intro w115 hL115 hle115
    replace hel65 := hel65.mono (gz_mono hH hle115)
    refine S_seqnil ?_
    refine W_ret ?_
    obtain rfl := Option.some.inj h
    refine At_got3 rfl (.tmp rfl) (.tmp rfl) (.cell rfl underlying23 rfl zr23 (box_ptr (i := 2) hL115 rfl)) ?_
    exact ⟨hL115.ext, _, rfl, (hL115.ownH hH (i := 0) rfl hel65)⟩
end Go.Proofs.YtmfiaecglndldaaGreatDoor
end
