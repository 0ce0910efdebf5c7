/- Rules for generated walks: a row of the call's own whose elements hold rows of bytes of the call's own. No program in sight. -/
import Derived.Test.YtdiieblgeaehpaaGreatDoorEngM
import Derived.Test.YtdiieblgeaehpaaGreatDoorEngT
namespace Go.E
open Go Go.RowKit
/-- Bytes in cells. -/
def bc (l : List UInt8) : List Value := l.map fun b => .int .u8 (b.toNat : Int)
theorem bc_of {G : PH} {l : List UInt8} {xs : List Value} (h : Elems Rp.byte G l xs) : xs = bc l := by
  induction h with
  | nil => rfl
  | cons h _ ih => rw [ih, show _ = _ from h]; rfl
/-- An element: plain cells, then one row of bytes. -/
structure Nb (α : Type) where
  pre : α → List Value
  dat : α → List UInt8
  upd : α → List UInt8 → α
  sz : Nat
  len : ∀ x, (pre x).length + 1 = sz
  one : ∀ x, ∀ u ∈ pre x, u.oneCell' = true
  preU : ∀ x d, pre (upd x d) = pre x
  datU : ∀ x d, dat (upd x d) = d
def Nb.b : Nb (List UInt8) := ⟨fun _ => [], fun x => x, fun _ d => d, 1, fun _ => rfl, (fun _ _ h => by cases h), fun _ _ => rfl, fun _ _ => rfl⟩
def Nb.s : Nb (Int × List UInt8) := ⟨fun x => [.int .i64 x.1], fun x => x.2, fun x d => (x.1, d), 2, fun _ => rfl, (fun _ u h => by simp at h; subst h; rfl), fun _ _ => rfl, fun _ _ => rfl⟩
section
variable {α : Type} (N : Nb α) (e : TypeId)
/-- The row of an element. -/
def nR (x : α) (v : Value) : Res := .row v e 1 (N.dat x).length (bc (N.dat x))
/-- The rows of the elements. -/
def nT : List α → List Value → List Res
  | x :: l, v :: vs => nR N e x v :: nT l vs
  | _, _ => []
/-- The cells of the outer row. -/
def nC : List α → List Value → List Value
  | x :: l, v :: vs => N.pre x ++ v :: nC l vs
  | _, _ => []
end
section
variable {α : Type} {N : Nb α} {e : TypeId}
theorem nthR_app : ∀ (A T : List Res) (i : Nat), nthR (A ++ T) (A.length + i) = nthR T i
  | [], T, i => by rw [List.nil_append, List.length_nil, Nat.zero_add]
  | a :: A, T, i => by rw [List.length_cons, show A.length + 1 + i = (A.length + i) + 1 by omega]; exact nthR_app A T i
theorem setR_app : ∀ (A T : List Res) (i : Nat) (r : Res), setR (A ++ T) (A.length + i) r = A ++ setR T i r
  | [], T, i, r => by rw [List.nil_append, List.length_nil, Nat.zero_add, List.nil_append]
  | a :: A, T, i, r => by rw [List.length_cons, show A.length + 1 + i = (A.length + i) + 1 by omega]; exact congrArg (a :: ·) (setR_app A T i r)
theorem nthR_left : ∀ {A : List Res} {i : Nat} {r : Res} (T : List Res), nthR A i = some r → nthR (A ++ T) i = some r
  | _ :: _, 0, _, _, h => h
  | _ :: A, i + 1, _, T, h => nthR_left (A := A) (i := i) T h
theorem setR_left : ∀ {A : List Res} {i : Nat} {r : Res} (s : Res) (T : List Res), nthR A i = some r → setR (A ++ T) i s = setR A i s ++ T
  | _ :: _, 0, _, _, _, _ => rfl
  | a :: A, i + 1, _, s, T, h => congrArg (a :: ·) (setR_left (A := A) (i := i) s T h)
end
section
variable {P : Program} {n : Sz} {ops : Array Oper} {Q : Exit → Act → World → Prop} {L : Env} {w w0 : World} {O : List Res} {rest : List Oper}
  {d : Nat} {ty : TypeId} {pos : String} {af : Array Edge} {α : Type} [Inhabited α] {N : Nb α} {x y : Operand} {vo : Value} {t e eo : TypeId} {A : List Res} {l : List α} {vs : List Value}
end
section
variable {P : Program} {n : Sz} {ops : Array Oper} {Q : Exit → Act → World → Prop} {L : Env} {w w0 : World} {rest : List Oper}
  {d d' : Nat} {ty ty' : TypeId} {pos pos' : String} {af af' : Array Edge} {α : Type} {N : Nb α} {x : Operand} {v vo : Value} {t e eo : TypeId} {H : PH} {l : List α} {vs : List Value}
end
/-- Two places of a list change their things. -/
def swp {α : Type} [Inhabited α] (l : List α) (i j : Nat) : List α := (l.set i (l.getD j default)).set j (l.getD i default)
section
variable {w w' w0 : World} {A T O O' : List Res} {α : Type} {N : Nb α} {r : Rp α} {vo : Value} {e eo : TypeId} {H : PH} {l : List α} {vs : List Value}
theorem delR_app : ∀ (A T : List Res) (i : Nat), delR (A ++ T) (A.length + i) = A ++ delR T i
  | [], T, i => by rw [List.nil_append, List.length_nil, Nat.zero_add, List.nil_append]
  | a :: A, T, i => by rw [List.length_cons, show A.length + 1 + i = (A.length + i) + 1 by omega]; exact congrArg (a :: ·) (delR_app A T i)
end
end Go.E
namespace Go.L
/-- What a list of entries knows of a key. -/
def mget {κ β : Type} [DecidableEq κ] (d : β) (k : κ) : List (κ × β) → β
  | [] => d
  | (a, y) :: l => if k = a then y else mget d k l
/-- An entry is turned or added. -/
def mput {κ β : Type} [DecidableEq κ] (k : κ) (y : β) : List (κ × β) → List (κ × β)
  | [] => [(k, y)]
  | (a, z) :: l => if k = a then (a, y) :: l else (a, z) :: mput k y l
end Go.L
namespace Go.E
open Go Go.RowKit
/-- Entries in the order in which they were made. -/
def mE {κ : Type} (enc : κ → Value) : Nat → List κ → List Value → List MapEntry
  | i, k :: l, v :: vs => ⟨enc k, v, i⟩ :: mE enc (i + 1) l vs
  | _, _, _ => []
/-- The place of a key. -/
def mI {κ : Type} [DecidableEq κ] (k : κ) : List κ → Option Nat
  | [] => none
  | a :: l => if k = a then some 0 else (mI k l).map (· + 1)
section
variable {κ : Type} {enc : κ → Value} {k : κ}
theorem mE_push {v : Value} : ∀ (l : List κ) (vs : List Value) (i : Nat), l.length = vs.length → mE enc i l vs ++ [⟨enc k, v, i + l.length⟩] = mE enc i (l ++ [k]) (vs ++ [v])
  | [], [], i, _ => by simp [mE]
  | a :: l, u :: vs, i, h => by
    have := mE_push (v := v) l vs (i + 1) (by simpa using h)
    simp only [mE, List.cons_append, List.length_cons]
    rw [← this, show i + (l.length + 1) = i + 1 + l.length by omega]
theorem mE_get : ∀ (l : List κ) (vs : List Value) (i m : Nat) (a : κ), l.length = vs.length → l[m]? = some a → (mE enc i l vs)[m]? = some ⟨enc a, vs.getD m default, i + m⟩
  | b :: l, u :: vs, i, 0, a, _, h => by simp at h; subst h; simp [mE]
  | b :: l, u :: vs, i, m + 1, a, hl, h => by
    have := mE_get l vs (i + 1) m a (by simpa using hl) (by simpa using h)
    simp only [mE, List.getElem?_cons_succ, this]
    simp; omega
theorem mE_modify {v : Value} : ∀ (l : List κ) (vs : List Value) (i m : Nat), l.length = vs.length → l[m]? = some k → (mE enc i l vs).modify m (fun e => { e with key := enc k, val := v }) = mE enc i l (vs.set m v)
  | b :: l, u :: vs, i, 0, _, h => by simp at h; subst h; simp [mE]
  | b :: l, u :: vs, i, m + 1, hl, h => by
    have := mE_modify (v := v) l vs (i + 1) m (by simpa using hl) (by simpa using h)
    simp only [mE, List.modify_succ_cons, List.set_cons_succ, this]
theorem mE_length : ∀ (l : List κ) (vs : List Value) (i : Nat), l.length = vs.length → (mE enc i l vs).length = l.length
  | [], [], _, _ => rfl
  | a :: l, u :: vs, i, h => by simp [mE, mE_length l vs (i + 1) (by simpa using h)]
end
/-- Keys that the model tells apart as the list does. -/
structure KeyOk (P : Program) {κ : Type} [DecidableEq κ] (kt : TypeId) (enc : κ → Value) : Prop where
  check : ∀ (b : Bool) (k : κ) w, (Instr.checkKey b 10000 kt (enc k)).run P w = .ok () w
  bits : ∀ k, Instr.sameBits 10000 (enc k) (enc k) = true
  find : ∃ dd, P.underlying kt = some dd ∧ ((∀ a b, Instr.sameNow dd (enc a) (enc b) = some (decide (a = b))) ∨
    ((∀ a b, Instr.sameNow dd (enc a) (enc b) = none) ∧ ∀ a b w, (Op.equal kt (enc a) (enc b)).run P w = .ok (decide (a = b)) w))
section
variable {P : Program} {κ : Type} [DecidableEq κ] {kt t et : TypeId} {enc : κ → Value} {k : κ}
theorem mI_lt : ∀ {l : List κ} {m : Nat}, mI k l = some m → m < l.length ∧ l[m]? = some k
  | a :: l, m, h => by
    simp only [mI] at h
    split at h
    · rename_i e; cases h; subst e; simp
    · cases h1 : mI k l with
      | none => rw [h1] at h; cases h
      | some j =>
        rw [h1] at h; cases h
        have := mI_lt h1
        simpa using this
theorem findNow_mE {dd : TypeDesc} (h : ∀ a b, Instr.sameNow dd (enc a) (enc b) = some (decide (a = b))) : ∀ (l : List κ) (vs : List Value) (i j : Nat), l.length = vs.length →
    Instr.findNow dd (enc k) (mE enc i l vs) j = some ((mI k l).map fun m => (j + m, vs.getD m default))
  | [], _, _, _, _ => by simp [mE, Instr.findNow, mI]
  | a :: l, v :: vs, i, j, hl => by
    simp only [mE, Instr.findNow, h, mI]
    by_cases e : k = a
    · simp [e]
    · simp only [e, decide_false]
      rw [findNow_mE h l vs (i + 1) (j + 1) (by simpa using hl)]
      cases mI k l with
      | none => simp
      | some m => simp; omega
theorem findAsking_mE (h : ∀ a b w, (Op.equal kt (enc a) (enc b)).run P w = .ok (decide (a = b)) w) (w : World) : ∀ (l : List κ) (vs : List Value) (i j : Nat), l.length = vs.length →
    (Instr.findAsking kt (enc k) (mE enc i l vs) j).run P w = .ok ((mI k l).map fun m => (j + m, vs.getD m default)) w
  | [], _, _, _, _ => by simp [mE, Instr.findAsking, mI]
  | a :: l, v :: vs, i, j, hl => by
    simp only [mE, Instr.findAsking, mI, Sem.run_bind, h, Result.andThen]
    by_cases e : k = a
    · simp [e]
    · simp only [e, decide_false]
      rw [if_neg (by simp), findAsking_mE h w l vs (i + 1) (j + 1) (by simpa using hl)]
      cases mI k l with
      | none => simp
      | some m => simp; omega
theorem find_mE (hk : KeyOk P kt enc) {l : List κ} {vs : List Value} (hl : l.length = vs.length) (w : World) :
    (Instr.findKey kt (enc k) (mE enc 0 l vs)).run P w = .ok ((mI k l).map fun m => (m, vs.getD m default)) w := by
  obtain ⟨dd, hd, h⟩ := hk.find
  unfold Instr.findKey
  rcases h with h | ⟨h1, h2⟩
  · simp [run_underlying hd, findNow_mE h l vs 0 0 hl]
  · cases l with
    | nil =>
      have : vs = [] := List.eq_nil_of_length_eq_zero (by simpa using hl.symm)
      subst this
      simp [run_underlying hd, mE, Instr.findNow, mI]
    | cons a l =>
      cases vs with
      | nil => cases hl
      | cons v vs =>
        have e : Instr.findNow dd (enc k) (mE enc 0 (a :: l) (v :: vs)) 0 = none := by simp only [mE, Instr.findNow, h1]
        simp only [Sem.run_bind, run_underlying hd, Result.andThen, e]
        have := findAsking_mE (k := k) h2 w (a :: l) (v :: vs) 0 0 hl
        rw [this]
        simp
/-- What lookup yields. -/
def lkV (z : Value) (k : κ) (l : List κ) (vs : List Value) : Value := match mI k l with
  | some m => vs.getD m default
  | none => z
def Mz (P : Program) (et : TypeId) (z : Value) : Prop := ∀ w, (zeroValue et).run P w = .ok z w
theorem lookup_run {w : World} {b n : Nat} {l : List κ} {vs : List Value} {z : Value} (hk : KeyOk P kt enc) (ht : P.underlying t = some (.map kt et)) (hz : Mz P et z) (hb : w.heap[b]? = some (.map (mE enc 0 l vs).toArray n)) (hl : l.length = vs.length) :
    (Instr.lookup t (.map (some b)) (enc k) false).run P w = .ok (lkV z k l vs) w := by
  have hg : (getObj b).run P w = .ok (.map (mE enc 0 l vs).toArray n) w := by simp [getObj, Sem.run, hb]
  simp only [Instr.lookup, Sem.run_bind, run_underlying ht, Result.andThen, hg, hk.check]
  simp only [Sem.run_pure]
  rw [find_mE hk hl]
  unfold lkV
  cases mI k l with
  | some m => simp
  | none => simp [hz w]
/-- The entries behind an update. -/
def upK (k : κ) (l : List κ) : List κ := match mI k l with
  | some _ => l
  | none => l ++ [k]
def upV (k : κ) (v : Value) (l : List κ) (vs : List Value) : List Value := match mI k l with
  | some m => vs.set m v
  | none => vs ++ [v]
theorem up_len {v : Value} {l : List κ} {vs : List Value} (hl : l.length = vs.length) : (upK k l).length = (upV k v l vs).length := by
  unfold upK upV
  cases mI k l <;> simp [hl]
theorem update_run {w : World} {b : Nat} {l : List κ} {vs : List Value} {v : Value} (hk : KeyOk P kt enc) (ht : P.underlying t = some (.map kt et)) (hb : w.heap[b]? = some (.map (mE enc 0 l vs).toArray l.length)) (hl : l.length = vs.length) :
    (Instr.mapUpdate t (.map (some b)) (enc k) v).run P w = .ok () (w.putObj b (.map (mE enc 0 (upK k l) (upV k v l vs)).toArray (upK k l).length)) := by
  have hg : (getObj b).run P w = .ok (.map (mE enc 0 l vs).toArray l.length) w := by simp [getObj, Sem.run, hb]
  have hs : ∀ o, (setObj b o).run P w = .ok () (w.putObj b o) := fun o => by simp [setObj, Sem.run, hb, World.putObj]
  simp only [Instr.mapUpdate, Sem.run_bind, run_underlying ht, Result.andThen, hg, hk.check]
  rw [find_mE hk hl]
  unfold upK upV
  cases hm : mI k l with
  | some m =>
    obtain ⟨h1, h2⟩ := mI_lt hm
    have he := mE_get (enc := enc) l vs 0 m k hl h2
    simp only [Option.map_some, Sem.run_bind, Result.andThen, List.getElem?_toArray, he, Option.getD_some, Instr.keyThatStays, hk.bits, if_true]
    simp only [Sem.run_pure]
    have e1 : (mE enc 0 l vs).toArray.modify m (fun e => { e with key := enc k, val := v }) = (mE enc 0 l (vs.set m v)).toArray := by rw [List.modify_toArray, mE_modify l vs 0 m hl h2]
    rw [e1]
    exact hs _
  | none =>
    have hp := mE_push (enc := enc) (k := k) (v := v) l vs 0 hl
    rw [Nat.zero_add] at hp
    simp only [Option.map_none, List.push_toArray]
    rw [hp, hs]
    simp
end
/-! ### Against lists of pairs -/
section
variable {κ β : Type} [DecidableEq κ] {k : κ} {z : Value} {enc : κ → Value} {ev' : β → Value}
theorem mI_none : ∀ {l : List (κ × β)} (d : β), mI k (l.map Prod.fst) = none → Go.L.mget d k l = d
  | [], _, _ => rfl
  | (a, y) :: l, d, h => by
    simp only [List.map_cons, mI] at h
    split at h
    · cases h
    · rename_i e
      simp only [Go.L.mget, if_neg e]
      exact mI_none d (by cases h1 : mI k (l.map Prod.fst) <;> simp_all)
theorem mI_some : ∀ {l : List (κ × β)} {m : Nat} (d : β), mI k (l.map Prod.fst) = some m → l[m]? = some (k, Go.L.mget d k l)
  | (a, y) :: l, m, d, h => by
    simp only [List.map_cons, mI] at h
    split at h
    · rename_i e; cases h; subst e; simp [Go.L.mget]
    · rename_i e
      cases h1 : mI k (l.map Prod.fst) with
      | none => rw [h1] at h; cases h
      | some j =>
        rw [h1] at h; cases h
        simpa [Go.L.mget, if_neg e] using mI_some d h1
theorem mput_none {y : β} : ∀ {l : List (κ × β)}, mI k (l.map Prod.fst) = none → Go.L.mput k y l = l ++ [(k, y)]
  | [], _ => rfl
  | (a, x) :: l, h => by
    simp only [List.map_cons, mI] at h
    split at h
    · cases h
    · rename_i e
      simp only [Go.L.mput, if_neg e, List.cons_append]
      rw [mput_none (by cases h1 : mI k (l.map Prod.fst) <;> simp_all)]
theorem mput_some {y : β} : ∀ {l : List (κ × β)} {m : Nat}, mI k (l.map Prod.fst) = some m → Go.L.mput k y l = l.set m (k, y)
  | (a, x) :: l, m, h => by
    simp only [List.map_cons, mI] at h
    split at h
    · rename_i e; cases h; subst e; simp [Go.L.mput]
    · rename_i e
      cases h1 : mI k (l.map Prod.fst) with
      | none => rw [h1] at h; cases h
      | some j =>
        rw [h1] at h; cases h
        simp only [Go.L.mput, if_neg e]
        rw [mput_some h1]
        rfl
theorem upK_mput {y : β} {l : List (κ × β)} : upK k (l.map Prod.fst) = (Go.L.mput k y l).map Prod.fst := by
  unfold upK
  cases h : mI k (l.map Prod.fst) with
  | none => rw [mput_none h]; simp
  | some m =>
    rw [mput_some h]
    obtain ⟨h1, h2⟩ := mI_lt h
    simp only [List.map_set]
    obtain ⟨h3, h4⟩ := List.getElem?_eq_some_iff.1 h2
    conv => lhs; rw [← List.set_getElem_self h3, h4]
theorem upV_mput {y : β} {l : List (κ × β)} : upV k (ev' y) (l.map Prod.fst) (l.map fun x => ev' x.2) = (Go.L.mput k y l).map fun x => ev' x.2 := by
  unfold upV
  cases h : mI k (l.map Prod.fst) with
  | none => rw [mput_none h]; simp
  | some m => rw [mput_some h]; simp [List.map_set]
theorem lkV_mget {d : β} {l : List (κ × β)} : lkV (ev' d) k (l.map Prod.fst) (l.map fun x => ev' x.2) = ev' (Go.L.mget d k l) := by
  unfold lkV
  cases h : mI k (l.map Prod.fst) with
  | none => rw [mI_none d h]
  | some m =>
    have := mI_some d h
    simp only [List.getD_eq_getElem?_getD, List.getElem?_map, this]
    rfl
end
/-! ### A map of plain values -/
/-- A map's object. -/
abbrev mpR {κ β : Type} (enc : κ → Value) (b : Nat) (l : List (κ × β)) (vs : List Value) : Res := .obj b (.map (mE enc 0 (l.map Prod.fst) vs).toArray l.length)
section
variable {P : Program} {n : Sz} {ops : Array Oper} {Q : Exit → Act → World → Prop} {L : Env} {w w0 : World} {O : List Res} {rest : List Oper} {d : Nat} {ty t kt et : TypeId} {pos : String} {af : Array Edge} {x y x' : Operand}
  {κ β : Type} [DecidableEq κ] {enc : κ → Value} {ev' : β → Value} {l : List (κ × β)} {k : κ} {H : PH}
omit [DecidableEq κ] in
/-- 'map[K]V{}'. -/
theorem S_makeMap (enc : κ → Value) (β : Type) (hn : Nat.blt d n.n = true) (hL : Lcl w0 O w)
    (h : ∀ w' b, Lcl w0 (mpR enc b ([] : List (κ × β)) [] :: O) w' → Le (fz w O) (fz w' (mpR enc b ([] : List (κ × β)) [] :: O)) → S P n ops Q rest ((d, .map (some b)) :: L) w') : S P n ops Q (⟨some d, .makeMap t none, ty, pos, af, none⟩ :: rest) L w := by
  have hb : ∀ b, (Res.obj w.heap.size (.map (mE enc 0 (([] : List (κ × β)).map Prod.fst) []).toArray ([] : List (κ × β)).length)).block = some b → w.heap.size ≤ b := fun b e => by cases e; exact Nat.le_refl _
  refine S_value (v := .map (some w.heap.size)) (w' := w.alloc (.map #[] 0)) rfl rfl hn (fun ρ hρ => ?_) (h _ _ (hL.new (ext_alloc w _) (World.alloc_heap_new w _) hb) (fz_new hL (ext_alloc w (.map #[] 0)) hb))
  simp [execOp, Instr.makeMap, newObj, Sem.run]
/-- 'm[k]' of plain values. -/
theorem r_lookP (i : Nat) {b : Nat} {dv : β} (hx : ev L x = some (.map (some b))) (hy : ev L y = some (enc k)) (ht : P.underlying t = some (.map kt et)) (hk : KeyOk P kt enc) (hz : Mz P et (ev' dv)) (hL : Lcl w0 O w)
    (hi : nthR O i = some (mpR enc b l (l.map fun x => ev' x.2))) : RunsAt P L w (.lookup t x y false) ty (ev' (Go.L.mget dv k l)) := fun w' hx' ρ hρ dst pos af g => by
  have hb : w'.heap[b]? = _ := (hL.call hx').at hi
  have := lookup_run (k := k) (l := l.map Prod.fst) (vs := l.map fun x => ev' x.2) hk ht hz hb (by simp)
  rw [lkV_mget] at this
  simp [execOp, hρ x _ hx, hρ y _ hy, this]
/-- 'm[k] = v' of plain values. -/
theorem S_mapSet (i : Nat) {b : Nat} {z : β} (hx : ev L x = some (.map (some b))) (hy : ev L y = some (enc k)) (hv : ev L x' = some (ev' z)) (ht : P.underlying t = some (.map kt et)) (hk : KeyOk P kt enc) (hL : Lcl w0 O w)
    (hi : nthR O i = some (mpR enc b l (l.map fun x => ev' x.2)))
    (h : ∀ w', Lcl w0 (setR O i (mpR enc b (Go.L.mput k z l) ((Go.L.mput k z l).map fun x => ev' x.2))) w' → Le (fz w O) (fz w' (setR O i (mpR enc b (Go.L.mput k z l) ((Go.L.mput k z l).map fun x => ev' x.2)))) → S P n ops Q rest L w') :
    S P n ops Q (⟨none, .mapUpdate t x y x', ty, pos, af, none⟩ :: rest) L w := by
  have hb : w.heap[b]? = some (.map (mE enc 0 (l.map Prod.fst) (l.map fun x => ev' x.2)).toArray l.length) := hL.at hi
  have hu := update_run (k := k) (v := ev' z) (l := l.map Prod.fst) (vs := l.map fun x => ev' x.2) hk ht (by rw [List.length_map]; exact hb) (by simp)
  rw [upV_mput, upK_mput (y := z), List.length_map] at hu
  have hp := hL.putAt (.map (mE enc 0 ((Go.L.mput k z l).map Prod.fst) ((Go.L.mput k z l).map fun x => ev' x.2)).toArray (Go.L.mput k z l).length) hi
  refine S_effect (w' := _) rfl rfl (fun ρ hρ => ?_) (h _ hp.1 hp.2)
  simp [execOp, hρ x _ hx, hρ y _ hy, hρ x' _ hv, hu]
end
/-! ### A map of slices of the call's own -/
section
variable {κ α : Type} (cw : α → List Value) (e : TypeId) (sz : Nat)
def mR (x : List α) (v : Value) : Res := .row v e sz x.length (x.flatMap cw)
def mT : List (κ × List α) → List Value → List Res
  | x :: l, v :: vs => mR cw e sz x.2 v :: mT l vs
  | _, _ => []
end
section
variable {κ α : Type} {cw : α → List Value} {e : TypeId} {sz : Nat}
theorem mT_at : ∀ {l : List (κ × List α)} {vs : List Value}, l.length = vs.length → ∀ {i : Nat} {k : κ} {x : List α}, l[i]? = some (k, x) → nthR (mT cw e sz l vs) i = some (mR cw e sz x (vs.getD i default))
  | y :: l, v :: vs, h, 0, k, x, hx => by simp at hx; subst hx; rfl
  | y :: l, v :: vs, h, i + 1, k, x, hx => by
    have := mT_at (l := l) (vs := vs) (by simpa using h) (i := i) (by simpa using hx)
    simpa [mT, nthR] using this
theorem mT_set : ∀ {l : List (κ × List α)} {vs : List Value}, l.length = vs.length → ∀ {i : Nat} (k : κ) (x : List α) (v : Value), i < l.length → setR (mT cw e sz l vs) i (mR cw e sz x v) = mT cw e sz (l.set i (k, x)) (vs.set i v)
  | y :: l, u :: vs, h, 0, k, x, v, _ => rfl
  | y :: l, u :: vs, h, i + 1, k, x, v, hi => by
    have := mT_set (l := l) (vs := vs) (by simpa using h) (i := i) k x v (by simpa using hi)
    simp [mT, setR, this]
theorem mT_push (k : κ) (x : List α) (v : Value) : ∀ {l : List (κ × List α)} {vs : List Value}, l.length = vs.length → mT cw e sz (l ++ [(k, x)]) (vs ++ [v]) = mT cw e sz l vs ++ [mR cw e sz x v]
  | [], [], _ => rfl
  | y :: l, u :: vs, h => by
    have := mT_push k x v (l := l) (vs := vs) (by simpa using h)
    simp [mT, this]
end
section
variable {P : Program} {n : Sz} {ops : Array Oper} {Q : Exit → Act → World → Prop} {L : Env} {w w0 : World} {O : List Res} {rest : List Oper} {d : Nat} {ty ty' t mt kt et e : TypeId} {pos pos' : String} {af af' : Array Edge} {x y x' m' : Operand}
  {κ α : Type} [DecidableEq κ] {enc : κ → Value} {cw : α → List Value} {sz : Nat} {l : List (κ × List α)} {vs : List Value} {k : κ} {H : PH} {A : List Res}
/-- Between append and the update: the rows as they will be, in some order. -/
def Pend (cw : α → List Value) (e : TypeId) (sz : Nat) (l : List (κ × List α)) (vs : List Value) (k : κ) (y : List α) (v : Value) (T : List Res) : Prop :=
  v.oneCell' = true ∧ l.length = vs.length ∧ T.Perm (mT cw e sz (Go.L.mput k y l) (upV k v (l.map Prod.fst) vs))
/-- 'append(m[k], z)', behind the look. -/
theorem S_appM {r : Rp α} {bt : Nat} {zz u : Value} {z : α} (hr : ∀ G (x : α) c, r.rel G x c ↔ c = cw x) (hsz : r.sz = sz) (hx : ev L x = some (lkV (.slice none 0 0) k (l.map Prod.fst) vs)) (hy : ev L y = some u) (ht : P.underlying t = some (.slice e)) (hz : Zr P e zz sz bt) (hzs : zz.cells.size = sz) (h0 : 0 < sz) (hn : Nat.blt d n.n = true)
    (hH : Le H (hp w0)) (hL : Lcl w0 (A ++ mT cw e sz l vs) w) (hl : l.length = vs.length) (hu : Vec r (gz H w0 w (A ++ mT cw e sz l vs)) u [z]) (hby : Cap bt ((Go.L.mget [] k l).length + 1))
    (h : ∀ v' w' T, Pend cw e sz l vs k (Go.L.mget [] k l ++ [z]) v' T → Lcl w0 (A ++ T) w' → Le (fz w (A ++ mT cw e sz l vs)) (fz w' (A ++ T)) → S P n ops Q rest ((d, v') :: L) w') :
    S P n ops Q (⟨some d, .call ⟨.builtin .append, #[x, y], #[t, t]⟩, ty, pos, af, none⟩ :: rest) L w := by
  have hel : ∃ news, news = cw z ∧ Src (hp w) sz u 1 news := by
    obtain ⟨news, h1, h2⟩ := hu.elems
    have h3 : news = cw z := by
      cases h1 with
      | cons hc ht => cases ht; rw [List.append_nil]; exact (hr _ _ _).1 hc
    rw [hsz] at h2
    exact ⟨news, h3, h2.mono (gz_le hH hL)⟩
  obtain ⟨news, rfl, hsrc⟩ := hel
  have hone : ∀ c ∈ cw z, c.oneCell' = true := fun c hc => r.one (H := H) ((hr H z (cw z)).2 rfl) c hc
  cases hmi : mI k (l.map Prod.fst) with
  | some m =>
    obtain ⟨h1, h2⟩ := mI_lt hmi
    have h1' : m < l.length := by simpa using h1
    have hg := mI_some ([] : List α) hmi
    have hrow := mT_at (cw := cw) (e := e) (sz := sz) hl hg
    have hlk : lkV (.slice none 0 0) k (l.map Prod.fst) vs = vs.getD m default := by unfold lkV; rw [hmi]
    rw [hlk] at hx
    have hO : nthR (A ++ mT cw e sz l vs) (A.length + m) = some (.row (vs.getD m default) e sz (Go.L.mget [] k l).length ((Go.L.mget [] k l).flatMap cw)) := by rw [nthR_app]; exact hrow
    refine S_append (A.length + m) hx hy ht hz hzs h0 hn hL hO hsrc hone hby fun v' w' hL' hle' => ?_
    have e1 : (.row v' e sz ((Go.L.mget [] k l).length + 1) ((Go.L.mget [] k l).flatMap cw ++ cw z) : Res) = mR cw e sz (Go.L.mget [] k l ++ [z]) v' := by simp [mR]
    rw [e1, setR_app, mT_set hl k _ _ h1'] at hL' hle'
    have e2 : upV k v' (l.map Prod.fst) vs = vs.set m v' := by unfold upV; rw [hmi]
    refine h v' w' _ ⟨?_, hl, ?_⟩ hL' hle'
    · have hl1 : (l.set m (k, Go.L.mget [] k l ++ [z])).length = (vs.set m v').length := by simp [hl]
      have hg2 : (l.set m (k, Go.L.mget [] k l ++ [z]))[m]? = some (k, Go.L.mget [] k l ++ [z]) := by simp [h1']
      have hr2 := mT_at (cw := cw) (e := e) (sz := sz) hl1 hg2
      have hgv : (vs.set m v').getD m default = v' := by simp [List.getD_eq_getElem?_getD, show m < vs.length by omega]
      rw [hgv] at hr2
      have := hL'.at (i := A.length + m) (r := mR cw e sz (Go.L.mget [] k l ++ [z]) v') (by rw [nthR_app]; exact hr2)
      exact row_one this
    · rw [e2, mput_some hmi]
  | none =>
    have hg := mI_none ([] : List α) hmi
    have hlk : lkV (.slice none 0 0) k (l.map Prod.fst) vs = .slice none 0 0 := by unfold lkV; rw [hmi]
    rw [hlk] at hx
    have hnil := row_nil hL e sz
    have hby' : Cap bt (0 + 1) := by rw [hg] at hby; exact hby
    refine S_append 0 hx hy ht hz hzs h0 hn hnil.1 rfl hsrc hone hby' fun v' w' hL' hle' => ?_
    have hp : (A ++ (mT cw e sz l vs ++ [mR cw e sz [z] v'])).Perm (.row v' e sz (0 + 1) ([] ++ cw z) :: (A ++ mT cw e sz l vs)) := by
      rw [← List.append_assoc]
      have : (mR cw e sz [z] v' : Res) = .row v' e sz (0 + 1) ([] ++ cw z) := by simp [mR]
      rw [this]
      exact List.perm_append_singleton _ _
    have e2 : upV k v' (l.map Prod.fst) vs = vs ++ [v'] := by unfold upV; rw [hmi]
    refine h v' w' (mT cw e sz l vs ++ [mR cw e sz [z] v']) ⟨row_one (hL'.at (i := 0) rfl), hl, ?_⟩ (hL'.perm hp) ?_
    · rw [e2, mput_none hmi, hg, List.nil_append, mT_push k [z] v' hl]
    · rw [fz_perm hp]; exact hnil.2.trans hle'
/-- 'm[k] = v', behind append. -/
theorem S_updM (ib : Nat) {b : Nat} {v : Value} {yl : List α} {T : List Res} (hpd : Pend cw e sz l vs k yl v T) (hm : ev L m' = some (.map (some b))) (hkx : ev L x' = some (enc k)) (hv : ev L x = some v) (hmt : P.underlying mt = some (.map kt et)) (hk : KeyOk P kt enc)
    (hL : Lcl w0 (A ++ T) w) (hib : nthR A ib = some (mpR enc b l vs))
    (h : ∀ vs' w', (Go.L.mput k yl l).length = vs'.length → Lcl w0 (setR A ib (mpR enc b (Go.L.mput k yl l) vs') ++ mT cw e sz (Go.L.mput k yl l) vs') w' →
      Le (fz w (A ++ T)) (fz w' (setR A ib (mpR enc b (Go.L.mput k yl l) vs') ++ mT cw e sz (Go.L.mput k yl l) vs')) → S P n ops Q rest L w') :
    S P n ops Q (⟨none, .mapUpdate mt m' x' x, ty, pos, af, none⟩ :: rest) L w := by
  obtain ⟨_, hl, hpm⟩ := hpd
  have hb : w.heap[b]? = some (.map (mE enc 0 (l.map Prod.fst) vs).toArray l.length) := hL.at (nthR_left T hib)
  have hur := update_run (k := k) (v := v) (l := l.map Prod.fst) (vs := vs) hk hmt (by rw [List.length_map]; exact hb) (by simp [hl])
  rw [upK_mput (y := yl), List.length_map] at hur
  have hp := hL.putAt (.map (mE enc 0 ((Go.L.mput k yl l).map Prod.fst) (upV k v (l.map Prod.fst) vs)).toArray (Go.L.mput k yl l).length) (nthR_left T hib)
  rw [setR_left _ _ hib] at hp
  have hpm2 := List.Perm.append_left (setR A ib (mpR enc b (Go.L.mput k yl l) (upV k v (l.map Prod.fst) vs))) hpm.symm
  have hlen := up_len (k := k) (v := v) (l := l.map Prod.fst) (vs := vs) (by simp [hl])
  rw [upK_mput (y := yl), List.length_map] at hlen
  refine S_effect (w' := _) rfl rfl (fun ρ hρ => ?_) (h (upV k v (l.map Prod.fst) vs) _ hlen (hp.1.perm hpm2) ?_)
  · simp [execOp, hρ m' _ hm, hρ x' _ hkx, hρ x _ hv, hur]
  · rw [fz_perm hpm2]; exact hp.2
end
/-! ### A map that lies fast -/
def VMap {κ β : Type} (enc : κ → Value) (r : Rp β) (H : PH) (v : Value) (l : List (κ × β)) : Prop :=
  ∃ b vs, v = .map (some b) ∧ H b = some (.map (mE enc 0 (l.map Prod.fst) vs).toArray l.length) ∧ l.length = vs.length ∧ ∀ i x, l[i]? = some x → r.rel H x.2 [vs.getD i default]
theorem VMap.mono {κ β : Type} {enc : κ → Value} {r : Rp β} {H H' : PH} {v : Value} {l : List (κ × β)} (h : VMap enc r H v l) (hs : Le H H') : VMap enc r H' v l := by
  obtain ⟨b, vs, h1, h2, h3, h4⟩ := h
  exact ⟨b, vs, h1, hs _ _ h2, h3, fun i x hx => r.mono hs (h4 i x hx)⟩
section
variable {P : Program} {L : Env} {w w0 : World} {ty t kt et e : TypeId} {x y : Operand} {κ α : Type} [DecidableEq κ] {enc : κ → Value} {cw : α → List Value} {r : Rp α} {sz : Nat} {l : List (κ × List α)} {vs : List Value} {k : κ} {H : PH} {A : List Res}
omit [DecidableEq κ] in
theorem mT_fast (hsz : r.sz = sz) (hr : ∀ G (x : α) c, r.rel G x c ↔ c = cw x) (hH : Le H (hp w0)) : ∀ {l : List (κ × List α)} {vs : List Value}, l.length = vs.length → Lcl w0 (A ++ mT cw e sz l vs) w → Lcl w0 A w ∧ Le (fz w (A ++ mT cw e sz l vs)) (fz w A) ∧ ∀ i x, l[i]? = some x → Vec r (gz H w0 w A) (vs.getD i default) x.2
  | [], [], _, hL => ⟨by simpa [mT] using hL, by simp only [mT, List.append_nil]; exact Le.refl _, fun i x hx => by cases hx⟩
  | y :: l, v :: vs, hn, hL => by
    have hi : nthR (A ++ mT cw e sz (y :: l) (v :: vs)) (A.length + 0) = some (.row v e r.sz y.2.length (y.2.flatMap cw)) := by rw [nthR_app, hsz]; rfl
    have hel : Elems r (gz H w0 w (A ++ mT cw e sz (y :: l) (v :: vs))) y.2 (y.2.flatMap cw) := by
      generalize gz H w0 w (A ++ mT cw e sz (y :: l) (v :: vs)) = G
      induction y.2 with
      | nil => exact .nil
      | cons a m ih => rw [List.flatMap_cons]; exact .cons ((hr _ _ _).2 rfl) ih
    have hv := hL.vecG hH hi hel
    have hL2 := hL.dropAt hi
    have hf2 := fz_dropAt (w := w) hi
    rw [delR_app] at hv hL2 hf2
    obtain ⟨h1, h2, h3⟩ := mT_fast hsz hr hH (l := l) (vs := vs) (by simpa using hn) hL2
    refine ⟨h1, hf2.trans h2, fun i x hx => ?_⟩
    cases i with
    | zero => simp at hx; subst hx; exact hv.mono (gz_mono hH h2)
    | succ i => simpa using h3 i x (by simpa using hx)
  | [], _ :: _, h, _ => by cases h
  | _ :: _, [], h, _ => by cases h
omit [DecidableEq κ] in
/-- All of it lies fast from now on. -/
theorem map_pub (ib : Nat) {b : Nat} (hsz : r.sz = sz) (hr : ∀ G (x : α) c, r.rel G x c ↔ c = cw x) (hH : Le H (hp w0)) (hl : l.length = vs.length) (hL : Lcl w0 (A ++ mT cw e sz l vs) w) (hib : nthR A ib = some (mpR enc b l vs)) :
    Lcl w0 (delR A ib) w ∧ Le (fz w (A ++ mT cw e sz l vs)) (fz w (delR A ib)) ∧ VMap enc (.vec r) (gz H w0 w (delR A ib)) (.map (some b)) l := by
  obtain ⟨h1, h2, h3⟩ := mT_fast hsz hr hH hl hL
  have h4 := fz_dropAt (w := w) hib
  have hb := h1.at hib
  refine ⟨h1.dropAt hib, h2.trans h4, b, vs, rfl, ?_, hl, fun i x hx => ⟨_, rfl, (h3 i x hx).mono (gz_mono hH h4)⟩⟩
  have hge := h1.own _ ((perm_nth hib).mem_iff.2 (.head _)) b rfl
  have h5 : fz w (delR A ib) b = w.heap[b]? := fz_hp_drop hib rfl h1.dis
  refine gz_right b _ ?_
  unfold nf
  rw [if_pos hge, h5]; exact hb
/-- 'm[k]' of slices that lie fast. -/
theorem lookF {v : Value} (hm : VMap enc (.vec r) H v l) (hk : KeyOk P kt enc) (ht : P.underlying t = some (.map kt et)) (hz : Mz P et (.slice none 0 0)) (hx : ev L x = some v) (hy : ev L y = some (enc k)) (hs : Le H (hp w)) :
    ∃ u, RunsAt P L w (.lookup t x y false) ty u ∧ Vec r H u (Go.L.mget [] k l) := by
  obtain ⟨b, vs, rfl, h2, h3, h4⟩ := hm
  refine ⟨lkV (.slice none 0 0) k (l.map Prod.fst) vs, fun w' hx' ρ hρ dst pos af g => ?_, ?_⟩
  · have := lookup_run (k := k) (l := l.map Prod.fst) (vs := vs) hk ht hz (hx'.le _ _ (hs _ _ h2)) (by simp [h3])
    simp [execOp, hρ x _ hx, hρ y _ hy, this]
  · unfold lkV
    cases hmi : mI k (l.map Prod.fst) with
    | none => rw [mI_none [] hmi]; exact Vec.nil r H
    | some m =>
      obtain ⟨u, hu1, hu2⟩ := h4 m _ (mI_some [] hmi)
      simp only [List.cons.injEq, and_true] at hu1
      show Vec r H (vs.getD m default) _
      rw [hu1]; exact hu2
end
end Go.E
