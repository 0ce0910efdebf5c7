/- Texts of a claim, merged. -/
import Derived.Test.YtmfiaecglndldaaGreatDoorKb1
import Derived.Recover
import Derived.RangeFuncSeq
import Derived.RangeFuncLeaves
import Derived.RangeFuncCalls
import Derived.OrdersIn
import Derived.Scope
import Derived.Lib.Builder
import Derived.Lib.UnsafeStr
import Derived.Lib.OthersKept
import Derived.Lib.SliceRun
import Derived.Test.YtmfiaecglndldaaGreatDoorRows
import Derived.KernelRfl
import Derived.Shelf.Strings.FuncGrows
set_option linter.unusedVariables false
set_option linter.unusedSimpArgs false
section
namespace Go.L
/-- What may have panicked: none leads to ex. -/
def onX {α β : Type} (x : Option α) (ex : Option β) (k : α → Option β) : Option β := match x with
  | none => ex
  | some y => k y
end Go.L
namespace Go.E
open Go Go.RowKit
/-- One panic, not recovered. -/
abbrev pch (v : Value) : List PanicEntry := [{ v := v, recovered := false }]
/-- The same one, recovered. -/
abbrev pchR (v : Value) : List PanicEntry := [{ v := v, recovered := true }]
/-- The ending of a call that may panic with this value (then: none). -/
def RqX (pv : Value) (R : Option Value → World → Prop) : Ending → World → Prop
  | .returned v, w => R (some v) w
  | .panicked c, w => c = pch pv ∧ R none w
  | .outgrown, _ => False
def OkX (P : Program) (f : FuncId) (args : List Value) (w : World) (pv : Value) (R : Option Value → World → Prop) : Prop :=
  Callable P f ∧ Calls P f args.toArray w (RqX pv R)
theorem OkX.mono {P : Program} {f : FuncId} {args : List Value} {w : World} {pv : Value} {R R' : Option Value → World → Prop} (h : OkX P f args w pv R) (hr : ∀ v w', R v w' → R' v w') : OkX P f args w pv R' :=
  ⟨h.1, h.2.mono fun e w' k => by
    cases e with
    | returned v => exact hr _ _ k
    | panicked c => exact ⟨k.1, hr _ _ k.2⟩
    | outgrown => exact k⟩
section
variable {P : Program} {n : Sz} {ops : Array Oper} {Q : Exit → Act → World → Prop} {L : Env} {w : World} {rest : List Oper} {d : Nat} {dst : Option Tmp} {ty : TypeId} {pos : String} {af : Array Edge} {pv : Value}
/-! ### Deferred calls -/
/-- The frame's mode behind 'recover()', and what it yields. -/
inductive RecAt (pv : Value) : FrameMode → FrameMode → Value → Prop
  | no : RecAt pv .returning .returning .nilIface
  | yes : RecAt pv (.panicking (pch pv)) (.panicking (pchR pv)) pv
end
end Go.E
namespace Go.E
open Go Go.RowKit
section
variable {P : Program} {n : Sz} {Q : Exit → Act → World → Prop} {L : Env} {w : World}
/-! ### Scopes and labels that nobody jumps to -/
theorem W_scope {c : Code} (h : W P n c (Exit.noGoto Q) L w) : W P n (.scope c) Q L w := fun a fr => wp_scope_straight (h a fr)
theorem At_scope_ret (h : At n Q .ret L w) : At n (Exit.noGoto Q) .ret L w := h
end
/-! ### Operations inside a fence that lets everything in -/
/-- The wide fence, for a frame of a function or of a round. -/
def Wid (F : Fence) : Prop := F = Fence.wide ∨ ∃ l, F = Fence.wide.inRound l
theorem Wid.fn {F : Fence} (h : Wid F) (f : FuncId) : F.fn f := by rcases h with rfl | ⟨l, rfl⟩ <;> exact trivial
theorem Wid.calls {F : Fence} (h : Wid F) {n : Nat} {P : Program} {f : FuncId} {args : Array Value} {w : World} {R : Ending → World → Prop} (k : Calls P f args w R) : CallsIn F n P f args w R := by
  rcases h with rfl | ⟨l, rfl⟩
  · exact callsIn_wide.2 k
  · exact (callsIn_wide.2 k).inRound l
theorem Wid.rows {F : Fence} (h : Wid F) {n : Nat} {P : Program} {row : String} {args : Array Value} {w : World} {R : Value → World → Prop} (k : Rows P row args w R) : RowsIn F n P row args w R := by
  intro c cs _
  obtain ⟨v, w', hR, hs⟩ := k c cs
  refine ⟨v, w', hR, ?_⟩
  rcases h with rfl | ⟨l, rfl⟩
  · exact stepsIn_wide.2 hs
  · rw [fenced_inRound]; exact stepsIn_wide.2 hs
section
variable {P : Program} {n : Sz} {ops : Array Oper} {Q : Exit → Act → World → Prop} {L : Env} {w : World} {rest : List Oper}
/-! ### A region in which yield is called -/
end
/-! ### A loop whose rounds append the element to a slice in a variable -/
section
variable {P : Program} {j : Nat} {n : Sz} {Q : Exit → Act → World → Prop} {L : Env} {w : World}
/-- An object that is owned is turned into another one. -/
theorem Lcl.putAt [Dr] {w0 : World} {O : List Res} {i b : Nat} {o : Obj} (o' : Obj) (hL : Lcl w0 O w) (hi : nthR O i = some (.obj b o)) : Lcl w0 (setR O i (.obj b o')) (w.putObj b o') ∧ Le (fz w O) (fz (w.putObj b o') (setR O i (.obj b o'))) := by
  have hg : w.grownBy (w.putObj b o') (some b) := ⟨rfl, rfl, rfl, by simp, fun k _ hk => World.putObj_heap_other (fun e => hk (by rw [e]))⟩
  have hlt : b < w.heap.size := (hL.at hi).lt rfl
  exact ⟨hL.turnAt hi (Nat.le_refl _) hg (World.putObj_heap_same hlt) (fun k e => .inl e), fz_turnAt hL hi hg (fun k e => .inl e)⟩
/-! ### The function that holds the statement -/
end
end Go.E
end
section
namespace Go.E
open Go Go.RowKit
/-- An element: plain cells, then one row of bytes. -/
structure Nb (α : Type) where
  pre : α → List Value
  dat : α → List UInt8
  upd : α → List UInt8 → α
  sz : Nat
  len : ∀ x, (pre x).length + 1 = sz
  one : ∀ x, ∀ u ∈ pre x, u.oneCell' = true
  preU : ∀ x d, pre (upd x d) = pre x
  datU : ∀ x d, dat (upd x d) = d
def Nb.b : Nb (List UInt8) := ⟨fun _ => [], fun x => x, fun _ d => d, 1, fun _ => rfl, (fun _ _ h => by cases h), fun _ _ => rfl, fun _ _ => rfl⟩
def Nb.s : Nb (Int × List UInt8) := ⟨fun x => [.int .i64 x.1], fun x => x.2, fun x d => (x.1, d), 2, fun _ => rfl, (fun _ u h => by simp at h; subst h; rfl), fun _ _ => rfl, fun _ _ => rfl⟩
section
variable {α : Type} (N : Nb α) (e : TypeId)
end
section
variable {α : Type} {N : Nb α} {e : TypeId}
theorem nthR_app : ∀ (A T : List Res) (i : Nat), nthR (A ++ T) (A.length + i) = nthR T i
  | [], T, i => by rw [List.nil_append, List.length_nil, Nat.zero_add]
  | a :: A, T, i => by rw [List.length_cons, show A.length + 1 + i = (A.length + i) + 1 by omega]; exact nthR_app A T i
theorem setR_app : ∀ (A T : List Res) (i : Nat) (r : Res), setR (A ++ T) (A.length + i) r = A ++ setR T i r
  | [], T, i, r => by rw [List.nil_append, List.length_nil, Nat.zero_add, List.nil_append]
  | a :: A, T, i, r => by rw [List.length_cons, show A.length + 1 + i = (A.length + i) + 1 by omega]; exact congrArg (a :: ·) (setR_app A T i r)
theorem nthR_left : ∀ {A : List Res} {i : Nat} {r : Res} (T : List Res), nthR A i = some r → nthR (A ++ T) i = some r
  | _ :: _, 0, _, _, h => h
  | _ :: A, i + 1, _, T, h => nthR_left (A := A) (i := i) T h
theorem setR_left : ∀ {A : List Res} {i : Nat} {r : Res} (s : Res) (T : List Res), nthR A i = some r → setR (A ++ T) i s = setR A i s ++ T
  | _ :: _, 0, _, _, _, _ => rfl
  | a :: A, i + 1, _, s, T, h => congrArg (a :: ·) (setR_left (A := A) (i := i) s T h)
end
section
variable {P : Program} {n : Sz} {ops : Array Oper} {Q : Exit → Act → World → Prop} {L : Env} {w w0 : World} {O : List Res} {rest : List Oper}
  {d : Nat} {ty : TypeId} {pos : String} {af : Array Edge} {α : Type} [Inhabited α] {N : Nb α} {x y : Operand} {vo : Value} {t e eo : TypeId} {A : List Res} {l : List α} {vs : List Value}
end
section
variable {P : Program} {n : Sz} {ops : Array Oper} {Q : Exit → Act → World → Prop} {L : Env} {w w0 : World} {rest : List Oper}
  {d d' : Nat} {ty ty' : TypeId} {pos pos' : String} {af af' : Array Edge} {α : Type} {N : Nb α} {x : Operand} {v vo : Value} {t e eo : TypeId} {H : PH} {l : List α} {vs : List Value}
end
section
variable {w w' w0 : World} {A T O O' : List Res} {α : Type} {N : Nb α} {r : Rp α} {vo : Value} {e eo : TypeId} {H : PH} {l : List α} {vs : List Value}
theorem delR_app : ∀ (A T : List Res) (i : Nat), delR (A ++ T) (A.length + i) = A ++ delR T i
  | [], T, i => by rw [List.nil_append, List.length_nil, Nat.zero_add, List.nil_append]
  | a :: A, T, i => by rw [List.length_cons, show A.length + 1 + i = (A.length + i) + 1 by omega]; exact congrArg (a :: ·) (delR_app A T i)
end
end Go.E
namespace Go.L
/-- What a list of entries knows of a key. -/
def mget {κ β : Type} [DecidableEq κ] (d : β) (k : κ) : List (κ × β) → β
  | [] => d
  | (a, y) :: l => if k = a then y else mget d k l
/-- An entry is turned or added. -/
def mput {κ β : Type} [DecidableEq κ] (k : κ) (y : β) : List (κ × β) → List (κ × β)
  | [] => [(k, y)]
  | (a, z) :: l => if k = a then (a, y) :: l else (a, z) :: mput k y l
end Go.L
namespace Go.E
open Go Go.RowKit
/-- Entries in the order in which they were made. -/
def mE {κ : Type} (enc : κ → Value) : Nat → List κ → List Value → List MapEntry
  | i, k :: l, v :: vs => ⟨enc k, v, i⟩ :: mE enc (i + 1) l vs
  | _, _, _ => []
/-- The place of a key. -/
def mI {κ : Type} [DecidableEq κ] (k : κ) : List κ → Option Nat
  | [] => none
  | a :: l => if k = a then some 0 else (mI k l).map (· + 1)
section
variable {κ : Type} {enc : κ → Value} {k : κ}
theorem mE_push {v : Value} : ∀ (l : List κ) (vs : List Value) (i : Nat), l.length = vs.length → mE enc i l vs ++ [⟨enc k, v, i + l.length⟩] = mE enc i (l ++ [k]) (vs ++ [v])
  | [], [], i, _ => by simp [mE]
  | a :: l, u :: vs, i, h => by
    have := mE_push (v := v) l vs (i + 1) (by simpa using h)
    simp only [mE, List.cons_append, List.length_cons]
    rw [← this, show i + (l.length + 1) = i + 1 + l.length by omega]
theorem mE_get : ∀ (l : List κ) (vs : List Value) (i m : Nat) (a : κ), l.length = vs.length → l[m]? = some a → (mE enc i l vs)[m]? = some ⟨enc a, vs.getD m default, i + m⟩
  | b :: l, u :: vs, i, 0, a, _, h => by simp at h; subst h; simp [mE]
  | b :: l, u :: vs, i, m + 1, a, hl, h => by
    have := mE_get l vs (i + 1) m a (by simpa using hl) (by simpa using h)
    simp only [mE, List.getElem?_cons_succ, this]
    simp; omega
theorem mE_length : ∀ (l : List κ) (vs : List Value) (i : Nat), l.length = vs.length → (mE enc i l vs).length = l.length
  | [], [], _, _ => rfl
  | a :: l, u :: vs, i, h => by simp [mE, mE_length l vs (i + 1) (by simpa using h)]
end
/-- Keys that the model tells apart as the list does. -/
structure KeyOk (P : Program) {κ : Type} [DecidableEq κ] (kt : TypeId) (enc : κ → Value) : Prop where
  check : ∀ (b : Bool) (k : κ) w, (Instr.checkKey b 10000 kt (enc k)).run P w = .ok () w
  bits : ∀ k, Instr.sameBits 10000 (enc k) (enc k) = true
  find : ∃ dd, P.underlying kt = some dd ∧ ((∀ a b, Instr.sameNow dd (enc a) (enc b) = some (decide (a = b))) ∨
    ((∀ a b, Instr.sameNow dd (enc a) (enc b) = none) ∧ ∀ a b w, (Op.equal kt (enc a) (enc b)).run P w = .ok (decide (a = b)) w))
section
variable {P : Program} {κ : Type} [DecidableEq κ] {kt t et : TypeId} {enc : κ → Value} {k : κ}
theorem mI_lt : ∀ {l : List κ} {m : Nat}, mI k l = some m → m < l.length ∧ l[m]? = some k
  | a :: l, m, h => by
    simp only [mI] at h
    split at h
    · rename_i e; cases h; subst e; simp
    · cases h1 : mI k l with
      | none => rw [h1] at h; cases h
      | some j =>
        rw [h1] at h; cases h
        have := mI_lt h1
        simpa using this
theorem findNow_mE {dd : TypeDesc} (h : ∀ a b, Instr.sameNow dd (enc a) (enc b) = some (decide (a = b))) : ∀ (l : List κ) (vs : List Value) (i j : Nat), l.length = vs.length →
    Instr.findNow dd (enc k) (mE enc i l vs) j = some ((mI k l).map fun m => (j + m, vs.getD m default))
  | [], _, _, _, _ => by simp [mE, Instr.findNow, mI]
  | a :: l, v :: vs, i, j, hl => by
    simp only [mE, Instr.findNow, h, mI]
    by_cases e : k = a
    · simp [e]
    · simp only [e, decide_false]
      rw [findNow_mE h l vs (i + 1) (j + 1) (by simpa using hl)]
      cases mI k l with
      | none => simp
      | some m => simp; omega
theorem findAsking_mE (h : ∀ a b w, (Op.equal kt (enc a) (enc b)).run P w = .ok (decide (a = b)) w) (w : World) : ∀ (l : List κ) (vs : List Value) (i j : Nat), l.length = vs.length →
    (Instr.findAsking kt (enc k) (mE enc i l vs) j).run P w = .ok ((mI k l).map fun m => (j + m, vs.getD m default)) w
  | [], _, _, _, _ => by simp [mE, Instr.findAsking, mI]
  | a :: l, v :: vs, i, j, hl => by
    simp only [mE, Instr.findAsking, mI, Sem.run_bind, h, Result.andThen]
    by_cases e : k = a
    · simp [e]
    · simp only [e, decide_false]
      rw [if_neg (by simp), findAsking_mE h w l vs (i + 1) (j + 1) (by simpa using hl)]
      cases mI k l with
      | none => simp
      | some m => simp; omega
theorem find_mE (hk : KeyOk P kt enc) {l : List κ} {vs : List Value} (hl : l.length = vs.length) (w : World) :
    (Instr.findKey kt (enc k) (mE enc 0 l vs)).run P w = .ok ((mI k l).map fun m => (m, vs.getD m default)) w := by
  obtain ⟨dd, hd, h⟩ := hk.find
  unfold Instr.findKey
  rcases h with h | ⟨h1, h2⟩
  · simp [run_underlying hd, findNow_mE h l vs 0 0 hl]
  · cases l with
    | nil =>
      have : vs = [] := List.eq_nil_of_length_eq_zero (by simpa using hl.symm)
      subst this
      simp [run_underlying hd, mE, Instr.findNow, mI]
    | cons a l =>
      cases vs with
      | nil => cases hl
      | cons v vs =>
        have e : Instr.findNow dd (enc k) (mE enc 0 (a :: l) (v :: vs)) 0 = none := by simp only [mE, Instr.findNow, h1]
        simp only [Sem.run_bind, run_underlying hd, Result.andThen, e]
        have := findAsking_mE (k := k) h2 w (a :: l) (v :: vs) 0 0 hl
        rw [this]
        simp
/-- What lookup yields. -/
def lkV (z : Value) (k : κ) (l : List κ) (vs : List Value) : Value := match mI k l with
  | some m => vs.getD m default
  | none => z
def Mz (P : Program) (et : TypeId) (z : Value) : Prop := ∀ w, (zeroValue et).run P w = .ok z w
theorem lookup_run {w : World} {b n : Nat} {l : List κ} {vs : List Value} {z : Value} (hk : KeyOk P kt enc) (ht : P.underlying t = some (.map kt et)) (hz : Mz P et z) (hb : w.heap[b]? = some (.map (mE enc 0 l vs).toArray n)) (hl : l.length = vs.length) :
    (Instr.lookup t (.map (some b)) (enc k) false).run P w = .ok (lkV z k l vs) w := by
  have hg : (getObj b).run P w = .ok (.map (mE enc 0 l vs).toArray n) w := by simp [getObj, Sem.run, hb]
  simp only [Instr.lookup, Sem.run_bind, run_underlying ht, Result.andThen, hg, hk.check]
  simp only [Sem.run_pure]
  rw [find_mE hk hl]
  unfold lkV
  cases mI k l with
  | some m => simp
  | none => simp [hz w]
/-- The entries behind an update. -/
def upK (k : κ) (l : List κ) : List κ := match mI k l with
  | some _ => l
  | none => l ++ [k]
def upV (k : κ) (v : Value) (l : List κ) (vs : List Value) : List Value := match mI k l with
  | some m => vs.set m v
  | none => vs ++ [v]
end
/-! ### Against lists of pairs -/
section
variable {κ β : Type} [DecidableEq κ] {k : κ} {z : Value} {enc : κ → Value} {ev' : β → Value}
theorem mI_none : ∀ {l : List (κ × β)} (d : β), mI k (l.map Prod.fst) = none → Go.L.mget d k l = d
  | [], _, _ => rfl
  | (a, y) :: l, d, h => by
    simp only [List.map_cons, mI] at h
    split at h
    · cases h
    · rename_i e
      simp only [Go.L.mget, if_neg e]
      exact mI_none d (by cases h1 : mI k (l.map Prod.fst) <;> simp_all)
theorem mI_some : ∀ {l : List (κ × β)} {m : Nat} (d : β), mI k (l.map Prod.fst) = some m → l[m]? = some (k, Go.L.mget d k l)
  | (a, y) :: l, m, d, h => by
    simp only [List.map_cons, mI] at h
    split at h
    · rename_i e; cases h; subst e; simp [Go.L.mget]
    · rename_i e
      cases h1 : mI k (l.map Prod.fst) with
      | none => rw [h1] at h; cases h
      | some j =>
        rw [h1] at h; cases h
        simpa [Go.L.mget, if_neg e] using mI_some d h1
theorem mput_none {y : β} : ∀ {l : List (κ × β)}, mI k (l.map Prod.fst) = none → Go.L.mput k y l = l ++ [(k, y)]
  | [], _ => rfl
  | (a, x) :: l, h => by
    simp only [List.map_cons, mI] at h
    split at h
    · cases h
    · rename_i e
      simp only [Go.L.mput, if_neg e, List.cons_append]
      rw [mput_none (by cases h1 : mI k (l.map Prod.fst) <;> simp_all)]
theorem mput_some {y : β} : ∀ {l : List (κ × β)} {m : Nat}, mI k (l.map Prod.fst) = some m → Go.L.mput k y l = l.set m (k, y)
  | (a, x) :: l, m, h => by
    simp only [List.map_cons, mI] at h
    split at h
    · rename_i e; cases h; subst e; simp [Go.L.mput]
    · rename_i e
      cases h1 : mI k (l.map Prod.fst) with
      | none => rw [h1] at h; cases h
      | some j =>
        rw [h1] at h; cases h
        simp only [Go.L.mput, if_neg e]
        rw [mput_some h1]
        rfl
theorem upK_mput {y : β} {l : List (κ × β)} : upK k (l.map Prod.fst) = (Go.L.mput k y l).map Prod.fst := by
  unfold upK
  cases h : mI k (l.map Prod.fst) with
  | none => rw [mput_none h]; simp
  | some m =>
    rw [mput_some h]
    obtain ⟨h1, h2⟩ := mI_lt h
    simp only [List.map_set]
    obtain ⟨h3, h4⟩ := List.getElem?_eq_some_iff.1 h2
    conv => lhs; rw [← List.set_getElem_self h3, h4]
end
/-! ### A map of plain values -/
/-- A map's object. -/
abbrev mpR {κ β : Type} (enc : κ → Value) (b : Nat) (l : List (κ × β)) (vs : List Value) : Res := .obj b (.map (mE enc 0 (l.map Prod.fst) vs).toArray l.length)
section
variable {P : Program} {n : Sz} {ops : Array Oper} {Q : Exit → Act → World → Prop} {L : Env} {w w0 : World} {O : List Res} {rest : List Oper} {d : Nat} {ty t kt et : TypeId} {pos : String} {af : Array Edge} {x y x' : Operand}
  {κ β : Type} [DecidableEq κ] {enc : κ → Value} {ev' : β → Value} {l : List (κ × β)} {k : κ} {H : PH}
omit [DecidableEq κ] in
/-- 'map[K]V{}'. -/
theorem S_makeMap [Dr] (enc : κ → Value) (β : Type) (hn : Nat.blt d n.n = true) (hL : Lcl w0 O w)
    (h : ∀ w' b, Lcl w0 (mpR enc b ([] : List (κ × β)) [] :: O) w' → Le (fz w O) (fz w' (mpR enc b ([] : List (κ × β)) [] :: O)) → S P n ops Q rest ((d, .map (some b)) :: L) w') : S P n ops Q (⟨some d, .makeMap t none, ty, pos, af, none⟩ :: rest) L w := by
  have hb : ∀ b, (Res.obj w.heap.size (.map (mE enc 0 (([] : List (κ × β)).map Prod.fst) []).toArray ([] : List (κ × β)).length)).block = some b → w.heap.size ≤ b := fun b e => by cases e; exact Nat.le_refl _
  refine S_value (v := .map (some w.heap.size)) (w' := w.alloc (.map #[] 0)) rfl rfl hn (fun ρ hρ => ?_) (h _ _ (hL.new (ext_alloc w _) (World.alloc_heap_new w _) hb) (fz_new hL (ext_alloc w (.map #[] 0)) hb))
  simp [execOp, Instr.makeMap, newObj, Sem.run]
end
/-! ### A map of slices of the call's own -/
section
variable {κ α : Type} (cw : α → List Value) (e : TypeId) (sz : Nat)
def mR (x : List α) (v : Value) : Res := .row v e sz x.length (x.flatMap cw)
def mT : List (κ × List α) → List Value → List Res
  | x :: l, v :: vs => mR cw e sz x.2 v :: mT l vs
  | _, _ => []
end
section
variable {κ α : Type} {cw : α → List Value} {e : TypeId} {sz : Nat}
theorem mT_at : ∀ {l : List (κ × List α)} {vs : List Value}, l.length = vs.length → ∀ {i : Nat} {k : κ} {x : List α}, l[i]? = some (k, x) → nthR (mT cw e sz l vs) i = some (mR cw e sz x (vs.getD i default))
  | y :: l, v :: vs, h, 0, k, x, hx => by simp at hx; subst hx; rfl
  | y :: l, v :: vs, h, i + 1, k, x, hx => by
    have := mT_at (l := l) (vs := vs) (by simpa using h) (i := i) (by simpa using hx)
    simpa [mT, nthR] using this
theorem mT_set : ∀ {l : List (κ × List α)} {vs : List Value}, l.length = vs.length → ∀ {i : Nat} (k : κ) (x : List α) (v : Value), i < l.length → setR (mT cw e sz l vs) i (mR cw e sz x v) = mT cw e sz (l.set i (k, x)) (vs.set i v)
  | y :: l, u :: vs, h, 0, k, x, v, _ => rfl
  | y :: l, u :: vs, h, i + 1, k, x, v, hi => by
    have := mT_set (l := l) (vs := vs) (by simpa using h) (i := i) k x v (by simpa using hi)
    simp [mT, setR, this]
theorem mT_push (k : κ) (x : List α) (v : Value) : ∀ {l : List (κ × List α)} {vs : List Value}, l.length = vs.length → mT cw e sz (l ++ [(k, x)]) (vs ++ [v]) = mT cw e sz l vs ++ [mR cw e sz x v]
  | [], [], _ => rfl
  | y :: l, u :: vs, h => by
    have := mT_push k x v (l := l) (vs := vs) (by simpa using h)
    simp [mT, this]
end
section
variable {P : Program} {n : Sz} {ops : Array Oper} {Q : Exit → Act → World → Prop} {L : Env} {w w0 : World} {O : List Res} {rest : List Oper} {d : Nat} {ty ty' t mt kt et e : TypeId} {pos pos' : String} {af af' : Array Edge} {x y x' m' : Operand}
  {κ α : Type} [DecidableEq κ] {enc : κ → Value} {cw : α → List Value} {sz : Nat} {l : List (κ × List α)} {vs : List Value} {k : κ} {H : PH} {A : List Res}
/-- Between append and the update: the rows as they will be, in some order. -/
def Pend (cw : α → List Value) (e : TypeId) (sz : Nat) (l : List (κ × List α)) (vs : List Value) (k : κ) (y : List α) (v : Value) (T : List Res) : Prop :=
  v.oneCell' = true ∧ l.length = vs.length ∧ T.Perm (mT cw e sz (Go.L.mput k y l) (upV k v (l.map Prod.fst) vs))
/-- 'append(m[k], z)', behind the look. -/
theorem S_appM [Dr] {r : Rp α} {bt : Nat} {zz u : Value} {z : α} (hr : ∀ G (x : α) c, r.rel G x c ↔ c = cw x) (hsz : r.sz = sz) (hx : ev L x = some (lkV (.slice none 0 0) k (l.map Prod.fst) vs)) (hy : ev L y = some u) (ht : P.underlying t = some (.slice e)) (hz : Zr P e zz sz bt) (hzs : zz.cells.size = sz) (h0 : 0 < sz) (hn : Nat.blt d n.n = true)
    (hH : Le H (hp w0)) (hL : Lcl w0 (A ++ mT cw e sz l vs) w) (hl : l.length = vs.length) (hu : Vec r (gz H w0 w (A ++ mT cw e sz l vs)) u [z]) (hby : Cap bt ((Go.L.mget [] k l).length + 1))
    (h : ∀ v' w' T, Pend cw e sz l vs k (Go.L.mget [] k l ++ [z]) v' T → Lcl w0 (A ++ T) w' → Le (fz w (A ++ mT cw e sz l vs)) (fz w' (A ++ T)) → S P n ops Q rest ((d, v') :: L) w') :
    S P n ops Q (⟨some d, .call ⟨.builtin .append, #[x, y], #[t, t]⟩, ty, pos, af, none⟩ :: rest) L w := by
  have hel : ∃ news, news = cw z ∧ Src (hp w) sz u 1 news := by
    obtain ⟨news, h1, h2⟩ := hu.elems
    have h3 : news = cw z := by
      cases h1 with
      | cons hc ht => cases ht; rw [List.append_nil]; exact (hr _ _ _).1 hc
    rw [hsz] at h2
    exact ⟨news, h3, h2.mono (gz_le hH hL)⟩
  obtain ⟨news, rfl, hsrc⟩ := hel
  have hone : ∀ c ∈ cw z, c.oneCell' = true := fun c hc => r.one (H := H) ((hr H z (cw z)).2 rfl) c hc
  cases hmi : mI k (l.map Prod.fst) with
  | some m =>
    obtain ⟨h1, h2⟩ := mI_lt hmi
    have h1' : m < l.length := by simpa using h1
    have hg := mI_some ([] : List α) hmi
    have hrow := mT_at (cw := cw) (e := e) (sz := sz) hl hg
    have hlk : lkV (.slice none 0 0) k (l.map Prod.fst) vs = vs.getD m default := by unfold lkV; rw [hmi]
    rw [hlk] at hx
    have hO : nthR (A ++ mT cw e sz l vs) (A.length + m) = some (.row (vs.getD m default) e sz (Go.L.mget [] k l).length ((Go.L.mget [] k l).flatMap cw)) := by rw [nthR_app]; exact hrow
    refine S_append (A.length + m) hx hy ht hz hzs h0 hn hL hO hsrc hone hby fun v' w' hL' hle' => ?_
    have e1 : (.row v' e sz ((Go.L.mget [] k l).length + 1) ((Go.L.mget [] k l).flatMap cw ++ cw z) : Res) = mR cw e sz (Go.L.mget [] k l ++ [z]) v' := by simp [mR]
    rw [e1, setR_app, mT_set hl k _ _ h1'] at hL' hle'
    have e2 : upV k v' (l.map Prod.fst) vs = vs.set m v' := by unfold upV; rw [hmi]
    refine h v' w' _ ⟨?_, hl, ?_⟩ hL' hle'
    · have hl1 : (l.set m (k, Go.L.mget [] k l ++ [z])).length = (vs.set m v').length := by simp [hl]
      have hg2 : (l.set m (k, Go.L.mget [] k l ++ [z]))[m]? = some (k, Go.L.mget [] k l ++ [z]) := by simp [h1']
      have hr2 := mT_at (cw := cw) (e := e) (sz := sz) hl1 hg2
      have hgv : (vs.set m v').getD m default = v' := by simp [List.getD_eq_getElem?_getD, show m < vs.length by omega]
      rw [hgv] at hr2
      have := hL'.at (i := A.length + m) (r := mR cw e sz (Go.L.mget [] k l ++ [z]) v') (by rw [nthR_app]; exact hr2)
      exact row_one this
    · rw [e2, mput_some hmi]
  | none =>
    have hg := mI_none ([] : List α) hmi
    have hlk : lkV (.slice none 0 0) k (l.map Prod.fst) vs = .slice none 0 0 := by unfold lkV; rw [hmi]
    rw [hlk] at hx
    have hnil := row_nil hL e sz
    have hby' : Cap bt (0 + 1) := by rw [hg] at hby; exact hby
    refine S_append 0 hx hy ht hz hzs h0 hn hnil.1 rfl hsrc hone hby' fun v' w' hL' hle' => ?_
    have hp : (A ++ (mT cw e sz l vs ++ [mR cw e sz [z] v'])).Perm (.row v' e sz (0 + 1) ([] ++ cw z) :: (A ++ mT cw e sz l vs)) := by
      rw [← List.append_assoc]
      have : (mR cw e sz [z] v' : Res) = .row v' e sz (0 + 1) ([] ++ cw z) := by simp [mR]
      rw [this]
      exact List.perm_append_singleton _ _
    have e2 : upV k v' (l.map Prod.fst) vs = vs ++ [v'] := by unfold upV; rw [hmi]
    refine h v' w' (mT cw e sz l vs ++ [mR cw e sz [z] v']) ⟨row_one (hL'.at (i := 0) rfl), hl, ?_⟩ (hL'.perm hp) ?_
    · rw [e2, mput_none hmi, hg, List.nil_append, mT_push k [z] v' hl]
    · rw [fz_perm hp]; exact hnil.2.trans hle'
end
/-! ### A map that lies fast -/
def VMap {κ β : Type} (enc : κ → Value) (r : Rp β) (H : PH) (v : Value) (l : List (κ × β)) : Prop :=
  ∃ b vs, v = .map (some b) ∧ H b = some (.map (mE enc 0 (l.map Prod.fst) vs).toArray l.length) ∧ l.length = vs.length ∧ ∀ i x, l[i]? = some x → r.rel H x.2 [vs.getD i default]
theorem VMap.mono {κ β : Type} {enc : κ → Value} {r : Rp β} {H H' : PH} {v : Value} {l : List (κ × β)} (h : VMap enc r H v l) (hs : Le H H') : VMap enc r H' v l := by
  obtain ⟨b, vs, h1, h2, h3, h4⟩ := h
  exact ⟨b, vs, h1, hs _ _ h2, h3, fun i x hx => r.mono hs (h4 i x hx)⟩
section
variable {P : Program} {L : Env} {w w0 : World} {ty t kt et e : TypeId} {x y : Operand} {κ α : Type} [DecidableEq κ] {enc : κ → Value} {cw : α → List Value} {r : Rp α} {sz : Nat} {l : List (κ × List α)} {vs : List Value} {k : κ} {H : PH} {A : List Res}
omit [DecidableEq κ] in
theorem mT_fast [Dr] (hsz : r.sz = sz) (hr : ∀ G (x : α) c, r.rel G x c ↔ c = cw x) (hH : Le H (hp w0)) : ∀ {l : List (κ × List α)} {vs : List Value}, l.length = vs.length → Lcl w0 (A ++ mT cw e sz l vs) w → Lcl w0 A w ∧ Le (fz w (A ++ mT cw e sz l vs)) (fz w A) ∧ ∀ i x, l[i]? = some x → Vec r (gz H w0 w A) (vs.getD i default) x.2
  | [], [], _, hL => ⟨by simpa [mT] using hL, by simp only [mT, List.append_nil]; exact Le.refl _, fun i x hx => by cases hx⟩
  | y :: l, v :: vs, hn, hL => by
    have hi : nthR (A ++ mT cw e sz (y :: l) (v :: vs)) (A.length + 0) = some (.row v e r.sz y.2.length (y.2.flatMap cw)) := by rw [nthR_app, hsz]; rfl
    have hel : Elems r (gz H w0 w (A ++ mT cw e sz (y :: l) (v :: vs))) y.2 (y.2.flatMap cw) := by
      generalize gz H w0 w (A ++ mT cw e sz (y :: l) (v :: vs)) = G
      induction y.2 with
      | nil => exact .nil
      | cons a m ih => rw [List.flatMap_cons]; exact .cons ((hr _ _ _).2 rfl) ih
    have hv := hL.vecG hH hi hel
    have hL2 := hL.dropAt hi
    have hf2 := fz_dropAt (w := w) hi
    rw [delR_app] at hv hL2 hf2
    obtain ⟨h1, h2, h3⟩ := mT_fast hsz hr hH (l := l) (vs := vs) (by simpa using hn) hL2
    refine ⟨h1, hf2.trans h2, fun i x hx => ?_⟩
    cases i with
    | zero => simp at hx; subst hx; exact hv.mono (gz_mono hH h2)
    | succ i => simpa using h3 i x (by simpa using hx)
  | [], _ :: _, h, _ => by cases h
  | _ :: _, [], h, _ => by cases h
omit [DecidableEq κ] in
/-- All of it lies fast from now on. -/
theorem map_pub [Dr] (ib : Nat) {b : Nat} (hsz : r.sz = sz) (hr : ∀ G (x : α) c, r.rel G x c ↔ c = cw x) (hH : Le H (hp w0)) (hl : l.length = vs.length) (hL : Lcl w0 (A ++ mT cw e sz l vs) w) (hib : nthR A ib = some (mpR enc b l vs)) :
    Lcl w0 (delR A ib) w ∧ Le (fz w (A ++ mT cw e sz l vs)) (fz w (delR A ib)) ∧ VMap enc (.vec r) (gz H w0 w (delR A ib)) (.map (some b)) l := by
  obtain ⟨h1, h2, h3⟩ := mT_fast hsz hr hH hl hL
  have h4 := fz_dropAt (w := w) hib
  have hb := h1.at hib
  refine ⟨h1.dropAt hib, h2.trans h4, b, vs, rfl, ?_, hl, fun i x hx => ⟨_, rfl, (h3 i x hx).mono (gz_mono hH h4)⟩⟩
  have hge := h1.own _ ((perm_nth hib).mem_iff.2 (.head _)) b rfl
  have h5 : fz w (delR A ib) b = w.heap[b]? := fz_hp_drop hib rfl h1.dis
  refine gz_right b _ ?_
  unfold nf
  rw [if_pos hge, h5]; exact hb
/-- 'm[k]' of slices that lie fast. -/
theorem lookF [Dr] {v : Value} (hm : VMap enc (.vec r) H v l) (hk : KeyOk P kt enc) (ht : P.underlying t = some (.map kt et)) (hz : Mz P et (.slice none 0 0)) (hx : ev L x = some v) (hy : ev L y = some (enc k)) (hs : Le H (hp w)) :
    ∃ u, RunsAt P L w (.lookup t x y false) ty u ∧ Vec r H u (Go.L.mget [] k l) := by
  obtain ⟨b, vs, rfl, h2, h3, h4⟩ := hm
  refine ⟨lkV (.slice none 0 0) k (l.map Prod.fst) vs, fun w' hx' ρ hρ dst pos af g => ?_, ?_⟩
  · have := lookup_run (k := k) (l := l.map Prod.fst) (vs := vs) hk ht hz (hx'.le _ _ (hs _ _ h2)) (by simp [h3])
    simp [execOp, hρ x _ hx, hρ y _ hy, this]
  · unfold lkV
    cases hmi : mI k (l.map Prod.fst) with
    | none => rw [mI_none [] hmi]; exact Vec.nil r H
    | some m =>
      obtain ⟨u, hu1, hu2⟩ := h4 m _ (mI_some [] hmi)
      simp only [List.cons.injEq, and_true] at hu1
      show Vec r H (vs.getD m default) _
      rw [hu1]; exact hu2
end
end Go.E
end
section
namespace Go.E
open Go Go.RowKit
theorem ba_eq (a b : List UInt8) : ((⟨a.toArray⟩ : ByteArray) == ⟨b.toArray⟩) = decide (a = b) := by
  have : ((⟨a.toArray⟩ : ByteArray) == ⟨b.toArray⟩) = (a.toArray == b.toArray) := rfl
  rw [this, Bool.eq_iff_iff]; simp
section
variable {P : Program} {n : Sz} {ops : Array Oper} {Q : Exit → Act → World → Prop} {L : Env} {w : World} {rest : List Oper} {d : Nat} {ty t kt et : TypeId} {pos : String} {af : Array Edge} {x y : Operand}
  {κ α : Type} [DecidableEq κ] {enc : κ → Value} {r : Rp α} {l : List (κ × List α)} {k : κ} {H : PH} {v : Value}
theorem S_lookF [Dr] (hx : ev L x = some v) (hy : ev L y = some (enc k)) (ht : P.underlying t = some (.map kt et)) (hk : KeyOk P kt enc) (hz : Mz P et (.slice none 0 0)) (hm : VMap enc (.vec r) H v l) (hs : Le H (hp w)) (hn : Nat.blt d n.n = true)
    (h : ∀ u, Vec r H u (Go.L.mget [] k l) → S P n ops Q rest ((d, u) :: L) w) : S P n ops Q (⟨some d, .lookup t x y false, ty, pos, af, none⟩ :: rest) L w := by
  obtain ⟨u, h1, h2⟩ := lookF (ty := ty) hm hk ht hz hx hy hs
  exact S_v h1 hn (h u h2)
end
abbrev cwI (h : Int) : List Value := [.int .i64 h]
theorem rel_I : ∀ (G : PH) (x : Int) (c : List Value), (Rp.int .i64).rel G x c ↔ c = cwI x := fun _ _ _ => Iff.rfl
end Go.E
namespace Go.E
open Go Go.RowKit
/-- An operation that waits for all others. -/
def lastB (ops : Array Oper) (j : Nat) : Bool := match ops[j]? with
  | some oj => (List.range ops.size).all fun k => k == j || oj.after.any fun e => Region.binds .any e && e.on == k
  | none => false
theorem lastB_not {ops : Array Oper} {i j : Nat} {oj : Oper} (hj : ops[j]? = some oj) (hi : i < ops.size) (hne : i ≠ j) (hnot : ∀ e ∈ oj.after, Region.binds .any e = true → e.on ≠ i) : lastB ops j = false := by
  unfold lastB
  rw [hj]
  simp only
  cases h : (List.range ops.size).all (fun k => k == j || oj.after.any fun e => Region.binds .any e && e.on == k) with
  | false => rfl
  | true =>
    have h1 := List.all_eq_true.1 h i (List.mem_range.2 hi)
    simp only [Bool.or_eq_true, beq_iff_eq, hne, false_or] at h1
    obtain ⟨e, he, hb⟩ := Array.any_eq_true'.1 h1
    simp only [Bool.and_eq_true, beq_iff_eq] at hb
    exact absurd hb.2 (hnot e he hb.1)
section
variable (Inv : World → Prop) (P : Program) (ops : Array Oper) (Q : Exit → Act → World → Prop)
/-- Every order; between the operations Inv holds. -/
def wpAnyI : Nat → Array Bool → Act → World → Prop
  | 0, listed, a, w => Region.ready .any ops listed = [] ∧ Q .normal a w
  | m + 1, listed, a, w => (Region.ready .any ops listed = [] → Q .normal a w) ∧
    ∀ i ∈ Region.ready .any ops listed, wpOp P ops Q i (fun a' w' => (lastB ops i = true ∨ Inv w') ∧ wpAnyI m (listed.setIfInBounds i true) a' w') a w
/-- The value of an operation wherever Inv holds. -/
def YieldsI (o : Oper) (v : Value) (a : Act) : Prop :=
  (Region.wanted o (yielded ops a.tmps) = true ∧ ∀ w, Inv w → (execOp a.eval o).run P w = .ok (.value v) w) ∨
  (Region.wanted o (yielded ops a.tmps) = false ∧ v = undef)
end
section
variable {Inv : World → Prop} {P : Program} {ops : Array Oper} {Q : Exit → Act → World → Prop}
theorem wpAnyI_any : ∀ (m : Nat) (listed : Array Bool) (a : Act) (w : World), wpAnyI Inv P ops Q m listed a w → wpAny P .any ops Q m listed a w
  | 0, _, _, _, h => h
  | m + 1, _listed, _a, _w, h => ⟨h.1, fun i hi => wpOp_mono (fun _a' _w' k => wpAnyI_any m _ _ _ k.2) (h.2 i hi)⟩
theorem YieldsI.same {o : Oper} {v : Value} {a a' : Act} (hy : YieldsI Inv P ops o v a) (he : execOp a'.eval o = execOp a.eval o) (hw : Region.wanted o (yielded ops a'.tmps) = Region.wanted o (yielded ops a.tmps)) : YieldsI Inv P ops o v a' := by
  unfold YieldsI at *
  rw [he, hw]; exact hy
theorem YieldsI.op {i : Nat} {o : Oper} {v : Value} {a : Act} {w : World} (hi : ops[i]? = some o) (hy : YieldsI Inv P ops o v a) (hw : Inv w) {K : Act → World → Prop} (h : K (a.put o.dst v) w) : wpOp P ops Q i K a w := by
  unfold wpOp
  simp only [hi]
  rcases hy with ⟨h1, hv⟩ | ⟨h1, rfl⟩
  · simp only [h1, if_true, Oper.wp, hv w hw, Oper.upon]; exact .inl h
  · simp only [h1, Bool.false_eq_true, if_false]; exact h
/-- An operation made before another one whose value is known. -/
theorem op_putI {j : Nat} {oi oj : Oper} {v : Value} (hj : ops[j]? = some oj) (hap : oi.apart ops oj = true) (hsi : ∀ cs b, oi.op ≠ .select cs b) (hsj : ∀ cs b, oj.op ≠ .select cs b)
    (hQ : ∀ c a w, Q (.panic c) (a.put oi.dst v) w → Q (.panic c) a w) {K : Act → World → Prop} {a : Act} {w : World} (hy : YieldsI Inv P ops oi v a) (h : wpOp P ops Q j K (a.put oi.dst v) w) :
    wpOp P ops Q j (fun a' w' => YieldsI Inv P ops oi v a' ∧ K (a'.put oi.dst v) w') a w := by
  obtain ⟨h1, h2, h3⟩ := Oper.apart_spec hap
  have keep : ∀ a, YieldsI Inv P ops oi v a → ∀ u, YieldsI Inv P ops oi v (a.put oj.dst u) := fun a hy u => hy.same (execOp_put oi hsi a oj.dst u h3) (wanted_put oi a oj.dst u h3)
  unfold wpOp at *
  simp only [hj] at *
  rw [wanted_put oj a oi.dst v h1] at h
  split
  · rename_i hw
    simp only [hw, if_true] at h
    rcases h with h | ⟨ha, hl⟩
    case inr => exact .inr ⟨by unfold Oper.asks at *; rw [execOp_put oj hsj a oi.dst v h1] at ha; exact ha, hl⟩
    refine .inl ?_
    unfold Oper.wp at *
    rw [execOp_put oj hsj a oi.dst v h1] at h
    generalize (execOp a.eval oj).run P w = r at *
    cases r with
    | ok x w' =>
      cases x <;> simp only [Oper.upon] at h ⊢
      case value u => exact ⟨keep a hy u, by rw [← Act.put_comm a v u h2]; exact h⟩
      case skip => exact ⟨keep a hy _, by rw [← Act.put_comm a v undef h2]; exact h⟩
      case defer d =>
        refine ⟨keep { a with defers := d :: a.defers } (hy.same rfl rfl) _, ?_⟩
        rw [← Act.put_comm _ v undef h2, ← Act.put_defers]
        exact h
      case enter f args =>
        refine h.mono fun e w'' he => ?_
        cases e with
        | returned u => exact ⟨keep a hy u, by rw [← Act.put_comm a v u h2]; exact he⟩
        | panicked c => exact hQ _ _ _ he
        | outgrown => exact he
      case row row args => exact Rows.mono h fun u w'' he => ⟨keep a hy u, by rw [← Act.put_comm a v u h2]; exact he⟩
    | halt x w' =>
      cases x <;> simp only [Oper.upon] at h ⊢
      case panic u => exact hQ _ _ _ h
  · rename_i hw
    simp only [hw] at h
    exact ⟨keep a hy _, by rw [← Act.put_comm a v undef h2]; exact h⟩
theorem anyI_first {i : Nat} {oi : Oper} {v : Value} (hi : ops[i]? = some oi) (hsel : ∀ (j : Nat) (o : Oper) cs b, ops[j]? = some o → o.op ≠ .select cs b) (hQ : ∀ c a w, Q (.panic c) (a.put oi.dst v) w → Q (.panic c) a w) :
    ∀ (m : Nat) (listed : Array Bool) (a : Act) (w : World),
      (∀ j oj, ops[j]? = some oj → j ≠ i → listed.getD j true = false → (∀ e ∈ oj.after, Region.binds .any e = true → e.on ≠ i) → oi.apart ops oj = true) →
      i ∈ Region.ready .any ops listed → Inv w → YieldsI Inv P ops oi v a → wpAnyI Inv P ops Q m (listed.setIfInBounds i true) (a.put oi.dst v) w → wpAnyI Inv P ops Q (m + 1) listed a w := by
  intro m
  induction m with
  | zero =>
    intro listed a w _ hr hw hy H
    refine ⟨fun h => (by rw [h] at hr; cases hr), fun j hj => ?_⟩
    by_cases hji : j = i
    · subst hji; exact hy.op hi hw ⟨.inr hw, H⟩
    · have := ready_mono hj hji
      rw [H.1] at this
      cases this
  | succ m ih =>
    intro listed a w hfree hr hw hy H
    refine ⟨fun h => (by rw [h] at hr; cases hr), fun j hj => ?_⟩
    by_cases hji : j = i
    · subst hji; exact hy.op hi hw ⟨.inr hw, H⟩
    · have h1 := H.2 j (ready_mono hj hji)
      obtain ⟨hjun, oj, hoj, hall⟩ := mem_ready.1 hj
      have hnot : ∀ e ∈ oj.after, Region.binds .any e = true → e.on ≠ i := fun e he hb heq => by
        have h1 := hall e he hb
        have h0 := (mem_ready.1 hr).1
        rw [heq] at h1
        rcases Nat.lt_or_ge i listed.size with h' | h'
        · simp [h'] at h0 h1; rw [h0] at h1; cases h1
        · simp [Array.getElem?_eq_none h'] at h1
      have h2 := op_putI hoj (hfree j oj hoj hji hjun hnot) (fun cs b => hsel i oi cs b hi) (fun cs b => hsel j oj cs b hoj) hQ hy h1
      have hfree' : ∀ k ok, ops[k]? = some ok → k ≠ i → (listed.setIfInBounds j true).getD k true = false →
          (∀ e ∈ ok.after, Region.binds .any e = true → e.on ≠ i) → oi.apart ops ok = true := fun k ok hk hki hun hno => by
        refine hfree k ok hk hki ?_ hno
        by_cases hjk : j = k
        · subst hjk; exact hjun
        · rw [getD_set_ne true hjk] at hun; exact hun
      have hri : i ∈ Region.ready .any ops (listed.setIfInBounds j true) := ready_mono hr (Ne.symm hji)
      refine wpOp_mono (fun a' w' ⟨hy', hI, hk⟩ => ?_) h2
      have hset : wpAnyI Inv P ops Q m ((listed.setIfInBounds j true).setIfInBounds i true) (a'.put oi.dst v) w' := by
        rw [Array.setIfInBounds_comm _ _ hji]; exact hk
      have hi' := (Array.getElem?_eq_some_iff.1 hi).1
      have hI' : Inv w' := hI.resolve_left (by rw [lastB_not hoj hi' (Ne.symm hji) hnot]; simp)
      exact ⟨.inr hI', ih _ a' w' hfree' hri hI' hy' hset⟩
end
def nQI (Inv : World → Prop) (P : Program) (l : List Oper) (Q : Exit → Act → World → Prop) (fuel i : Nat) (listed : Array Bool) : Exit → Act → World → Prop := Exit.then (fun a w => (lastB l.toArray i = true ∨ Inv w) ∧ wpAnyI Inv P l.toArray Q fuel listed a w) Q
def Nw (Inv : World → Prop) (P : Program) (n : Sz) (l : List Oper) (Q : Exit → Act → World → Prop) (fuel : Nat) (listed : Array Bool) (L : Env) (w : World) : Prop := ∀ a, Fr n a L → wpAnyI Inv P l.toArray Q fuel listed a w
section
variable {Inv : World → Prop} {P : Program} {n : Sz} {l : List Oper} {Q : Exit → Act → World → Prop} {L : Env} {w : World} {y : Code} {fuel : Nat} {m : Nat} {done : List Nat}
theorem W_naiveI [Dr] {id : Nat} (Inv : World → World → Prop) (hm : P.follows .mixedOrders = true) (hl : l.length = m) (h : ∀ w', Ext w w' → Nw (Inv w') P n l Q m (lst m []) L w') : W P n (.region id l.toArray true) Q L w := fun a fr => by
  refine wp_region_any hm ?_
  have := wpAnyI_any _ _ _ _ (h _ drawn_world a fr)
  subst hl
  simpa [lst] using this
theorem NI_op {i : Nat} {o : Oper} (ho : nthO l i = some o) (h : S P n l.toArray (nQI Inv P l Q fuel i (lst m (i :: done))) [o] L w) :
    ∀ a, Fr n a L → wpOp P l.toArray Q i (fun a' w' => (lastB l.toArray i = true ∨ Inv w') ∧ wpAnyI Inv P l.toArray Q fuel ((lst m done).setIfInBounds i true) a' w') a w :=
  fun a fr => wpOp_of_S ho (h a fr) (fun e a w hne he => by cases e <;> first | exact absurd rfl hne | exact he)
theorem anyI_all {rs : List Nat} {listed : Array Bool} {a : Act} (hr : Region.ready .any l.toArray listed = rs) (hne : rs ≠ [])
    (h : ∀ i ∈ rs, wpOp P l.toArray Q i (fun a' w' => (lastB l.toArray i = true ∨ Inv w') ∧ wpAnyI Inv P l.toArray Q fuel (listed.setIfInBounds i true) a' w') a w) : wpAnyI Inv P l.toArray Q (fuel + 1) listed a w :=
  ⟨fun e => by rw [hr] at e; exact absurd e hne, fun i hi => h i (by rw [← hr]; exact hi)⟩
theorem NI1 {i : Nat} {o : Oper} (hr : Region.ready .any l.toArray (lst m done) = [i]) (ho : nthO l i = some o) (h : S P n l.toArray (nQI Inv P l Q fuel i (lst m (i :: done))) [o] L w) : Nw Inv P n l Q (fuel + 1) (lst m done) L w :=
  fun a fr => anyI_all hr (by simp) fun k hk => by
    obtain rfl : k = i := by simpa using hk
    exact NI_op ho h a fr
theorem NI2 {i j : Nat} {o p : Oper} (hr : Region.ready .any l.toArray (lst m done) = [i, j]) (ho : nthO l i = some o) (hp : nthO l j = some p) (h : S P n l.toArray (nQI Inv P l Q fuel i (lst m (i :: done))) [o] L w) (h' : S P n l.toArray (nQI Inv P l Q fuel j (lst m (j :: done))) [p] L w) : Nw Inv P n l Q (fuel + 1) (lst m done) L w :=
  fun a fr => anyI_all hr (by simp) fun k hk => by
    have hk' : k = i ∨ k = j := by simpa using hk
    rcases hk' with rfl | rfl
    · exact NI_op ho h a fr
    · exact NI_op hp h' a fr
theorem NI_nil {i : Nat} (hI : Inv w) (h : Nw Inv P n l Q fuel (lst m done) L w) : S P n l.toArray (nQI Inv P l Q fuel i (lst m done)) [] L w := fun a fr => ⟨.inr hI, h a fr⟩
theorem NI_last {i : Nat} (hl : lastB l.toArray i = true) (h : Nw Inv P n l Q fuel (lst m done) L w) : S P n l.toArray (nQI Inv P l Q fuel i (lst m done)) [] L w := fun a fr => ⟨.inl hl, h a fr⟩
theorem NI_end (hr : Region.ready .any l.toArray (lst m done) = []) (h : At n Q .normal L w) : Nw Inv P n l Q 0 (lst m done) L w := fun a fr => ⟨hr, h a fr⟩
variable {d : Nat} {op : Op} {ty : TypeId} {pos : String} {af : Array Edge}
theorem NI_hoist [Dr] (i : Nat) {v : Value} (hq : NoPanic Q) (hI : Inv w) (hc : hoistB l m done i = true) (ho : nthO l i = some ⟨some d, op, ty, pos, af, none⟩) (hr : ∀ w, Inv w → RunsAt P L w op ty v) (hn : Nat.blt d n.n = true)
    (h : Nw Inv P n l Q fuel (lst m (i :: done)) ((d, v) :: L) w) : Nw Inv P n l Q (fuel + 1) (lst m done) L w := fun a fr => by
  simp only [hoistB, Bool.and_eq_true] at hc
  obtain ⟨⟨h1, h2⟩, h3⟩ := hc
  have ho' : l.toArray[i]? = some ⟨some d, op, ty, pos, af, none⟩ := by rw [nthO_eq] at ho; simpa using ho
  exact anyI_first (v := v) ho' (Region.noSelect_spec h1) (fun c a w k => hq c a _ _ w k) _ _ a w (Region.free_spec ho' h2) (by simpa using h3) hI
    (.inl ⟨by simp [Region.wanted], fun w' hw' => hr w' hw' w' (Ext.refl _) _ fr.rho _ _ _ _⟩) (h _ (fr.put hn))
/-- A variable as it lies in the heap. -/
theorem box_at {w : World} {b : Nat} {cs : List Value} {t : TypeId} (h : w.heap[b]? = some (.cells cs.toArray t (0, 0))) : PtrTo (hp w) ⟨b, 0, none⟩ cs :=
  ⟨rfl, fun j u hu => by
    show cellP (hp w) (Addr.add ⟨b, 0, none⟩ j) = some u
    simp only [Addr.add_lit, cellP, hp, h]
    simpa using hu⟩
theorem r_loadHN [Dr] {b : Nat} {cs : List Value} {t t' : TypeId} {x : Operand} {dd : TypeDesc} {zz : Value} {bt : Nat} (hx : ev L x = some (.pointer (some ⟨b, 0, none⟩))) (ht : P.underlying t = some dd) (hd : aggT dd = true) (hz : Zr P t zz cs.length bt) (h : w.heap[b]? = some (.cells cs.toArray t' (0, 0))) : RunsAt P L w (.load t x) ty (.agg cs.toArray) :=
  r_loadN hx ht hd hz (box_at h) (Le.refl _)
end
end Go.E
namespace Go.E
open Go Go.RowKit
section
variable {P : Program} {L : Env} {w w0 : World} {O : List Res} {x y : Operand} {ty t t' e src dst u T : TypeId} {b : Nat} {cs : List Value}
end
/-- What the builder's first field holds. -/
def BAd (b : Nat) (v : Value) : Prop := v = .pointer none ∨ v = .pointer (some ⟨b, 0, none⟩)
theorem BAd.one {b : Nat} {v : Value} (h : BAd b v) : v.oneCell' = true := by rcases h with rfl | rfl <;> rfl
section
variable {P : Program} {n : Sz} {ops : Array Oper} {Q : Exit → Act → World → Prop} {L : Env} {w w0 : World} {O : List Res} {rest : List Oper} {d : Nat} {ty pt it e : TypeId} {pos : String} {af : Array Edge} {x y : Operand} {H : PH}
end
end Go.E
end
section
namespace Go.L
/-- A plain value as a tree: kind, number, bytes, names, parts. -/
inductive Pv where
  | mk (kind number : Int) (bytes : List UInt8) (names : List (List UInt8)) (parts : List Pv)
instance : Inhabited Pv := ⟨.mk 0 0 [] [] []⟩
abbrev PvF : Type := Int × Int × List UInt8 × List (List UInt8) × List Pv
def Pv.f : Pv → PvF
  | .mk k n b ns ps => (k, n, b, ns, ps)
end Go.L
namespace Go.E
open Go Go.L
variable {α β : Type}
/-- A way of lying in cells, turned along a map. -/
def Rp.via (r : Rp β) (f : α → β) : Rp α := ⟨r.sz, fun H x c => r.rel H (f x) c, fun h => r.len h, fun hs h => r.mono hs h, fun h => r.one h⟩
/-- Nothing lies so. -/
def Rp.no (α : Type) (n : Nat) : Rp α := ⟨n, fun _ _ _ => False, fun h => h.elim, fun _ h => h, fun h => h.elim⟩
theorem Vec.of_rel {r s : Rp α} {H : PH} {v : Value} {l : List α} (hz : r.sz = s.sz) (h : Vec r H v l) (hrel : ∀ x ∈ l, ∀ c, r.rel H x c → s.rel H x c) : Vec s H v l := by
  obtain ⟨a, cap, h1, h2, h3, h4, h5⟩ := h.ex
  refine ⟨a, cap, h1, h2, h3, h4, fun A hA hl => ?_⟩
  obtain ⟨h6, h7⟩ := h5 A hA hl
  refine ⟨h6, fun i x hx => ?_⟩
  obtain ⟨c, hc, hcell⟩ := h7 i x hx
  exact ⟨c, hrel x (List.mem_of_getElem? hx) c hc, fun j u hu => by rw [← hz]; exact hcell j u hu⟩
/-- The fields of a value, its parts lying as r says. -/
def Rp.fields (r : Rp Pv) : Rp PvF := .pair (.int .i64) (.pair (.int .i64) (.pair (.vec .byte) (.pair (.vec .st) (.vec r))))
/-- Values of at most that depth. -/
def Rp.treeD : Nat → Rp Pv
  | 0 => .no Pv 5
  | d + 1 => (Rp.fields (Rp.treeD d)).via Pv.f
theorem Rp.treeD_sz : ∀ d, (Rp.treeD d).sz = 5
  | 0 => rfl
  | _ + 1 => rfl
theorem Rp.fields_of {r s : Rp Pv} {H : PH} {x : PvF} {c : List Value} (hz : r.sz = s.sz) (hrel : ∀ y ∈ x.2.2.2.2, ∀ c, r.rel H y c → s.rel H y c) (h : (Rp.fields r).rel H x c) : (Rp.fields s).rel H x c := by
  obtain ⟨c1, c2, e1, h1, c3, c4, e2, h2, c5, c6, e3, h3, c7, c8, e4, h4, v, e5, h5⟩ := h
  exact ⟨c1, c2, e1, h1, c3, c4, e2, h2, c5, c6, e3, h3, c7, c8, e4, h4, v, e5, h5.of_rel hz hrel⟩
theorem Rp.treeD_succ {H : PH} : ∀ (d : Nat) (x : Pv) (c : List Value), (Rp.treeD d).rel H x c → (Rp.treeD (d + 1)).rel H x c
  | 0, _, _, h => h.elim
  | d + 1, x, c, h => Rp.fields_of (r := Rp.treeD d) (s := Rp.treeD (d + 1)) (by rw [Rp.treeD_sz, Rp.treeD_sz]) (fun y _ c h => Rp.treeD_succ d y c h) h
theorem Rp.treeD_le {H : PH} {d e : Nat} (h : d ≤ e) {x : Pv} {c : List Value} (hx : (Rp.treeD d).rel H x c) : (Rp.treeD e).rel H x c := by
  induction h with
  | refl => exact hx
  | step _ ih => exact Rp.treeD_succ _ _ _ ih
/-- A value of any depth. -/
def Rp.tree : Rp Pv := ⟨5, fun H x c => ∃ d, (Rp.treeD d).rel H x c, fun h => by obtain ⟨d, h⟩ := h; rw [(Rp.treeD d).len h, Rp.treeD_sz], fun hs h => by obtain ⟨d, h⟩ := h; exact ⟨d, (Rp.treeD d).mono hs h⟩, fun h => by obtain ⟨d, h⟩ := h; exact (Rp.treeD d).one h⟩
/-- The fields of a value in its cells. -/
theorem Rp.tree_open {H : PH} {x : Pv} {c : List Value} (h : Rp.tree.rel H x c) : (Rp.fields Rp.tree).rel H x.f c := by
  obtain ⟨d, h⟩ := h
  cases d with
  | zero => exact h.elim
  | succ d => exact Rp.fields_of (r := Rp.treeD d) (s := Rp.tree) (Rp.treeD_sz d) (fun y _ c h => ⟨d, h⟩) h
/-- Values in a slice have a common bound of depth. -/
theorem Vec.bound {H : PH} {v : Value} {l : List Pv} (h : Vec Rp.tree H v l) : ∃ d, Vec (Rp.treeD d) H v l := by
  obtain ⟨a, cap, h1, h2, h3, h4, h5⟩ := h.ex
  cases a with
  | none => exact ⟨0, none, cap, h1, h2, h3, h4, fun A hA => by cases hA⟩
  | some A =>
    have key : ∀ n, ∃ d, ∀ i x, i < n → l ≠ [] → l[i]? = some x → ∃ c, (Rp.treeD d).rel H x c ∧ ∀ j u, c[j]? = some u → cellP H (A.add (i * 5 + j)) = some u := by
      intro n
      induction n with
      | zero => exact ⟨0, fun i x hi => absurd hi (Nat.not_lt_zero i)⟩
      | succ n ih =>
        obtain ⟨d, hd⟩ := ih
        by_cases hl : l = []
        · exact ⟨0, fun i x _ hn => absurd hl hn⟩
        cases hx : l[n]? with
        | none =>
          refine ⟨d, fun i x hi hn he => ?_⟩
          rcases Nat.lt_succ_iff_lt_or_eq.1 hi with hi | rfl
          · exact hd i x hi hn he
          · rw [hx] at he
            cases he
        | some y =>
          obtain ⟨c, ⟨e, hc⟩, hcell⟩ := (h5 A rfl hl).2 n y hx
          refine ⟨max d e, fun i x hi hn he => ?_⟩
          rcases Nat.lt_succ_iff_lt_or_eq.1 hi with hi | rfl
          · obtain ⟨c', k1, k2⟩ := hd i x hi hn he
            exact ⟨c', Rp.treeD_le (Nat.le_max_left ..) k1, k2⟩
          · rw [hx] at he
            cases he
            exact ⟨c, Rp.treeD_le (Nat.le_max_right ..) hc, hcell⟩
    obtain ⟨d, hd⟩ := key l.length
    refine ⟨d, some A, cap, h1, h2, h3, h4, fun B hB hl => ?_⟩
    cases hB
    refine ⟨(h5 A rfl hl).1, fun i x hx => ?_⟩
    rw [Rp.treeD_sz]
    exact hd i x (List.getElem?_eq_some_iff.1 hx).1 hl hx
/-- Cells with the fields of a value hold the value. -/
theorem Rp.tree_close {H : PH} {x : Pv} {c : List Value} (h : (Rp.fields Rp.tree).rel H x.f c) : Rp.tree.rel H x c := by
  obtain ⟨c1, c2, e1, h1, c3, c4, e2, h2, c5, c6, e3, h3, c7, c8, e4, h4, v, e5, h5⟩ := h
  obtain ⟨d, hd⟩ := h5.bound
  exact ⟨d + 1, c1, c2, e1, h1, c3, c4, e2, h2, c5, c6, e3, h3, c7, c8, e4, h4, v, e5, hd⟩
end Go.E
namespace Go.E
open Go Go.RowKit
def encLf (h : List UInt8 × Int × Int × List UInt8) : Value := .agg #[.string ⟨h.1.toArray⟩, .int .i64 h.2.1, .int .i64 h.2.2.1, .string ⟨h.2.2.2.toArray⟩]
theorem keyOk_lf {P : Program} {kt : TypeId} {fs : Array Field} (hd : P.underlying kt = some (.struct fs)) (hc : ∀ (b : Bool) (s m : List UInt8) (x y : Int) w, (Instr.checkKey b 10000 kt (.agg #[.string ⟨s.toArray⟩, .int .i64 x, .int .i64 y, .string ⟨m.toArray⟩])).run P w = .ok () w)
    (he : ∀ (s s' m m' : List UInt8) (x x' y y' : Int) w, (Op.equalIn 10000 kt (.agg #[.string ⟨s.toArray⟩, .int .i64 x, .int .i64 y, .string ⟨m.toArray⟩]) (.agg #[.string ⟨s'.toArray⟩, .int .i64 x', .int .i64 y', .string ⟨m'.toArray⟩])).run P w = .ok (decide (s = s' ∧ x = x' ∧ y = y' ∧ m = m')) w) : KeyOk P kt encLf :=
  ⟨fun b k w => hc b k.1 k.2.2.2 k.2.1 k.2.2.1 w,
    fun k => by
      obtain ⟨d, he⟩ : ∃ d, 10000 = d + 1 := ⟨9999, rfl⟩
      rw [he]
      cases d <;> simp [Instr.sameBits, encLf, ba_eq],
    ⟨_, hd, .inr ⟨fun a b => rfl, fun a b w => by
      obtain ⟨a1, a2, a3, a4⟩ := a
      obtain ⟨b1, b2, b3, b4⟩ := b
      have := he a1 b1 a4 b4 a2 b2 a3 b3 w
      unfold Op.equal
      rw [show Op.maxDepth = 10000 from rfl]
      simp only [encLf]
      rw [this]
      congr 1
      rw [Bool.eq_iff_iff]
      simp⟩⟩⟩
section
variable {P : Program} {L : Env} {w : World} {t t' ty : TypeId} {x y : Operand}
theorem r_shlVu [Dr] {a c : Int} {k' : IntKind} (hx : ev L x = some (.int .u64 a)) (hy : ev L y = some (.int k' c)) (hc : 0 ≤ c ∧ c ≤ 63) : RunsAt P L w (.binOp .shl t x y t') ty (.int .u64 (IntKind.u64.wrap (a * 2 ^ c.toNat))) := by
  obtain ⟨m, rfl⟩ := Int.eq_ofNat_of_zero_le hc.1
  rw [Int.toNat_natCast]
  exact r_shl hx hy rfl (by simp [IntKind.bits]; omega) rfl
theorem wrapU64 {v : Nat} (h : v < 2 ^ 64) : IntKind.u64.wrap (v : Int) = (v : Int) := by
  simp only [IntKind.wrap]
  simp [IntKind.bits, IntKind.signed] <;> omega
theorem r_bitU [Dr] {op : BinOp} {c : Nat} {p q : Int} (hx : ev L x = some (.int .u64 p)) (hy : ev L y = some (.int .u64 q)) (ho : bitN op p.toNat q.toNat = some c) (h : (0 ≤ p ∧ p < 2 ^ 64) ∧ (0 ≤ q ∧ q < 2 ^ 64)) : RunsAt P L w (.binOp op t x y t') ty (.int .u64 (c : Int)) := by
  intro w' _ ρ hρ dst pos af g
  obtain ⟨a, rfl⟩ := Int.eq_ofNat_of_zero_le h.1.1
  obtain ⟨b, rfl⟩ := Int.eq_ofNat_of_zero_le h.2.1
  rw [Int.toNat_natCast, Int.toNat_natCast] at ho
  have ha : a < 2 ^ 64 := by omega
  have hb : b < 2 ^ 64 := by omega
  have ea : (BitVec.ofInt 64 (a : Int)).toNat = a := by simp; omega
  have eb : (BitVec.ofInt 64 (b : Int)).toNat = b := by simp; omega
  cases op <;> simp only [bitN, Option.some.injEq, reduceCtorEq] at ho <;> subst ho
  · have e : (Op.intBits .and .u64 (a : Int) (b : Int)).run P w' = .ok (.int .u64 ((a &&& b : Nat) : Int)) w' := by
      show Result.ok (Value.int .u64 (IntKind.u64.wrap ((BitVec.ofInt 64 (a : Int) &&& BitVec.ofInt 64 (b : Int)).toNat : Int))) w' = _
      rw [BitVec.toNat_and, ea, eb, wrapU64 (Nat.and_lt_two_pow _ hb)]
    simp only [execOp, hρ x _ hx, hρ y _ hy, eqGuard, binOp, Sem.run_bind, ne_eq, not_true_eq_false, if_false, Bool.not_false, if_true, Sem.run_pure, Result.andThen_ok, e]
  · have e : (Op.intBits .or .u64 (a : Int) (b : Int)).run P w' = .ok (.int .u64 ((a ||| b : Nat) : Int)) w' := by
      show Result.ok (Value.int .u64 (IntKind.u64.wrap ((BitVec.ofInt 64 (a : Int) ||| BitVec.ofInt 64 (b : Int)).toNat : Int))) w' = _
      rw [BitVec.toNat_or, ea, eb, wrapU64 (Nat.or_lt_two_pow ha hb)]
    simp only [execOp, hρ x _ hx, hρ y _ hy, eqGuard, binOp, Sem.run_bind, ne_eq, not_true_eq_false, if_false, Bool.not_false, if_true, Sem.run_pure, Result.andThen_ok, e]
  · have e : (Op.intBits .xor .u64 (a : Int) (b : Int)).run P w' = .ok (.int .u64 ((a ^^^ b : Nat) : Int)) w' := by
      show Result.ok (Value.int .u64 (IntKind.u64.wrap ((BitVec.ofInt 64 (a : Int) ^^^ BitVec.ofInt 64 (b : Int)).toNat : Int))) w' = _
      rw [BitVec.toNat_xor, ea, eb, wrapU64 (Nat.xor_lt_two_pow ha hb)]
    simp only [execOp, hρ x _ hx, hρ y _ hy, eqGuard, binOp, Sem.run_bind, ne_eq, not_true_eq_false, if_false, Bool.not_false, if_true, Sem.run_pure, Result.andThen_ok, e]
end
end Go.E
end
section
namespace Go.E
open Go Go.RowKit
section
variable {P : Program} {L : Env} {w : World} {t ty : TypeId} {x a b : Operand} {l : List UInt8} {k k' : IntKind} {i j : Int}
theorem ba_extract (l : List UInt8) (a b : Nat) : (⟨l.toArray⟩ : ByteArray).extract a b = ⟨((l.drop a).take (b - a)).toArray⟩ := by
  apply ByteArray.ext
  rw [ByteArray.data_extract]
  simp [List.extract_eq_take_drop]
theorem r_ssl [Dr] {lo hi : Option Operand} (hx : ev L x = some (.string ⟨l.toArray⟩)) (ht : P.underlying t = some .string) (a b : Nat) (ha : loB L lo a) (hb : hiB L hi b l.length) (h1 : a ≤ b) (h2 : b ≤ l.length) :
    RunsAt P L w (.slice t x lo hi none) ty (.string ⟨((l.drop a).take (b - a)).toArray⟩) := by
  intro w' _ ρ hρ dst pos af g
  have hs : (ByteArray.mk l.toArray).size = l.length := by simp [ByteArray.size]
  have e3 : (a : Int) ≤ (b : Int) := by omega
  have e4 : (b : Int) ≤ (l.length : Int) := by omega
  have e5 : (a : Int) ≤ (l.length : Int) := by omega
  cases lo with
  | none =>
    simp only [loB] at ha
    subst ha
    cases hi with
    | none =>
      simp only [hiB] at hb
      subst hb
      simp [execOp, hρ x _ hx, Instr.sliceAt, run_underlying ht, Instr.slice, Instr.sliceBounds, hs, ba_extract]
    | some o2 =>
      obtain ⟨k2, hb⟩ := hb
      simp [execOp, hρ x _ hx, hρ o2 _ hb, Instr.sliceAt, run_underlying ht, Instr.slice, Instr.sliceBounds, Instr.sliceBound, asIntOf, hs, h2, ba_extract]
  | some o1 =>
    obtain ⟨k1, ha⟩ := ha
    cases hi with
    | none =>
      simp only [hiB] at hb
      subst hb
      simp [execOp, hρ x _ hx, hρ o1 _ ha, Instr.sliceAt, run_underlying ht, Instr.slice, Instr.sliceBounds, Instr.sliceBound, asIntOf, hs, h1, ba_extract]
    | some o2 =>
      obtain ⟨k2, hb⟩ := hb
      simp [execOp, hρ x _ hx, hρ o1 _ ha, hρ o2 _ hb, Instr.sliceAt, run_underlying ht, Instr.slice, Instr.sliceBounds, Instr.sliceBound, asIntOf, hs, h1, h2, ba_extract]
theorem r_sslB [Dr] (hx : ev L x = some (.string ⟨l.toArray⟩)) (ha : ev L a = some (.int k i)) (hb : ev L b = some (.int k' j)) (ht : P.underlying t = some .string) (hc : 0 ≤ i ∧ i ≤ j ∧ j ≤ (l.length : Int)) :
    RunsAt P L w (.slice t x (some a) (some b) none) ty (.string ⟨((l.drop i.toNat).take (j.toNat - i.toNat)).toArray⟩) :=
  r_ssl hx ht i.toNat j.toNat ⟨k, by rw [Int.toNat_of_nonneg (by omega)]; exact ha⟩ ⟨k', by rw [Int.toNat_of_nonneg (by omega)]; exact hb⟩ (by omega) (by omega)
theorem r_sslL [Dr] (hx : ev L x = some (.string ⟨l.toArray⟩)) (ha : ev L a = some (.int k i)) (ht : P.underlying t = some .string) (hc : 0 ≤ i ∧ i ≤ (l.length : Int)) :
    RunsAt P L w (.slice t x (some a) none none) ty (.string ⟨(l.drop i.toNat).toArray⟩) := by
  have := r_ssl (P := P) (w := w) (ty := ty) hx ht i.toNat l.length (lo := some a) (hi := none) ⟨k, by rw [Int.toNat_of_nonneg (by omega)]; exact ha⟩ rfl (by omega) (by omega)
  rwa [List.take_of_length_le (by simp)] at this
end
section
variable {P : Program} {n : Sz} {Q : Exit → Act → World → Prop} {L : Env} {w w0 : World} {O : List Res} {lop : List Oper} {ix : Nat} {tr : Tr}
  {d : Nat} {ty : TypeId} {pos : String} {af : Array Edge} {α : Type} {r : Rp α} {x a b : Operand} {v : Value} {t t' e : TypeId} {H : PH} {l : List α} {k k' : IntKind} {i j : Int} {zz : Value} {bt : Nat} {jg sg : Nat} {want bb : Bool} {oj : Oper}
theorem D_sliceg [Dr] {lo hi : Option Operand} (ho : nthO lop ix = some ⟨some d, .slice t x lo hi none, ty, pos, af, some (jg, want)⟩) (hj : nthO lop jg = some oj) (hd : oj.dst = some sg) (hg : gt L sg = some (.bool bb)) (hw : bb = want) (hx : ev L x = some v) (ht : P.underlying t = some (.slice e)) (he : Zr P e zz r.sz bt) (hv : Vec r H v l) (a b : Nat)
    (ha : loB L lo a) (hb : hiB L hi b l.length) (hab : a ≤ b ∧ b ≤ l.length) (hn : Nat.blt d n.n = true)
    (h : ∀ v', Vec r H v' ((l.drop a).take (b - a)) → D P n lop Q tr ((d, v') :: L) w) : D P n lop Q (.q ix tr) L w := by
  obtain ⟨v', h1, h2⟩ := r_slice (P := P) (ty := ty) hx ht he hv a b ha hb hab.1 hab.2
  exact D_vg (h2 w) ho hj hd hg hw hn (h v' h1)
theorem D_sliceLg [Dr] (ho : nthO lop ix = some ⟨some d, .slice t x (some a) none none, ty, pos, af, some (jg, want)⟩) (hj : nthO lop jg = some oj) (hd : oj.dst = some sg) (hg : gt L sg = some (.bool bb)) (hw : bb = want) (hx : ev L x = some v) (ha : ev L a = some (.int k i)) (ht : P.underlying t = some (.slice e)) (he : Zr P e zz r.sz bt) (hv : Vec r H v l) (hc : 0 ≤ i ∧ i ≤ (l.length : Int)) (hn : Nat.blt d n.n = true)
    (h : ∀ v', Vec r H v' (l.drop i.toNat) → D P n lop Q tr ((d, v') :: L) w) : D P n lop Q (.q ix tr) L w :=
  D_sliceg ho hj hd hg hw hx ht he hv i.toNat l.length ⟨k, by rw [Int.toNat_of_nonneg (by omega)]; exact ha⟩ rfl (by omega) hn fun v' h' => h v' (by rwa [List.take_of_length_le (by simp)] at h')
/-- A string becomes bytes, in its place. -/
theorem D_s2b [Dr] {l : List UInt8} {u : TypeDesc} (ho : nthO lop ix = some ⟨some d, .convert t' t x, ty, pos, af, none⟩) (hx : ev L x = some (.string ⟨l.toArray⟩)) (ht : P.underlying t' = some u) (ht' : P.underlying t = some (.slice e)) (he : P.underlying e = some (.int .u8)) (hn : Nat.blt d n.n = true) (hL : Lcl w0 O w) (hl : l.length ≤ 9223372036854775807)
    (h : ∀ v w', Ext w w' → Lcl w0 O w' → Le (fz w O) (fz w' O) → Vec .byte (gz H w0 w' O) v l → D P n lop Q tr ((d, v) :: L) w') : D P n lop Q (.h ix tr) L w := by
  have hs : (ByteArray.mk l.toArray).size = l.length := by simp [ByteArray.size]
  refine D_hop (R := fun w1 u w' => u = .slice (some ⟨w1.heap.size, 0, none⟩) l.length (grownCap w1 l.length 0 e) ∧ w' = Lib.bytesWorld w1 e ⟨l.toArray⟩) ho hn (fun w1 hx1 ρ hρ => ?_) (fun w1 u w' hx1 hx2 hR => ?_)
  · have := Lib.run_convert_string_bytes (P := P) w1 t' t e ⟨l.toArray⟩ ht ht' he
    rw [hs] at this
    exact ⟨_, _, by simp [execOp, hρ x _ hx, this], (bytes_vec w1 e hl).1, rfl, rfl⟩
  · obtain ⟨rfl, rfl⟩ := hR
    obtain ⟨h1, h2⟩ := bytes_vec w1 e hl
    have hL1 := hL.call hx1
    exact h _ _ (hx1.trans h1) (hL1.call h1) ((fz_ext hL hx1).trans (fz_ext hL1 h1)) (h2.mono (gz_new hL1))
end
section
variable {P : Program} {n : Sz} {ops : Array Oper} {Q : Exit → Act → World → Prop} {L : Env} {w w0 : World} {O : List Res} {l : List Oper} {i : Nat} {t : Tr} {rest : List Oper}
  {d : Nat} {ty : TypeId} {pos : String} {af : Array Edge} {f : FuncId} {args : List Operand} {vs : List Value} {at_ : Array TypeId} {fo : Operand}
theorem S_callwL [Dr] {R : Value → World → Prop} (hf : ev L fo = some (.func (.func f) #[] #[])) (ha : evl L args = some vs) (hn : Nat.blt d n.n = true) (hL : Lcl w0 O w) (hok : Ok P f vs w (fun v w' => Ext w w' ∧ R v w'))
    (h : ∀ v w', R v w' → Ext w w' → Lcl w0 O w' → Le (fz w O) (fz w' O) → S P n ops Q rest ((d, v) :: L) w') : S P n ops Q (⟨some d, .call ⟨.value fo, args.toArray, at_⟩, ty, pos, af, none⟩ :: rest) L w :=
  S_callv (cap := []) (R := fun v w' => Ext w w' ∧ R v w') hf ha hn (by rw [List.append_nil]; exact hok) fun v w' hh => h v w' hh.2 hh.1 (hL.call hh.1) (fz_ext hL hh.1)
end
end Go.E
namespace Go.E
open Go
/-- What is laid into a new slice, by its cells alone. -/
theorem fill_congr (place : Nat → Option (Nat × Nat)) : ∀ (l m : List (Nat × Value)) (cells : Array Value), l.map (fun p => (p.1, p.2.cells)) = m.map (fun p => (p.1, p.2.cells)) → Instr.fill place cells l = Instr.fill place cells m
  | [], [], _, _ => rfl
  | [], _ :: _, _, h => by cases h
  | _ :: _, [], _, h => by cases h
  | (i, v) :: l, (j, u) :: m, cells, h => by
    simp only [List.map_cons, List.cons.injEq, Prod.mk.injEq] at h
    obtain ⟨⟨rfl, h1⟩, h2⟩ := h
    unfold Instr.fill
    rw [h1]
    split
    · rfl
    · split
      · rfl
      · exact fill_congr place l m _ h2
theorem bs_congr {P : Program} {t : TypeId} {n : Nat} {ps qs : Array (Nat × Value)} {w : World} (h : ps.toList.map (fun p => (p.1, p.2.cells)) = qs.toList.map (fun p => (p.1, p.2.cells))) : (Instr.buildSlice t n ps).run P w = (Instr.buildSlice t n qs).run P w := by
  unfold Instr.buildSlice
  simp only [fill_congr _ _ _ _ h]
theorem one_cells {v : Value} (h : v.oneCell' = true) : v.cells = (Value.agg #[v]).cells := by
  cases v <;> first | rfl | cases h
end Go.E
namespace Go.E
open Go
/-- Four fields: a string, two ints, a string. -/
theorem eq_lf {P : Program} {t : TypeId} {f0 f1 f2 f3 : Field} {k1 k2 : IntKind} (ht : P.underlying t = some (.struct (P.fieldsOf t))) (hp : P.stoodInHeld t = false) (hf : (P.fieldsOf t).toList = [f0, f1, f2, f3]) (h0 : f0.name ≠ "_" ∧ f0.offset = 0) (h1 : f1.name ≠ "_" ∧ f1.offset = 1) (h2 : f2.name ≠ "_" ∧ f2.offset = 2) (h3 : f3.name ≠ "_" ∧ f3.offset = 3)
    (u0 : P.underlying f0.type = some .string) (u1 : P.underlying f1.type = some (.int k1)) (u2 : P.underlying f2.type = some (.int k2)) (u3 : P.underlying f3.type = some .string) (s m : List UInt8) (a b : Int) (s2 m2 : List UInt8) (c e : Int) (w : World) :
    (Op.equalIn 10000 t (.agg #[.string ⟨s.toArray⟩, .int k1 a, .int k2 b, .string ⟨m.toArray⟩]) (.agg #[.string ⟨s2.toArray⟩, .int k1 c, .int k2 e, .string ⟨m2.toArray⟩])).run P w = .ok (decide (s = s2 ∧ a = c ∧ b = e ∧ m = m2)) w := by
  rw [run_equalIn_struct w 9999 t _ _ ht hp, hf]
  have hs : ∀ (dd : Nat) (s m : List UInt8), (Op.equalIn (dd + 1) f0.type (.string ⟨s.toArray⟩) (.string ⟨m.toArray⟩)).run P w = .ok (decide (s = m)) w := fun dd s m => by
    simp [Op.equalIn, run_underlying u0, ba_eq]
  have hs3 : ∀ (dd : Nat) (s m : List UInt8), (Op.equalIn (dd + 1) f3.type (.string ⟨s.toArray⟩) (.string ⟨m.toArray⟩)).run P w = .ok (decide (s = m)) w := fun dd s m => by
    simp [Op.equalIn, run_underlying u3, ba_eq]
  have key : ∀ dd : Nat, (Op.eqFields (dd + 1) #[.string ⟨s.toArray⟩, .int k1 a, .int k2 b, .string ⟨m.toArray⟩] #[.string ⟨s2.toArray⟩, .int k1 c, .int k2 e, .string ⟨m2.toArray⟩] [f0, f1, f2, f3]).run P w = .ok (decide (s = s2 ∧ a = c ∧ b = e ∧ m = m2)) w := by
    intro dd
    by_cases e0 : s = s2 <;> by_cases e1 : a = c <;> by_cases e2 : b = e <;> by_cases e3 : m = m2 <;>
      simp [Op.eqFields, h0.1, h1.1, h2.1, h3.1, h0.2, h1.2, h2.2, h3.2, part, isAgg, run_underlying u0, run_underlying u1, run_underlying u2, run_underlying u3, hs, hs3, run_equalIn_int w dd _ _ _ _ _ u1, run_equalIn_int w dd _ _ _ _ _ u2, e0, e1, e2, e3]
  exact key 9998
end Go.E
namespace Go.E
open Go Go.RowKit
section
variable {P : Program} {n : Sz} {ops : Array Oper} {Q : Exit → Act → World → Prop} {L : Env} {w w0 : World} {O : List Res} {rest : List Oper}
  {ty : TypeId} {pos : String} {af : Array Edge} {α : Type} {r : Rp α} {x y : Operand} {u v : Value} {t e : TypeId} {H : PH}
end
end Go.E
end
section
namespace Go.L
/-- A rune as a string. -/
def runeS (r : Int) : List UInt8 := (Go.Utf8.encode r).data.toList
/-- The rune at a position, and its width. -/
def rdec (l : List UInt8) (p : Nat) : Nat × Nat := Go.Utf8.decode ⟨l.toArray⟩ p
/-- An entry for a key is there. -/
def mtouch {κ α : Type} [DecidableEq κ] (k : κ) (l : List (κ × List α)) : List (κ × List α) := mput k (mget [] k l) l
end Go.L
namespace Go.E
open Go Go.RowKit
section
variable {P : Program} {n : Sz} {ops : Array Oper} {Q : Exit → Act → World → Prop} {L : Env} {w w0 : World} {O : List Res} {rest : List Oper} {d : Nat} {ty t t' : TypeId} {pos : String} {af : Array Edge} {x y x' : Operand} {l : List UInt8}
theorem r_i2s [Dr] {a : Int} (hx : ev L x = some (.int .i32 a)) (ht : P.underlying t = some (.int .i32)) (ht' : P.underlying t' = some .string) : RunsAt P L w (.convert t t' x) ty (.string ⟨(Go.L.runeS a).toArray⟩) := by
  intro w' _ ρ hρ dst pos af g
  have e : (⟨(Go.L.runeS a).toArray⟩ : ByteArray) = Utf8.encode a := by unfold Go.L.runeS; rw [Array.toArray_toList]
  rw [e]
  simp [execOp, hρ x _ hx, convert, run_underlying ht, run_underlying ht', Conv.intToString]
/-- 'range' over a string. -/
theorem S_rangeS [Dr] (hx : ev L x = some (.string ⟨l.toArray⟩)) (ht : P.underlying t = some .string) (hn : Nat.blt d n.n = true) (hL : Lcl w0 O w)
    (h : ∀ w' b, Lcl w0 (.obj b (.stringIter ⟨l.toArray⟩ 0) :: O) w' → Le (fz w O) (fz w' (.obj b (.stringIter ⟨l.toArray⟩ 0) :: O)) → S P n ops Q rest ((d, .pointer (some ⟨b, 0, none⟩)) :: L) w') : S P n ops Q (⟨some d, .range t x, ty, pos, af, none⟩ :: rest) L w := by
  have hb : ∀ b, (Res.obj w.heap.size (.stringIter ⟨l.toArray⟩ 0)).block = some b → w.heap.size ≤ b := fun b e => by cases e; exact Nat.le_refl _
  refine S_value (v := .pointer (some ⟨w.heap.size, 0, none⟩)) (w' := w.alloc (.stringIter ⟨l.toArray⟩ 0)) rfl rfl hn (fun ρ hρ => ?_) (h _ _ (hL.new (ext_alloc w _) (World.alloc_heap_new w _) hb) (fz_new hL (ext_alloc w _) hb))
  simp [execOp, Instr.range, run_underlying ht, hρ x _ hx, newObj, Sem.run]
/-- The next rune, or the end. -/
theorem S_nextS [Dr] (i : Nat) {b p : Nat} (hx : ev L x = some (.pointer (some ⟨b, 0, none⟩))) (hn : Nat.blt d n.n = true) (hL : Lcl w0 O w) (hi : nthR O i = some (.obj b (.stringIter ⟨l.toArray⟩ p)))
    (h1 : p < l.length → ∀ w', Lcl w0 (setR O i (.obj b (.stringIter ⟨l.toArray⟩ (p + (Go.L.rdec l p).2)))) w' → Le (fz w O) (fz w' (setR O i (.obj b (.stringIter ⟨l.toArray⟩ (p + (Go.L.rdec l p).2))))) → S P n ops Q rest ((d, .tuple #[.bool true, .int .i64 (p : Int), .int .i32 ((Go.L.rdec l p).1 : Int)]) :: L) w')
    (h2 : ¬ p < l.length → S P n ops Q rest ((d, .tuple #[.bool false]) :: L) w) : S P n ops Q (⟨some d, .next x true, ty, pos, af, none⟩ :: rest) L w := by
  have hb : w.heap[b]? = some (.stringIter ⟨l.toArray⟩ p) := hL.at hi
  have hs : (ByteArray.mk l.toArray).size = l.length := by simp [ByteArray.size]
  by_cases hp : p < l.length
  · have hr := Lib.run_next_any_at (P := P) w b ⟨l.toArray⟩ p ty hb (by rw [hs]; exact hp)
    have hput := hL.putAt (.stringIter ⟨l.toArray⟩ (p + (Go.L.rdec l p).2)) hi
    refine S_value (v := .tuple #[.bool true, .int .i64 (p : Int), .int .i32 ((Go.L.rdec l p).1 : Int)]) (w' := _) rfl rfl hn (fun ρ hρ => ?_) (h1 hp _ hput.1 hput.2)
    have e : w.iterAt b ⟨l.toArray⟩ (p + (Utf8.decode ⟨l.toArray⟩ p).2) = w.putObj b (.stringIter ⟨l.toArray⟩ (p + (Go.L.rdec l p).2)) := rfl
    rw [e] at hr
    simp [execOp, hρ x _ hx, hr, Go.L.rdec]
  · have hr := Lib.run_next_end_at (P := P) w b ⟨l.toArray⟩ p ty hb (by rw [hs]; exact hp)
    refine S_value (v := .tuple #[.bool false]) (w' := w) rfl rfl hn (fun ρ hρ => ?_) (h2 hp)
    simp [execOp, hρ x _ hx, hr]
end
/-! ### Entries of maps -/
section
variable {κ : Type} {enc : κ → Value} {k : κ}
theorem mE_mkey : ∀ (l : List κ) (vs : List Value) (i m : Nat), l.length = vs.length → l[m]? = some k → (mE enc i l vs).modify m (fun e => { e with key := enc k }) = mE enc i l vs
  | b :: l, u :: vs, i, 0, _, h => by simp at h; subst h; simp [mE]
  | b :: l, u :: vs, i, m + 1, hl, h => by
    have := mE_mkey l vs (i + 1) m (by simpa using hl) (by simpa using h)
    simp only [mE, List.modify_succ_cons, this]
theorem mE_mval {v : Value} : ∀ (l : List κ) (vs : List Value) (i m : Nat), l.length = vs.length → (mE enc i l vs).modify m (fun e => { e with val := v }) = mE enc i l (vs.set m v)
  | [], [], _, _, _ => by simp [mE]
  | b :: l, u :: vs, i, 0, _ => by simp [mE]
  | b :: l, u :: vs, i, m + 1, hl => by
    have := mE_mval (v := v) l vs (i + 1) m (by simpa using hl)
    simp only [mE, List.modify_succ_cons, List.set_cons_succ, this]
theorem mE_born : ∀ (l : List κ) (vs : List Value) (i m : Nat), l.length = vs.length → m < l.length → (mE enc i l vs).findIdx? (fun e => (e.born : Int) == ((i + m : Nat) : Int)) = some m
  | b :: l, u :: vs, i, 0, _, _ => by simp [mE, List.findIdx?_cons]
  | b :: l, u :: vs, i, m + 1, hl, h => by
    have := mE_born l vs (i + 1) m (by simpa using hl) (by simpa using h)
    rw [show i + (m + 1) = i + 1 + m by omega]
    have hne : ((i : Int) == ((i + 1 + m : Nat) : Int)) = false := by simp; omega
    simp only [mE, List.findIdx?_cons, hne, Bool.false_eq_true, if_false, this, Option.map_some]
end
section
variable {κ α : Type} [DecidableEq κ] {k : κ} {l : List (κ × List α)}
theorem touch_some {m : Nat} (h : mI k (l.map Prod.fst) = some m) : Go.L.mtouch k l = l := by
  unfold Go.L.mtouch
  rw [mput_some h]
  have := mI_some ([] : List α) h
  obtain ⟨h1, h2⟩ := List.getElem?_eq_some_iff.1 this
  conv => lhs; rw [← h2]
  exact List.set_getElem_self h1
theorem touch_none (h : mI k (l.map Prod.fst) = none) : Go.L.mtouch k l = l ++ [(k, [])] := by
  unfold Go.L.mtouch
  rw [mput_none h, mI_none [] h]
theorem mget_touch : Go.L.mget [] k (Go.L.mtouch k l) = Go.L.mget [] k l := by
  cases h : mI k (l.map Prod.fst) with
  | some m => rw [touch_some h]
  | none =>
    rw [touch_none h]
    clear h
    induction l with
    | nil => simp [Go.L.mget]
    | cons a l ih =>
      obtain ⟨a, y⟩ := a
      simp only [List.cons_append, Go.L.mget]
      split
      · rfl
      · exact ih
theorem mI_touch : ∃ m, mI k ((Go.L.mtouch k l).map Prod.fst) = some m := by
  cases h : mI k (l.map Prod.fst) with
  | some m => rw [touch_some h]; exact ⟨m, h⟩
  | none =>
    rw [touch_none h]
    clear h
    induction l with
    | nil => exact ⟨0, by simp [mI]⟩
    | cons a l ih =>
      obtain ⟨a, y⟩ := a
      obtain ⟨m, hm⟩ := ih
      simp only [List.cons_append, List.map_cons, mI]
      split
      · exact ⟨_, rfl⟩
      · rw [hm]; exact ⟨_, rfl⟩
theorem mput_app {y z : List α} : ∀ {l : List (κ × List α)}, mI k (l.map Prod.fst) = none → Go.L.mput k y (l ++ [(k, z)]) = Go.L.mput k y l
  | [], _ => by simp [Go.L.mput]
  | (a, x) :: l, h => by
    simp only [List.map_cons, mI] at h
    split at h
    · cases h
    · rename_i e
      simp only [List.cons_append, Go.L.mput, if_neg e]
      rw [mput_app (by cases h1 : mI k (l.map Prod.fst) <;> simp_all)]
theorem mput_touch {y : List α} : Go.L.mput k y (Go.L.mtouch k l) = Go.L.mput k y l := by
  cases h : mI k (l.map Prod.fst) with
  | some m => rw [touch_some h]
  | none => rw [touch_none h, mput_app h]
def mstamp (k : κ) (l : List κ) : Int := match mI k l with | some m => (m : Int) | none => 0
end
section
variable {P : Program} {n : Sz} {ops : Array Oper} {Q : Exit → Act → World → Prop} {L : Env} {w w0 : World} {O : List Res} {rest : List Oper} {d : Nat} {ty ty' t mt kt et e : TypeId} {pos pos' : String} {af af' : Array Edge} {x y x' m' : Operand}
  {κ α : Type} [DecidableEq κ] {enc : κ → Value} {cw : α → List Value} {sz : Nat} {l : List (κ × List α)} {vs : List Value} {k : κ} {H : PH} {A : List Res}
/-- 'm[k] op= ..': the entry is looked for, or made. -/
theorem S_mapEntry [Dr] (ib : Nat) {b : Nat} (hx : ev L x = some (.map (some b))) (hy : ev L y = some (enc k)) (ht : P.underlying t = some (.map kt et)) (hk : KeyOk P kt enc) (hz : Mz P et (.slice none 0 0)) (hn : Nat.blt d n.n = true) (hL : Lcl w0 (A ++ mT cw e sz l vs) w)
    (hib : nthR A ib = some (mpR enc b l vs)) (hl : l.length = vs.length)
    (h : ∀ vs' w', (Go.L.mtouch k l).length = vs'.length → Lcl w0 (setR A ib (mpR enc b (Go.L.mtouch k l) vs') ++ mT cw e sz (Go.L.mtouch k l) vs') w' →
      Le (fz w (A ++ mT cw e sz l vs)) (fz w' (setR A ib (mpR enc b (Go.L.mtouch k l) vs') ++ mT cw e sz (Go.L.mtouch k l) vs')) →
      S P n ops Q rest ((d, .tuple #[lkV (.slice none 0 0) k ((Go.L.mtouch k l).map Prod.fst) vs', .int .i64 (mstamp k ((Go.L.mtouch k l).map Prod.fst))]) :: L) w') :
    S P n ops Q (⟨some d, .mapEntry t x y, ty, pos, af, none⟩ :: rest) L w := by
  have hb : w.heap[b]? = some (.map (mE enc 0 (l.map Prod.fst) vs).toArray l.length) := hL.at (nthR_left _ hib)
  have hg : (getObj b).run P w = .ok (.map (mE enc 0 (l.map Prod.fst) vs).toArray l.length) w := by simp [getObj, Sem.run, hb]
  have hs : ∀ o, (setObj b o).run P w = .ok () (w.putObj b o) := fun o => by simp [setObj, Sem.run, hb, World.putObj]
  have hll : (l.map Prod.fst).length = vs.length := by rw [List.length_map]; exact hl
  cases hm : mI k (l.map Prod.fst) with
  | some m =>
    obtain ⟨h1, h2⟩ := mI_lt hm
    have he := mE_get (enc := enc) (l.map Prod.fst) vs 0 m k hll h2
    have hp := hL.putAt (.map (mE enc 0 (l.map Prod.fst) vs).toArray l.length) (nthR_left _ hib)
    rw [setR_left _ _ hib] at hp
    have h' := h vs (w.putObj b (.map (mE enc 0 (l.map Prod.fst) vs).toArray l.length))
    rw [touch_some hm] at h'
    have e1 : (mE enc 0 (l.map Prod.fst) vs).toArray.modify m (fun e => { e with key := enc k }) = (mE enc 0 (l.map Prod.fst) vs).toArray := by rw [List.modify_toArray, mE_mkey _ vs 0 m hll h2]
    refine S_value (v := _) (w' := _) rfl rfl hn (fun ρ hρ => ?_) (h' hl hp.1 hp.2)
    have hr : (Instr.mapEntry t (.map (some b)) (enc k)).run P w = .ok (.tuple #[lkV (.slice none 0 0) k (l.map Prod.fst) vs, .int .i64 (mstamp k (l.map Prod.fst))]) (w.putObj b (.map (mE enc 0 (l.map Prod.fst) vs).toArray l.length)) := by
      simp only [Instr.mapEntry, Sem.run_bind, run_underlying ht, Result.andThen, hg, hk.check]
      rw [find_mE hk hll, hm]
      simp only [Option.map_some, Sem.run_bind, Result.andThen, List.getElem?_toArray, he, Option.getD_some, Instr.keyThatStays, hk.bits, if_true]
      simp only [Sem.run_pure, Nat.zero_add]
      rw [e1, hs]
      simp [lkV, mstamp, hm, goInt]
    simp [execOp, hρ x _ hx, hρ y _ hy, hr]
  | none =>
    have hp := hL.putAt (.map (mE enc 0 (l.map Prod.fst ++ [k]) (vs ++ [.slice none 0 0])).toArray (l.length + 1)) (nthR_left _ hib)
    rw [setR_left _ _ hib] at hp
    have hnil := row_nil hp.1 e sz
    have h' := h (vs ++ [.slice none 0 0]) (w.putObj b (.map (mE enc 0 (l.map Prod.fst ++ [k]) (vs ++ [.slice none 0 0])).toArray (l.length + 1)))
    rw [touch_none hm] at h'
    have hpush := mE_push (enc := enc) (k := k) (v := .slice none 0 0) (l.map Prod.fst) vs 0 hll
    rw [Nat.zero_add] at hpush
    have e2 : (l ++ [(k, ([] : List α))]).map Prod.fst = l.map Prod.fst ++ [k] := by simp
    have e3 : (l ++ [(k, ([] : List α))]).length = l.length + 1 := by simp
    have hB : (.obj b (.map (mE enc 0 (l.map Prod.fst ++ [k]) (vs ++ [.slice none 0 0])).toArray (l.length + 1)) : Res) = mpR enc b (l ++ [(k, ([] : List α))]) (vs ++ [.slice none 0 0]) := by unfold mpR; rw [e2, e3]
    rw [hB] at hp hnil
    have hperm : (setR A ib (mpR enc b (l ++ [(k, ([] : List α))]) (vs ++ [.slice none 0 0])) ++ mT cw e sz (l ++ [(k, ([] : List α))]) (vs ++ [.slice none 0 0])).Perm (.row (.slice none 0 0) e sz 0 [] :: (setR A ib (mpR enc b (l ++ [(k, ([] : List α))]) (vs ++ [.slice none 0 0])) ++ mT cw e sz l vs)) := by
      rw [mT_push k [] (.slice none 0 0) hl, ← List.append_assoc]
      exact List.perm_append_singleton _ _
    have hmm : mI k (l.map Prod.fst ++ [k]) = some l.length := by
      have hmk : ∀ (ks : List κ), mI k ks = none → mI k (ks ++ [k]) = some ks.length := by
        intro ks
        induction ks with
        | nil => intro _; simp [mI]
        | cons a ks ih =>
          intro hh
          simp only [mI] at hh
          split at hh
          · cases hh
          · rename_i ee
            simp only [List.cons_append, mI, if_neg ee]
            rw [ih (by cases h1 : mI k ks <;> simp_all)]
            simp
      have := hmk _ hm
      rwa [List.length_map] at this
    refine S_value (v := _) (w' := _) rfl rfl hn (fun ρ hρ => ?_) (h' (by simp [hl]) (hnil.1.perm hperm) (by rw [fz_perm hperm]; exact hp.2.trans hnil.2))
    have hr : (Instr.mapEntry t (.map (some b)) (enc k)).run P w = .ok (.tuple #[lkV (.slice none 0 0) k ((l ++ [(k, ([] : List α))]).map Prod.fst) (vs ++ [.slice none 0 0]), .int .i64 (mstamp k ((l ++ [(k, ([] : List α))]).map Prod.fst))]) (w.putObj b (.map (mE enc 0 (l.map Prod.fst ++ [k]) (vs ++ [.slice none 0 0])).toArray (l.length + 1))) := by
      rw [e2]
      simp only [Instr.mapEntry, Sem.run_bind, run_underlying ht, Result.andThen, hg, hk.check]
      rw [find_mE hk hll, hm]
      have hz' : (zeroValue et).run P w = .ok (.slice none 0 0) w := hz w
      simp only [Option.map_none, Sem.run_bind, Result.andThen, hz', List.push_toArray]
      rw [List.length_map] at hpush
      rw [hpush, hs]
      simp [lkV, mstamp, hmm, goInt, hl]
    simp [execOp, hρ x _ hx, hρ y _ hy, hr]
/-- .. and what was made of it is put there. -/
theorem S_estM [Dr] (ib : Nat) {b : Nat} {v : Value} {yl : List α} {T : List Res} (hpd : Pend cw e sz (Go.L.mtouch k l) vs k yl v T) (hm : ev L m' = some (.map (some b))) (hkx : ev L x' = some (.int .i64 (mstamp k ((Go.L.mtouch k l).map Prod.fst)))) (hv : ev L x = some v)
    (hL : Lcl w0 (A ++ T) w) (hib : nthR A ib = some (mpR enc b (Go.L.mtouch k l) vs))
    (h : ∀ vs' w', (Go.L.mput k yl l).length = vs'.length → Lcl w0 (setR A ib (mpR enc b (Go.L.mput k yl l) vs') ++ mT cw e sz (Go.L.mput k yl l) vs') w' →
      Le (fz w (A ++ T)) (fz w' (setR A ib (mpR enc b (Go.L.mput k yl l) vs') ++ mT cw e sz (Go.L.mput k yl l) vs')) → S P n ops Q rest L w') :
    S P n ops Q (⟨none, .entryStore mt m' x' x, ty, pos, af, none⟩ :: rest) L w := by
  obtain ⟨_, hl, hpm⟩ := hpd
  obtain ⟨m, hmi⟩ := mI_touch (k := k) (l := l)
  rw [mput_touch] at hpm
  have hll : ((Go.L.mtouch k l).map Prod.fst).length = vs.length := by rw [List.length_map]; exact hl
  obtain ⟨h1, h2⟩ := mI_lt hmi
  have hb : w.heap[b]? = some (.map (mE enc 0 ((Go.L.mtouch k l).map Prod.fst) vs).toArray (Go.L.mtouch k l).length) := hL.at (nthR_left T hib)
  have hg : (getObj b).run P w = .ok (.map (mE enc 0 ((Go.L.mtouch k l).map Prod.fst) vs).toArray (Go.L.mtouch k l).length) w := by simp [getObj, Sem.run, hb]
  have hs : ∀ o, (setObj b o).run P w = .ok () (w.putObj b o) := fun o => by simp [setObj, Sem.run, hb, World.putObj]
  have hU : upV k v ((Go.L.mtouch k l).map Prod.fst) vs = vs.set m v := by unfold upV; rw [hmi]
  have hK : (Go.L.mput k yl l).map Prod.fst = (Go.L.mtouch k l).map Prod.fst := by
    have := upK_mput (k := k) (y := yl) (l := Go.L.mtouch k l)
    rw [mput_touch] at this
    rw [← this]
    unfold upK
    rw [hmi]
  have hlen : (Go.L.mput k yl l).length = (Go.L.mtouch k l).length := by have := congrArg List.length hK; simpa using this
  have hf := mE_born (enc := enc) _ vs 0 m hll h1
  rw [Nat.zero_add] at hf
  have hp := hL.putAt (.map (mE enc 0 ((Go.L.mput k yl l).map Prod.fst) (vs.set m v)).toArray (Go.L.mput k yl l).length) (nthR_left T hib)
  rw [setR_left _ _ hib] at hp
  have hpm2 := List.Perm.append_left (setR A ib (mpR enc b (Go.L.mput k yl l) (upV k v ((Go.L.mtouch k l).map Prod.fst) vs))) hpm.symm
  rw [hU] at hpm2
  have hr : (Instr.entryStore mt (.map (some b)) (.int .i64 (mstamp k ((Go.L.mtouch k l).map Prod.fst))) v).run P w = .ok () (w.putObj b (.map (mE enc 0 ((Go.L.mput k yl l).map Prod.fst) (vs.set m v)).toArray (Go.L.mput k yl l).length)) := by
    simp only [Instr.entryStore, Sem.run_bind, Result.andThen, hg, mstamp, hmi, asInt, asIntOf]
    simp only [Sem.run_bind, Sem.run_pure, Result.andThen, List.findIdx?_toArray, hf, List.modify_toArray]
    rw [mE_mval _ vs 0 m hll, hs, hK, hlen]
  refine S_effect (w' := _) rfl rfl (fun ρ hρ => ?_) (h (vs.set m v) _ (by rw [hlen, List.length_set]; exact hl) (hp.1.perm hpm2) ?_)
  · simp [execOp, hρ m' _ hm, hρ x' _ hkx, hρ x _ hv, hr]
  · rw [fz_perm hpm2]; exact hp.2
end
end Go.E
end
section
namespace Go.E
open Go Go.RowKit
/-- v' looks into v from lo on. -/
def RSub (v v' : Value) (lo : Nat) : Prop := ∃ a m cap, v = .slice a m cap ∧ lo ≤ m ∧ m ≤ cap ∧ v' = .slice (if cap = lo then a else a.map (·.add lo)) (m - lo) (cap - lo)
theorem RSub.vec {α : Type} {r : Rp α} {H : PH} {v v' : Value} {lo : Nat} {l : List α} (h : RSub v v' lo) (hv : Vec r H v l) (hr : r.sz = 1) : Vec r H v' (l.drop lo) := by
  obtain ⟨a, m, cap, rfl, h1, h2, rfl⟩ := h
  obtain ⟨a', cap', he⟩ := hv.header
  have hm : m = l.length := by cases he; rfl
  subst hm
  obtain ⟨a2, cap2, e2, hs⟩ := hv.sub lo l.length h1 (Nat.le_refl _)
  cases e2
  rw [hr, Nat.mul_one, List.take_of_length_le (by simp)] at hs
  exact hs
section
variable {P : Program} {n : Sz} {ops : Array Oper} {Q : Exit → Act → World → Prop} {L : Env} {w w0 : World} {O : List Res} {rest : List Oper} {d : Nat}
  {ty : TypeId} {pos : String} {af : Array Edge} {α : Type} {r : Rp α} {x a b : Operand} {v : Value} {t e : TypeId} {H : PH} {k : IntKind} {lo : Int} {m : Nat} {zz : Value} {bt : Nat} {xs : List Value}
theorem S_rsub [Dr] (i : Nat) (hx : ev L x = some v) (ha : ev L a = some (.int k lo)) (ht : P.underlying t = some (.slice e)) (hz : Zr P e zz 1 bt) (hL : Lcl w0 O w) (hi : nthR O i = some (.row v e 1 m xs)) (hc : 0 ≤ lo ∧ lo ≤ (m : Int)) (hn : Nat.blt d n.n = true)
    (h : ∀ v', RSub v v' lo.toNat → S P n ops Q rest ((d, v') :: L) w) : S P n ops Q (⟨some d, .slice t x (some a) none none, ty, pos, af, none⟩ :: rest) L w := by
  have hown : w.ownsRow 0 e 1 v m xs := hL.at hi
  obtain ⟨inf, i1, i2, i3, i4⟩ := hz.parts
  obtain ⟨q, rfl⟩ := Int.eq_ofNat_of_zero_le hc.1
  have hq : q ≤ m := by omega
  have hqi : (q : Int) ≤ (m : Int) := hc.2
  have key : ∃ A cap, v = .slice A m cap ∧ m ≤ cap := by
    rcases hown.2 with ⟨rfl, rfl⟩ | ⟨g, cp, cur, rfl, hbg, hg, hnc, hcm, hcs, htake⟩
    · exact ⟨none, 0, rfl, Nat.le_refl _⟩
    · exact ⟨_, cp, rfl, hnc⟩
  obtain ⟨A, cap, rfl, hmc⟩ := key
  refine S_v (fun w' _ ρ hρ dst pos af g => ?_) hn (h _ ⟨A, m, cap, rfl, hq, hmc, rfl⟩)
  simp [execOp, hρ x _ hx, hρ a _ ha, Instr.sliceAt, run_underlying ht, Instr.slice, Instr.sliceBounds, Instr.sliceBound, asIntOf, sizeOf, typeInfo, i1, i3, hqi, hq]
/-- A row is cut off behind its first elements. -/
theorem S_cutR [Dr] (i : Nat) {j : Int} {l : List α} (hx : ev L x = some v) (hb : ev L b = some (.int k j)) (ht : P.underlying t = some (.slice e)) (hz : Zr P e zz 1 bt) (hr : r.sz = 1) (hH : Le H (hp w0)) (hL : Lcl w0 O w) (hi : nthR O i = some (.row v e 1 l.length xs)) (he : Elems r (gz H w0 w O) l xs) (hc : 0 ≤ j ∧ j ≤ (l.length : Int)) (hn : Nat.blt d n.n = true)
    (h : ∀ v' xs', Lcl w0 (setR O i (.row v' e 1 (l.take j.toNat).length xs')) w → Le (fz w O) (fz w (setR O i (.row v' e 1 (l.take j.toNat).length xs'))) → Elems r (gz H w0 w (setR O i (.row v' e 1 (l.take j.toNat).length xs'))) (l.take j.toNat) xs' → S P n ops Q rest ((d, v') :: L) w) : S P n ops Q (⟨some d, .slice t x none (some b) none, ty, pos, af, none⟩ :: rest) L w := by
  have hown : w.ownsRow 0 e 1 v l.length xs := hL.at hi
  obtain ⟨inf, i1, i2, i3, i4⟩ := hz.parts
  obtain ⟨q, rfl⟩ := Int.eq_ofNat_of_zero_le hc.1
  have hq : q ≤ l.length := by omega
  rw [Int.toNat_natCast] at h
  have hlt : (l.take q).length = q := by rw [List.length_take]; omega
  have hel : ∀ (l : List α) (xs : List Value) (G : PH), Elems r G l xs → Elems r G (l.take q) (xs.take q) := by
    intro l xs G he
    have hgen : ∀ (q : Nat), Elems r G (l.take q) (xs.take q) := by
      induction he with
      | nil => intro q; simp; exact .nil
      | @cons y l c cs hy hl ih =>
        intro q
        have hc1 : c.length = 1 := by rw [r.len hy, hr]
        obtain ⟨u, rfl⟩ := List.length_eq_one_iff.1 hc1
        cases q with
        | zero => simp; exact .nil
        | succ q => exact .cons hy (ih q)
    exact hgen q
  have key : ∃ A cap, v = .slice A l.length cap ∧ l.length ≤ cap ∧ (∀ b, (Res.row (.slice A q cap) e 1 q (xs.take q)).block = some b → (Res.row v e 1 l.length xs).block = some b) ∧ (Res.row (.slice A q cap) e 1 q (xs.take q)).ok w ∧ (A.map (·.add 0) = A) := by
    rcases hown.2 with ⟨rfl, h0⟩ | ⟨g, cp, cur, rfl, hbg, hg, hnc, hcm, hcs, htake⟩
    · have hq0 : q = 0 := by omega
      subst hq0
      refine ⟨none, 0, by rw [h0], by omega, fun b h => h, ⟨by simp, .inl ⟨rfl, rfl⟩⟩, rfl⟩
    · refine ⟨_, cp, rfl, hnc, fun b h => h, ⟨?_, .inr ⟨g, cp, cur, rfl, hbg, hg, by omega, hcm, hcs, ?_⟩⟩, rfl⟩
      · rw [List.length_take, hown.1]; omega
      · rw [← htake, List.take_take, Nat.mul_one, Nat.mul_one, Nat.min_eq_left hq]
  obtain ⟨A, cap, rfl, hmc, hbl, hok, hA⟩ := key
  have hqc : (q : Int) ≤ (cap : Int) := by omega
  have hqc' : q ≤ cap := by omega
  have h1 := hL.turnAt hi (Nat.le_refl _) (World.grownBy.refl _ _) hok (fun b e => .inl (hbl b e))
  have h2 := fz_turnAt (r' := .row (.slice A q cap) e 1 q (xs.take q)) hL hi (World.grownBy.refl _ _) (fun b e => .inl (hbl b e))
  have h' := h (.slice A q cap) (xs.take q)
  rw [hlt] at h'
  refine S_v (fun w' _ ρ hρ dst pos af g => ?_) hn (h' h1 h2 ((hel l xs _ he).mono (gz_mono hH h2)))
  simp [execOp, hρ x _ hx, hρ b _ hb, Instr.sliceAt, run_underlying ht, Instr.slice, Instr.sliceBounds, Instr.sliceBound, asIntOf, sizeOf, typeInfo, i1, i3, hqc, hqc', hA]
/-- 'clear(x)', x a look into a row. -/
theorem S_clearR [Dr] (i : Nat) {v' : Value} {q : Nat} {l : List α} {z : α} (hx : ev L x = some v') (hs : RSub v v' q) (ht : P.underlying t = some (.slice e)) (hz : Zr P e zz 1 bt) (hr : r.sz = 1) (hzc : zz.cells = #[zz]) (h1 : zz.oneCell' = true) (hH : Le H (hp w0)) (hL : Lcl w0 O w) (hi : nthR O i = some (.row v e 1 l.length xs)) (he : Elems r (gz H w0 w O) l xs) (hrz : ∀ G, r.rel G z [zz])
    (h : ∀ w' xs', Lcl w0 (setR O i (.row v e 1 (l.take q ++ List.replicate (l.length - q) z).length xs')) w' → Le (fz w O) (fz w' (setR O i (.row v e 1 (l.take q ++ List.replicate (l.length - q) z).length xs'))) → Elems r (gz H w0 w' (setR O i (.row v e 1 (l.take q ++ List.replicate (l.length - q) z).length xs'))) (l.take q ++ List.replicate (l.length - q) z) xs' → S P n ops Q rest L w') :
    S P n ops Q (⟨none, .call ⟨.builtin .clear, #[x], #[t]⟩, ty, pos, af, none⟩ :: rest) L w := by
  have hown : w.ownsRow 0 e 1 v l.length xs := hL.at hi
  obtain ⟨inf, i1, i2, i3, i4⟩ := hz.parts
  have hxl : xs.length = l.length := by rw [hown.1, Nat.mul_one]
  have hel0 : ∀ (G : PH) (l : List α) (xs : List Value), Elems r G l xs → ∀ q, Elems r G (l.take q ++ List.replicate (l.length - q) z) (xs.take q ++ List.replicate (l.length - q) zz) := by
    intro G l xs he
    have hrep : ∀ k, Elems r G (List.replicate k z) (List.replicate k zz) := by
      intro k
      induction k with
      | zero => exact .nil
      | succ k ih => exact .cons (hrz G) ih
    induction he with
    | nil => intro q; simp; exact .nil
    | @cons y l c cs hy hl ih =>
      intro q
      have hc1 : c.length = 1 := by rw [r.len hy, hr]
      obtain ⟨u, rfl⟩ := List.length_eq_one_iff.1 hc1
      cases q with
      | zero => simpa using hrep (l.length + 1)
      | succ q =>
        have := ih q
        simp only [List.take_succ_cons, List.cons_append, List.length_cons, Nat.add_sub_add_right]
        exact .cons hy this
  have hel : ∀ G, Elems r G l xs → Elems r G (l.take q ++ List.replicate (l.length - q) z) (xs.take q ++ List.replicate (l.length - q) zz) := fun G he => hel0 G l xs he q
  have hle : (l.take q ++ List.replicate (l.length - q) z).length = l.length := by simp; omega
  rw [hle] at h
  obtain ⟨a, m, cap, hv, hq, hmc, rfl⟩ := hs
  by_cases hz0 : l.length - q = 0
  · have hm : m = l.length := by
      rcases hown.2 with ⟨hv0, h0⟩ | ⟨g, cp, cur, hv1, _⟩
      · rw [hv0] at hv; cases hv; exact h0.symm
      · rw [hv1] at hv; cases hv; rfl
    subst hm
    have e0 : l.take q ++ List.replicate (l.length - q) z = l := by rw [hz0, List.replicate_zero, List.append_nil, List.take_of_length_le (by omega)]
    rw [e0] at h
    have hrun : (Builtin.clear_ #[t] ty #[.slice (if cap = q then a else a.map (·.add q)) (l.length - q) (cap - q)]).run P w = .ok (.tuple #[]) w := by
      rw [hz0]
      generalize (if cap = q then a else a.map (·.add q)) = A'
      cases A' <;> simp [Builtin.clear_, run_underlying ht]
    refine S_value0 (v := .tuple #[]) (w' := w) rfl rfl (fun ρ hρ => by simp [execOp, resolve, invoke, builtin, hρ x _ hx, hrun]) ?_
    have t1 := hL.turnAt hi (Nat.le_refl _) (World.grownBy.refl _ _) (hL.at hi) (fun b e => .inl e)
    have t2 := fz_turnAt (r' := .row v e 1 l.length xs) hL hi (World.grownBy.refl _ _) (fun b e => .inl e)
    exact h w xs t1 t2 (he.mono (gz_mono hH t2))
  · rcases hown.2 with ⟨hv0, h0⟩ | ⟨g, cp, cur, hv1, hbg, hg, hnc, hcm, hcs, htake⟩
    · omega
    · rw [hv1] at hv
      cases hv
      have hcur : cur.size = cap := by rw [hcs, Nat.mul_one]
      have hqc : ¬ cap = q := by omega
      rw [if_neg hqc] at hx
      have hcell : ∀ j, j < l.length - q → (w.cell? ⟨g, q + j, none⟩).isSome = true := fun j hj => by
        have : q + j < cur.size := by omega
        simp [World.cell?, hg, this]
      have hfr : ∀ j, j < l.length - q → w.frozen? ⟨g, q + j, none⟩ = false := fun j hj => by simp [World.frozen?, hg]
      have hzero : ∀ w, (zeroValue e).run P w = .ok zz w := fun w => by simp [zeroValue, typeInfo, i1, i2]
      have hst := run_storeCells_at P g q e (List.replicate (l.length - q) zz) 0 cur w hg (by simp; omega) (by intro u hu; rw [List.eq_of_mem_replicate hu]; exact h1)
      simp only [Nat.add_zero, List.length_replicate] at hst
      obtain ⟨C, hC⟩ : ∃ C, C = (cur.toList.take q ++ List.replicate (l.length - q) zz ++ cur.toList.drop (q + (l.length - q))).toArray := ⟨_, rfl⟩
      rw [← hC] at hst
      have hrun : (Builtin.clear_ #[t] ty #[.slice (some ⟨g, q, none⟩) (l.length - q) (cap - q)]).run P w = .ok (.tuple #[]) (w.setRow g C) := by
        have h2 := Lib.run_clear_slice (P := P) w t e ty zz ht hzero hzc h1 g q (l.length - q) (cap - q) (by omega) hcell hfr
        have h3 := run_storeCells_cells (P := P) g q (List.replicate (l.length - q) zz) 0 w (by simpa using hcell) (by simpa using hfr) (by intro u hu; rw [List.eq_of_mem_replicate hu]; exact h1)
        simp only [Nat.add_zero] at h3
        rw [hst] at h3
        rw [h2]
        injection h3 with _ h4
        rw [h4]
      have hgr := grownBy_setRow w g C
      have hh := setRow_heap_same w g cur C e hg
      have hok : Res.ok (w.setRow g C) (.row v e 1 l.length (xs.take q ++ List.replicate (l.length - q) zz)) := by
        subst hv1
        refine ⟨by simp; omega, .inr ⟨g, cap, C, rfl, hbg, hh, hnc, hcm, by rw [hC]; simp; omega, ?_⟩⟩
        rw [hC, List.toList_toArray, ← htake, Nat.mul_one, List.take_take, Nat.min_eq_left hq, List.take_append]
        have hl1 : (cur.toList.take q ++ List.replicate (l.length - q) zz).length = l.length := by simp; omega
        rw [List.take_of_length_le (by omega), hl1, Nat.sub_self, List.take_zero, List.append_nil]
      have hgr' : w.grownBy (w.setRow g C) (Res.row v e 1 l.length xs).block := by subst hv1; exact hgr
      have hdr : w.drawn ≤ (w.setRow g C).drawn := Nat.le_refl _
      have t1 := hL.turnAt hi hdr hgr' hok (fun b e => .inl e)
      have t2 := fz_turnAt (r' := .row v e 1 l.length (xs.take q ++ List.replicate (l.length - q) zz)) hL hi hgr' (fun b e => .inl e)
      have hx' : ev L x = some (.slice (some ⟨g, q, none⟩) (l.length - q) (cap - q)) := by rw [hx]; simp [Addr.add]; exact fun e => e.symm
      refine S_value0 (v := .tuple #[]) (w' := w.setRow g C) rfl rfl (fun ρ hρ => by simp [execOp, resolve, invoke, builtin, hρ x _ hx', hrun]) ?_
      exact h _ _ t1 t2 ((hel _ he).mono (gz_mono hH t2))
end
end Go.E
end
section
namespace Go.E
open Go Go.RowKit
instance drOff : Dr := ⟨false⟩
theorem Ext.off {w w' : World} (h : Below w.heap.size w w') : Ext w w' := ⟨h, fun o => absurd o (by decide)⟩
end Go.E
end
section
namespace Go.Proofs.YtmfiaecglndldaaGreatDoor
open Go Go.E Go.RowKit
theorem mixed : Tryz.prog.follows .mixedOrders = true := by kernel_rfl
theorem zr3 : Zr Tryz.prog 3 (.int .i64 0) 1 8 := by unfold Zr; kernel_rfl
theorem zr5 : Zr Tryz.prog 5 (.int .u8 0) 1 1 := by unfold Zr; kernel_rfl
theorem zr9 : Zr Tryz.prog 9 (.string .empty) 1 16 := by unfold Zr; kernel_rfl
theorem zr23 : Zr Tryz.prog 23 (.agg #[.int .i64 0, .int .i64 0]) 2 16 := by unfold Zr; kernel_rfl
theorem zr30 : Zr Tryz.prog 30 (.slice none 0 0) 1 24 := by unfold Zr; kernel_rfl
theorem zr35 : Zr Tryz.prog 35 (.slice none 0 0) 1 24 := by unfold Zr; kernel_rfl
theorem zr36 : Zr Tryz.prog 36 (.slice none 0 0) 1 24 := by unfold Zr; kernel_rfl
theorem zr38 : Zr Tryz.prog 38 (.agg #[.int .i64 0, .int .i64 0, .slice none 0 0, .slice none 0 0, .slice none 0 0]) 5 88 := by unfold Zr; kernel_rfl
theorem zr45 : Zr Tryz.prog 45 (.slice none 0 0) 1 24 := by unfold Zr; kernel_rfl
theorem zr47 : Zr Tryz.prog 47 (.agg #[.int .i64 0, .slice none 0 0]) 2 32 := by unfold Zr; kernel_rfl
theorem zr52 : Zr Tryz.prog 52 (.slice none 0 0) 1 24 := by unfold Zr; kernel_rfl
theorem zr84 : Zr Tryz.prog 84 (.agg #[.string .empty, .int .i64 0, .int .i64 0, .string .empty]) 4 48 := by unfold Zr; kernel_rfl
theorem zr92 : Zr Tryz.prog 92 (.map none) 1 8 := by unfold Zr; kernel_rfl
theorem zr96 : Zr Tryz.prog 96 (.agg #[.string .empty, .int .i64 0, .int .i64 0, .string .empty, .slice none 0 0]) 5 72 := by unfold Zr; kernel_rfl
theorem bld23_z (w : World) : (Instr.build 23 #[]).run Tryz.prog w = .ok (.agg #[.int .i64 0, .int .i64 0]) w := by kernel_rfl
theorem bld23_0_1 (x0 : Int) (x1 : Int) (w : World) : (Instr.build 23 #[(0, .int .i64 x0), (1, .int .i64 x1)]).run Tryz.prog w = .ok (.agg #[.int .i64 x0, .int .i64 x1]) w := by kernel_rfl
theorem bld38_0_1 (x0 : Int) (x1 : Int) (w : World) : (Instr.build 38 #[(0, .int .i64 x0), (1, .int .i64 x1)]).run Tryz.prog w = .ok (.agg #[.int .i64 x0, .int .i64 x1, .slice none 0 0, .slice none 0 0, .slice none 0 0]) w := by kernel_rfl
theorem bld38_0_3_4 (x0 : Int) (x3 : Value) (h3 : x3.oneCell' = true) (x4 : Value) (h4 : x4.oneCell' = true) (w : World) : (Instr.build 38 #[(0, .int .i64 x0), (3, x3), (4, x4)]).run Tryz.prog w = .ok (.agg #[.int .i64 x0, .int .i64 0, .slice none 0 0, x3, x4]) w := by cases x3 <;> first | (simp [Value.oneCell'] at h3; done) | cases x4 <;> first | (simp [Value.oneCell'] at h4; done) | kernel_rfl
theorem bld47_z (w : World) : (Instr.build 47 #[]).run Tryz.prog w = .ok (.agg #[.int .i64 0, .slice none 0 0]) w := by kernel_rfl
theorem bld47_0 (x0 : Int) (w : World) : (Instr.build 47 #[(0, .int .i64 x0)]).run Tryz.prog w = .ok (.agg #[.int .i64 x0, .slice none 0 0]) w := by kernel_rfl
theorem bld47_0_1 (x0 : Int) (x1 : Value) (h1 : x1.oneCell' = true) (w : World) : (Instr.build 47 #[(0, .int .i64 x0), (1, x1)]).run Tryz.prog w = .ok (.agg #[.int .i64 x0, x1]) w := by cases x1 <;> first | (simp [Value.oneCell'] at h1; done) | kernel_rfl
theorem bld84_0_1_2_3 (x0 : Value) (h0 : x0.oneCell' = true) (x1 : Int) (x2 : Int) (x3 : Value) (h3 : x3.oneCell' = true) (w : World) : (Instr.build 84 #[(0, x0), (1, .int .i64 x1), (2, .int .i64 x2), (3, x3)]).run Tryz.prog w = .ok (.agg #[x0, .int .i64 x1, .int .i64 x2, x3]) w := by cases x0 <;> first | (simp [Value.oneCell'] at h0; done) | cases x3 <;> first | (simp [Value.oneCell'] at h3; done) | kernel_rfl
theorem bld96_z (w : World) : (Instr.build 96 #[]).run Tryz.prog w = .ok (.agg #[.string .empty, .int .i64 0, .int .i64 0, .string .empty, .slice none 0 0]) w := by kernel_rfl
theorem bld96_0_1 (x0_0 x0_1 x0_2 x0_3 : Value) (x1 : Value) (h1 : x1.oneCell' = true) (w : World) : (Instr.build 96 #[(0, .agg #[x0_0, x0_1, x0_2, x0_3]), (1, x1)]).run Tryz.prog w = .ok (.agg #[x0_0, x0_1, x0_2, x0_3, x1]) w := by cases x1 <;> first | (simp [Value.oneCell'] at h1; done) | kernel_rfl
theorem bsl30_0 (w : World) : (Instr.buildSlice 30 0 #[]).run Tryz.prog w = .ok (.slice (some ⟨w.heap.size, 0, none⟩) 0 0) (w.alloc (.cells #[] 9)) := by kernel_rfl
theorem bsl30_1 (x0 : Value) (h0 : x0.oneCell' = true) (w : World) : (Instr.buildSlice 30 1 #[(0, x0)]).run Tryz.prog w = .ok (.slice (some ⟨w.heap.size, 0, none⟩) 1 1) (w.alloc (.cells #[x0] 9)) := by cases x0 <;> first | (simp [Value.oneCell'] at h0; done) | kernel_rfl
theorem bsl30_2 (x0 : Value) (h0 : x0.oneCell' = true) (x1 : Value) (h1 : x1.oneCell' = true) (w : World) : (Instr.buildSlice 30 2 #[(0, x0), (1, x1)]).run Tryz.prog w = .ok (.slice (some ⟨w.heap.size, 0, none⟩) 2 2) (w.alloc (.cells #[x0, x1] 9)) :=
  (bs_congr (qs := #[(0, .agg #[x0]), (1, .agg #[x1])]) (by show ([(0, x0.cells), (1, x1.cells)] : List (Nat × Array Value)) = [(0, (Value.agg #[x0]).cells), (1, (Value.agg #[x1]).cells)]; rw [one_cells h0, one_cells h1])).trans (by kernel_rfl)
theorem bsl35_1 (x0 : Int) (w : World) : (Instr.buildSlice 35 1 #[(0, .int .u8 x0)]).run Tryz.prog w = .ok (.slice (some ⟨w.heap.size, 0, none⟩) 1 1) (w.alloc (.cells #[.int .u8 x0] 5)) := by kernel_rfl
theorem bsl35_2 (x0 : Int) (x1 : Int) (w : World) : (Instr.buildSlice 35 2 #[(0, .int .u8 x0), (1, .int .u8 x1)]).run Tryz.prog w = .ok (.slice (some ⟨w.heap.size, 0, none⟩) 2 2) (w.alloc (.cells #[.int .u8 x0, .int .u8 x1] 5)) := by kernel_rfl
theorem bsl36_1 (x0_0 x0_1 x0_2 x0_3 x0_4 : Value) (w : World) : (Instr.buildSlice 36 1 #[(0, .agg #[x0_0, x0_1, x0_2, x0_3, x0_4])]).run Tryz.prog w = .ok (.slice (some ⟨w.heap.size, 0, none⟩) 1 1) (w.alloc (.cells #[x0_0, x0_1, x0_2, x0_3, x0_4] 38)) := by kernel_rfl
theorem bsl36_2 (x0_0 x0_1 x0_2 x0_3 x0_4 : Value) (x1_0 x1_1 x1_2 x1_3 x1_4 : Value) (w : World) : (Instr.buildSlice 36 2 #[(0, .agg #[x0_0, x0_1, x0_2, x0_3, x0_4]), (1, .agg #[x1_0, x1_1, x1_2, x1_3, x1_4])]).run Tryz.prog w = .ok (.slice (some ⟨w.heap.size, 0, none⟩) 2 2) (w.alloc (.cells #[x0_0, x0_1, x0_2, x0_3, x0_4, x1_0, x1_1, x1_2, x1_3, x1_4] 38)) := by kernel_rfl
theorem bsl45_1 (x0_0 x0_1 x0_2 x0_3 x0_4 : Value) (w : World) : (Instr.buildSlice 45 1 #[(0, .agg #[x0_0, x0_1, x0_2, x0_3, x0_4])]).run Tryz.prog w = .ok (.slice (some ⟨w.heap.size, 0, none⟩) 1 1) (w.alloc (.cells #[x0_0, x0_1, x0_2, x0_3, x0_4] 96)) := by kernel_rfl
theorem bsl52_0 (w : World) : (Instr.buildSlice 52 0 #[]).run Tryz.prog w = .ok (.slice (some ⟨w.heap.size, 0, none⟩) 0 0) (w.alloc (.cells #[] 3)) := by kernel_rfl
theorem bsl52_1 (x0 : Int) (w : World) : (Instr.buildSlice 52 1 #[(0, .int .i64 x0)]).run Tryz.prog w = .ok (.slice (some ⟨w.heap.size, 0, none⟩) 1 1) (w.alloc (.cells #[.int .i64 x0] 3)) := by kernel_rfl
theorem bsl52_2 (x0 : Int) (x1 : Int) (w : World) : (Instr.buildSlice 52 2 #[(0, .int .i64 x0), (1, .int .i64 x1)]).run Tryz.prog w = .ok (.slice (some ⟨w.heap.size, 0, none⟩) 2 2) (w.alloc (.cells #[.int .i64 x0, .int .i64 x1] 3)) := by kernel_rfl
theorem bsl52_4 (x0 : Int) (x1 : Int) (x2 : Int) (x3 : Int) (w : World) : (Instr.buildSlice 52 4 #[(0, .int .i64 x0), (1, .int .i64 x1), (2, .int .i64 x2), (3, .int .i64 x3)]).run Tryz.prog w = .ok (.slice (some ⟨w.heap.size, 0, none⟩) 4 4) (w.alloc (.cells #[.int .i64 x0, .int .i64 x1, .int .i64 x2, .int .i64 x3] 3)) := by kernel_rfl
theorem bsl131_1 (x0_0 x0_1 x0_2 x0_3 : Value) (w : World) : (Instr.buildSlice 131 1 #[(0, .agg #[x0_0, x0_1, x0_2, x0_3])]).run Tryz.prog w = .ok (.slice (some ⟨w.heap.size, 0, none⟩) 1 1) (w.alloc (.cells #[x0_0, x0_1, x0_2, x0_3] 84)) := by kernel_rfl
theorem bsl178_5 (x0 : Value) (h0 : x0.oneCell' = true) (x1 : Value) (h1 : x1.oneCell' = true) (x2 : Value) (h2 : x2.oneCell' = true) (x3 : Value) (h3 : x3.oneCell' = true) (x4 : Value) (h4 : x4.oneCell' = true) (w : World) : (Instr.buildSlice 178 5 #[(0, x0), (1, x1), (2, x2), (3, x3), (4, x4)]).run Tryz.prog w = .ok (.slice (some ⟨w.heap.size, 0, none⟩) 5 5) (w.alloc (.cells #[x0, x1, x2, x3, x4] 35)) :=
  (bs_congr (qs := #[(0, .agg #[x0]), (1, .agg #[x1]), (2, .agg #[x2]), (3, .agg #[x3]), (4, .agg #[x4])]) (by show ([(0, x0.cells), (1, x1.cells), (2, x2.cells), (3, x3.cells), (4, x4.cells)] : List (Nat × Array Value)) = [(0, (Value.agg #[x0]).cells), (1, (Value.agg #[x1]).cells), (2, (Value.agg #[x2]).cells), (3, (Value.agg #[x3]).cells), (4, (Value.agg #[x4]).cells)]; rw [one_cells h0, one_cells h1, one_cells h2, one_cells h3, one_cells h4])).trans (by kernel_rfl)
theorem eqg23 : Tryz.prog.eqGuardType Tryz.prog.depth 23 = false := by kernel_rfl
theorem eq23 (a b c e : Int) (w : World) : (Op.equalIn 10000 23 (.agg #[.int .i64 a, .int .i64 b]) (.agg #[.int .i64 c, .int .i64 e])).run Tryz.prog w = .ok (decide (a = c ∧ b = e)) w :=
  eq_two (by kernel_rfl) (by kernel_rfl) (by kernel_rfl : (Tryz.prog.fieldsOf 23).toList = [{ name := "Code", type := 3, offset := 0, embedded := false, tag := "", pkgPath := "", byteOffset := 0 }, { name := "Index", type := 3, offset := 1, embedded := false, tag := "", pkgPath := "", byteOffset := 8 }]) ⟨by decide, rfl⟩ ⟨by decide, rfl⟩ Tryz.underlying3 Tryz.underlying3 a b c e w
theorem eq84 (s m : List UInt8) (x y : Int) (s2 m2 : List UInt8) (x2 y2 : Int) (w : World) : (Op.equalIn 10000 84 (.agg #[.string ⟨s.toArray⟩, .int .i64 x, .int .i64 y, .string ⟨m.toArray⟩]) (.agg #[.string ⟨s2.toArray⟩, .int .i64 x2, .int .i64 y2, .string ⟨m2.toArray⟩])).run Tryz.prog w = .ok (decide (s = s2 ∧ x = x2 ∧ y = y2 ∧ m = m2)) w :=
  eq_lf (by kernel_rfl) (by kernel_rfl) (by kernel_rfl : (Tryz.prog.fieldsOf 84).toList = [{ name := "path", type := 9, offset := 0, embedded := false, tag := "", pkgPath := "scriptorium/shapes", byteOffset := 0 }, { name := "kind", type := 3, offset := 1, embedded := false, tag := "", pkgPath := "scriptorium/shapes", byteOffset := 16 }, { name := "number", type := 3, offset := 2, embedded := false, tag := "", pkgPath := "scriptorium/shapes", byteOffset := 24 }, { name := "text", type := 9, offset := 3, embedded := false, tag := "", pkgPath := "scriptorium/shapes", byteOffset := 32 }]) ⟨by decide, rfl⟩ ⟨by decide, rfl⟩ ⟨by decide, rfl⟩ ⟨by decide, rfl⟩ Tryz.underlying9 Tryz.underlying3 Tryz.underlying3 Tryz.underlying9 s m x y s2 m2 x2 y2 w
theorem key84 : KeyOk Tryz.prog 84 encLf := keyOk_lf Tryz.underlying84 (fun _ _ _ _ _ _ => by kernel_rfl) (fun s s2 m m2 x x2 y y2 w => eq84 s m x y s2 m2 x2 y2 w)
end Go.Proofs.YtmfiaecglndldaaGreatDoor
end
section
namespace Go.Proofs.YtmfiaecglndldaaGreatDoor
open Go Go.E Go.RowKit Go.Shelf
/-- The parts of a string between slashes. -/
def pieces (s : List UInt8) : List (List UInt8) := Lib.split s [47]
noncomputable def genSplitL (s sep : List UInt8) (sv n : Int) : Option (List (List UInt8)) := Go.L.chk (s.length < 4294967281 ∧ sep = [47] ∧ sv = 0 ∧ n = -1) (some (pieces s))
theorem elems_st (G : PH) : ∀ l : List (List UInt8), Elems Rp.st G l (l.map Go.Proofs.encStr)
  | [] => .nil
  | _ :: l => .cons (c := [_]) rfl (elems_st G l)
theorem genSplit_ok (w : World) (H : PH) (_hH : Le H (hp w)) {a0 a1 : List UInt8} {a2 a3 : Int} {r : List (List UInt8)} (h : genSplitL a0 a1 a2 a3 = some r) :
    Ok Tryz.prog 113 [.string ⟨a0.toArray⟩, .string ⟨a1.toArray⟩, .int .i64 a2, .int .i64 a3] w (fun v w' => Ext w w' ∧ ∃ u0, v = u0 ∧ OwnH 9 .st H w w' u0 r) := by
  obtain ⟨hk, h⟩ := Go.L.chk_some h
  obtain rfl := Option.some.inj h
  obtain ⟨h1, rfl, rfl, rfl⟩ := hk
  have hsz : (ByteArray.mk a0.toArray).size = a0.length := by simp [ByteArray.size]
  obtain ⟨N, hN⟩ : ∃ N, N = Lib.countB ⟨a0.toArray⟩ ⟨#[47]⟩ + 1 := ⟨_, rfl⟩
  have hle : Lib.countB ⟨a0.toArray⟩ ⟨#[47]⟩ ≤ (ByteArray.mk a0.toArray).size := Lib.countB_le ⟨#[47]⟩ (Nat.le_refl 1) _ _ (Nat.le_refl _)
  have c := Any.strings_genSplit_core (P := Tryz.prog) (ρ := Tryz.laySplit_ren) { Tryz.laySplit with } (by kernel_rfl) ⟨a0.toArray⟩ ⟨#[47]⟩ 0 (-1) N w (by rw [hsz]; exact h1) (Nat.le_refl 1) (Nat.zero_le _)
    (fun x cc hx => (Any.strings_Index_one (P := Tryz.prog) (ρ := Tryz.laySplit_ren) { Tryz.laySplit with } x 47 _).mono fun e w' ⟨he, hw⟩ => ⟨by rw [he]; exact congrArg (fun z => Ending.returned (Value.int .i64 z)) (Lib.index_one x.data.toList 47).symm, hw⟩)
    ((Any.strings_Count_one (P := Tryz.prog) (ρ := Tryz.laySplit_ren) { Tryz.laySplit with } ⟨a0.toArray⟩ 47 w).mono fun e w' ⟨he, hw⟩ => ⟨by rw [he]; exact congrArg (fun z : Nat => Ending.returned (Value.int .i64 (z : Int))) (Lib.count_one 47 _).symm, hw⟩)
    (by decide) (by decide) (by rw [if_pos (by decide), hN]; omega)
  refine ⟨⟨Tryz.f113, _, Tryz.func113, rfl, rfl⟩, c.mono fun e w' he => ?_⟩
  obtain ⟨rfl, rfl⟩ := he
  have hl : (Lib.splitB ⟨#[47]⟩ 0 (N - 1) ⟨a0.toArray⟩).length = N := by
    have := Lib.splitB_all ⟨#[47]⟩ (Nat.le_refl 1) 0 (N - 1) ⟨a0.toArray⟩ (by omega)
    omega
  have hd := Lib.splitB_data ⟨#[47]⟩ 0 (N - 1) ⟨a0.toArray⟩
  have hpc : (Lib.splitB ⟨#[47]⟩ 0 (N - 1) ⟨a0.toArray⟩).map (fun b => b.data.toList) = pieces a0 := by
    rw [hd]
    unfold pieces Lib.split
    rw [hN]
    rfl
  have hpl : (pieces a0).length = N := by rw [← hpc, List.length_map, hl]
  have hmp : (Lib.splitB ⟨#[47]⟩ 0 (N - 1) ⟨a0.toArray⟩).map Value.string = (pieces a0).map Go.Proofs.encStr := by
    rw [← hpc, List.map_map]
    apply List.map_congr_left
    intro b _
    show Value.string b = Value.string ⟨b.data.toList.toArray⟩
    rw [Array.toArray_toList]
  refine ⟨_, rfl, ext_alloc w _, _, rfl, (pieces a0).map Go.Proofs.encStr, ?_, elems_st _ _⟩
  refine ⟨by rw [List.length_map]; exact (Nat.mul_one _).symm, .inr ⟨w.heap.size, N, _, ?_, Nat.le_refl _, World.alloc_heap_new w _, ?_, ?_, ?_, ?_⟩⟩
  · rw [hl, hpl]
  · omega
  · unfold maxLen; omega
  · rw [Lib.cellsOf_size (by omega)]; exact (Nat.mul_one _).symm
  · have e1 : Lib.cellsOf (Lib.splitB ⟨#[47]⟩ 0 (N - 1) ⟨a0.toArray⟩) N = ((Lib.splitB ⟨#[47]⟩ 0 (N - 1) ⟨a0.toArray⟩).map Value.string).toArray := by
      have := Lib.cellsOf_full (Lib.splitB ⟨#[47]⟩ 0 (N - 1) ⟨a0.toArray⟩)
      rwa [hl] at this
    rw [e1, hmp]
    exact List.take_of_length_le (by rw [List.length_map]; exact Nat.le_of_eq (Nat.mul_one _).symm)
noncomputable def idxbL (a : List UInt8) (c : UInt8) : Option Int := some (Lib.indexByte a c)
theorem idxb_ok (w : World) (H : PH) (_hH : Le H (hp w)) {a0 : List UInt8} {a1 : UInt8} {r : Int} (h : idxbL a0 a1 = some r) :
    Ok Tryz.prog 140 [.string ⟨a0.toArray⟩, .int .u8 (a1.toNat : Int)] w (fun v w' => Ext w w' ∧ v = .int .i64 r) := by
  obtain rfl := Option.some.inj h
  refine ⟨⟨Tryz.f140, _, Tryz.func140, rfl, rfl⟩, (Any.strings_IndexByte Tryz.layIB ⟨a0.toArray⟩ (a1.toNat : Int) w).mono fun e w' he => ?_⟩
  obtain ⟨rfl, rfl⟩ := he
  refine ⟨_, rfl, Ext.refl _, ?_⟩
  have e : ((a1.toNat : Int).toNat).toUInt8 = a1 := by simp
  rw [e]
/-- Strings joined by a byte. -/
noncomputable def joinL (a : List (List UInt8)) (sep : List UInt8) : Option (List UInt8) := Go.L.chk (a.length ≤ 140737488355328 ∧ (Lib.join a sep).length ≤ 140737488355328) (some (Lib.join a sep))
theorem join_ok (w : World) (H : PH) (hH : Le H (hp w)) {a0 : List (List UInt8)} {a1 : List UInt8} {v : Value} (hv : Vec .st H v a0) {r : List UInt8} (h : joinL a0 a1 = some r) :
    Ok Tryz.prog 89 [v, .string ⟨a1.toArray⟩] w (fun v w' => Ext w w' ∧ v = .string ⟨r.toArray⟩) := by
  obtain ⟨⟨h1, h2⟩, h⟩ := Go.L.chk_some h
  obtain rfl := Option.some.inj h
  have X : Builder.Extra Tryz.prog Tryz.layJoin_ren := {
    liesBuilder := by kernel_rfl
    sizeBuilder := by kernel_rfl
    t5 := by kernel_rfl
    a5 := fun w => by kernel_rfl
    z5 := fun w => by kernel_rfl
    v5 := fun w => by kernel_rfl
    infoByte := by kernel_rfl
    cellsByte := by kernel_rfl
    sizeByte := by kernel_rfl
    neB5 := by decide }
  obtain ⟨a, cap, rfl, k2, k3, k4, k5⟩ := hv.ex
  have key : ∀ (P : Prop), ((a0 = [] → P) ∧ (∀ A, a = some A → a0 ≠ [] → P)) → P := fun P hP => by
    by_cases ha : a0 = []
    · exact hP.1 ha
    · cases a with
      | none => exact absurd (List.eq_nil_of_length_eq_zero (by have := k4 rfl; omega)) ha
      | some A => exact hP.2 A rfl ha
  refine key _ ⟨fun he => ?_, fun A hA hne => ?_⟩
  · subst he
    refine ⟨⟨Tryz.f89, _, Tryz.func89, rfl, rfl⟩, (Any.strings_Join_none Tryz.layJoin X a cap ⟨a1.toArray⟩ w).mono fun e w' hh => ?_⟩
    obtain ⟨rfl, rfl⟩ := hh
    exact ⟨_, rfl, Ext.refl _, rfl⟩
  · subst hA
    obtain ⟨k6, k7⟩ := k5 A rfl hne
    obtain ⟨b, o, sp⟩ := A
    simp only at k6
    subst k6
    have hcell : ∀ (j : Nat) x, (a0.map fun l => (⟨l.toArray⟩ : ByteArray))[j]? = some x → w.cell? ⟨b, o + j, none⟩ = some (.string x) := fun j x hx => by
      rw [List.getElem?_map] at hx
      cases hj : a0[j]? with
      | none => rw [hj] at hx; cases hx
      | some l =>
        rw [hj] at hx
        obtain rfl := Option.some.inj hx
        obtain ⟨c, hc, hcell⟩ := k7 j l hj
        obtain rfl : c = [.string ⟨l.toArray⟩] := hc
        have := cell_of hH (hcell 0 _ rfl)
        rwa [show (Rp.st).sz = 1 from rfl, Nat.mul_one, Nat.add_zero, Addr.add_lit] at this
    have hpos : 0 < a0.length := List.length_pos_iff.2 hne
    have hb : b < w.heap.size := by
      have h0 := hcell 0 ⟨(a0[0]'hpos).toArray⟩ (by simp [hpos])
      exact World.block_lt_of_cell? _ _ h0
    have e2 : (a0.map fun l => (⟨l.toArray⟩ : ByteArray)).map (·.data.toList) = a0 := by rw [List.map_map]; exact (List.map_congr_left (fun l _ => by simp)).trans (List.map_id _)
    have c := Any.strings_Join Tryz.layJoin X b o cap (a0.map fun l => (⟨l.toArray⟩ : ByteArray)) ⟨a1.toArray⟩ w hcell hb (by rw [List.length_map]; exact h1) (by rw [List.length_map]; omega) (by rw [e2]; simpa using h2)
    rw [e2, List.length_map] at c
    refine ⟨⟨Tryz.f89, _, Tryz.func89, rfl, rfl⟩, c.mono fun e w' hh => ?_⟩
    obtain ⟨rfl, hb'⟩ := hh
    exact ⟨_, rfl, Ext.off hb', by simp⟩
end Go.Proofs.YtmfiaecglndldaaGreatDoor
end
section
namespace Go.Proofs.YtmfiaecglndldaaGreatDoor
open Go Go.E Go.RowKit
set_option maxHeartbeats 1000000
set_option maxRecDepth 10000
open _root_.Go.Proofs.Tryz
noncomputable def shapes_fault (a0 : Int) (a1 : Int) : Option ((Int × Int)) :=
 some ((a0, a1))
theorem shapes_fault_ok (w : World) (H : PH) (_hH : Le H (hp w)) {a0 : Int} {a1 : Int}   {r : (Int × Int)} (h : shapes_fault a0 a1 = some r) :
  Ok Tryz.prog 42 [.int .i64 a0, .int .i64 a1] w (fun v w' => Ext w w' ∧ v = .agg #[.int .i64 r.1, .int .i64 r.2]) := by
 refine Ok_enter (n := 8) [(0, .int .i64 a0), (1, .int .i64 a1)] func42 rfl rfl rfl rfl rfl ?_
 have hL := Lcl.start w
 refine W_seqr ?_
 refine S_alloc zr23 rfl rfl hL ?_
 intro w1 b1 hL1 hle1 _
 refine S_seqnil ?_
 refine W_p 2 rfl ?_
 refine S_v (r_build rfl (fun _ => bld23_0_1 _ _ _)) rfl ?_
 refine S_storeBN 0 rfl rfl rfl zr23 hL1 rfl rfl (onc rfl (onc rfl on0)) ?_
 intro w2 hL2 hle2
 refine S_seqnil ?_
 refine W_ret ?_
 obtain rfl := Option.some.inj h
 refine At_got1 rfl (.cell rfl underlying23 rfl zr23 (box_ptr (i := 0) hL2 rfl)) ?_
 exact ⟨hL2.ext, rfl⟩
noncomputable def value_fault (a0 : Int) (a1 : Int) : Option ((Int × Int)) :=
 some ((a0, a1))
theorem value_fault_ok (w : World) (H : PH) (_hH : Le H (hp w)) {a0 : Int} {a1 : Int}   {r : (Int × Int)} (h : value_fault a0 a1 = some r) :
  Ok Tryz.prog 95 [.int .i64 a0, .int .i64 a1] w (fun v w' => Ext w w' ∧ v = .agg #[.int .i64 r.1, .int .i64 r.2]) := by
 refine Ok_enter (n := 8) [(0, .int .i64 a0), (1, .int .i64 a1)] func95 rfl rfl rfl rfl rfl ?_
 have hL := Lcl.start w
 refine W_seqr ?_
 refine S_alloc zr23 rfl rfl hL ?_
 intro w1 b1 hL1 hle1 _
 refine S_seqnil ?_
 refine W_p 2 rfl ?_
 refine S_v (r_build rfl (fun _ => bld23_0_1 _ _ _)) rfl ?_
 refine S_storeBN 0 rfl rfl rfl zr23 hL1 rfl rfl (onc rfl (onc rfl on0)) ?_
 intro w2 hL2 hle2
 refine S_seqnil ?_
 refine W_ret ?_
 obtain rfl := Option.some.inj h
 refine At_got1 rfl (.cell rfl underlying23 rfl zr23 (box_ptr (i := 0) hL2 rfl)) ?_
 exact ⟨hL2.ext, rfl⟩
noncomputable def wire_fault (a0 : Int) (a1 : Int) : Option ((Int × Int)) :=
 some ((a0, a1))
theorem wire_fault_ok (w : World) (H : PH) (_hH : Le H (hp w)) {a0 : Int} {a1 : Int}   {r : (Int × Int)} (h : wire_fault a0 a1 = some r) :
  Ok Tryz.prog 102 [.int .i64 a0, .int .i64 a1] w (fun v w' => Ext w w' ∧ v = .agg #[.int .i64 r.1, .int .i64 r.2]) := by
 refine Ok_enter (n := 8) [(0, .int .i64 a0), (1, .int .i64 a1)] func102 rfl rfl rfl rfl rfl ?_
 have hL := Lcl.start w
 refine W_seqr ?_
 refine S_alloc zr23 rfl rfl hL ?_
 intro w1 b1 hL1 hle1 _
 refine S_seqnil ?_
 refine W_p 2 rfl ?_
 refine S_v (r_build rfl (fun _ => bld23_0_1 _ _ _)) rfl ?_
 refine S_storeBN 0 rfl rfl rfl zr23 hL1 rfl rfl (onc rfl (onc rfl on0)) ?_
 intro w2 hL2 hle2
 refine S_seqnil ?_
 refine W_ret ?_
 obtain rfl := Option.some.inj h
 refine At_got1 rfl (.cell rfl underlying23 rfl zr23 (box_ptr (i := 0) hL2 rfl)) ?_
 exact ⟨hL2.ext, rfl⟩
noncomputable def strings_Split (a0 : List UInt8) (a1 : List UInt8) : Option ((List (List UInt8))) :=
 Option.bind (genSplitL a0 a1 (0 : Int) (-1 : Int)) (fun x1 => some (x1))
theorem strings_Split_ok (w : World) (H : PH) (hH : Le H (hp w)) {a0 : List UInt8} {a1 : List UInt8}   {r : (List (List UInt8))} (h : strings_Split a0 a1 = some r) :
  Ok Tryz.prog 85 [.string ⟨(a0).toArray⟩, .string ⟨(a1).toArray⟩] w (fun v w' => Ext w w' ∧ ∃ u0, v = u0 ∧ OwnH 9 .st H w w' u0 (r)) := by
 refine Ok_enter (n := 8) [(0, .string ⟨(a0).toArray⟩), (1, .string ⟨(a1).toArray⟩)] func85 rfl rfl rfl rfl rfl ?_
 have hL := Lcl.start w
 refine W_pz 1 rfl ?_
 refine W_p 2 rfl ?_
 obtain ⟨x1, hb1, h⟩ := Go.L.bind_some h
 refine S_callL rfl rfl hL (genSplit_ok _ _ (gz_le hH hL) hb1) ?_
 rintro u2_0 w2 ⟨_, rfl, hR2_0⟩ hx2 hL2 hle2
 obtain ⟨xs2, hL2, hle2, he2⟩ := hR2_0.take hH hL hx2
 refine S_pz 1 rfl ?_
 refine W_ret ?_
 obtain rfl := Option.some.inj h
 refine At_body rfl rfl ?_
 exact ⟨hL2.ext, _, rfl, (hL2.ownH hH (i := 0) rfl he2)⟩
noncomputable def shapes_steps (a0 : List UInt8) : Option ((List (List UInt8))) :=
 if a0 = ([] : List UInt8) then some ([]) else Option.bind (strings_Split a0 ([47] : List UInt8)) (fun x4 => some (x4))
theorem shapes_steps_ok (w : World) (H : PH) (hH : Le H (hp w)) {a0 : List UInt8}   {r : (List (List UInt8))} (h : shapes_steps a0 = some r) :
  Ok Tryz.prog 47 [.string ⟨(a0).toArray⟩] w (fun v w' => Ext w w' ∧ ∃ u0, v = u0 ∧ OwnH 9 .st H w w' u0 (r)) := by
 refine Ok_enter (n := 7) [(0, .string ⟨(a0).toArray⟩)] func47 rfl rfl rfl rfl rfl ?_
 have hL := Lcl.start w
 refine W_pz 1 rfl ?_
 refine W_seq ?_
 refine W_p 1 rfl ?_
 refine S_v (r_seq rfl rfl) rfl ?_
 refine S_seqnil ?_
 refine W_if rfl (fun hc1 => ?_) (fun hc1 => ?_)
 ·replace h := Go.L.ite_p hc1 h
  refine W_pz 1 rfl ?_
  refine W_ret ?_
  refine At_seq_ret ?_
  obtain rfl := Option.some.inj h
  refine At_body rfl rfl ?_
  exact ⟨hL.ext, _, rfl, OwnH.nil⟩
 ·replace h := Go.L.ite_n hc1 h
  refine W_skip ?_
  refine At_seq ?_
  refine W_p 1 rfl ?_
  obtain ⟨x4, hb4, h⟩ := Go.L.bind_some h
  refine S_callL rfl rfl hL (strings_Split_ok _ _ (gz_le hH hL) hb4) ?_
  rintro u5_0 w5 ⟨_, rfl, hR5_0⟩ hx5 hL5 hle5
  obtain ⟨xs5, hL5, hle5, he5⟩ := hR5_0.take hH hL hx5
  refine S_pz 1 rfl ?_
  refine W_ret ?_
  obtain rfl := Option.some.inj h
  refine At_body rfl rfl ?_
  exact ⟨hL5.ext, _, rfl, (hL5.ownH hH (i := 0) rfl he5)⟩
noncomputable def unicode_utf8_ValidRune (a0 : Int) : Option (Bool) :=
 if ((0 : Int) ≤ a0) ∧ (a0 < (55296 : Int)) then some (true) else (if ((57343 : Int) < a0) ∧ (a0 ≤ (1114111 : Int)) then some (true) else some (false))
theorem unicode_utf8_ValidRune_ok (w : World) (H : PH) (_hH : Le H (hp w)) {a0 : Int}   {r : Bool} (h : unicode_utf8_ValidRune a0 = some r) :
  Ok Tryz.prog 141 [.int .i32 a0] w (fun v w' => Ext w w' ∧ v = .bool r) := by
 refine Ok_enter (n := 17) [(0, .int .i32 a0)] func141 rfl rfl rfl rfl rfl ?_
 have hL := Lcl.start w
 refine W_pz 1 rfl ?_
 refine W_seq ?_
 refine W_block ?_
 refine W_p 3 rfl ?_
 refine S_and 2 2 rfl rfl rfl rfl rfl rfl ?_
 refine S_pz 1 rfl ?_
 refine W_if rfl (fun hc1 => ?_) (fun hc1 => ?_)
 ·replace h := Go.L.ite_p hc1 h
  refine W_pz 1 rfl ?_
  refine W_ret ?_
  refine At_block_ret ?_
  refine At_seq_ret ?_
  obtain rfl := Option.some.inj h
  refine At_body rfl rfl ?_
  exact ⟨hL.ext, rfl⟩
 ·replace h := Go.L.ite_n hc1 h
  refine W_p 3 rfl ?_
  refine S_and 2 2 rfl rfl rfl rfl rfl rfl ?_
  refine S_pz 1 rfl ?_
  refine W_if rfl (fun hc4 => ?_) (fun hc4 => ?_)
  ·replace h := Go.L.ite_p hc4 h
   refine W_pz 1 rfl ?_
   refine W_ret ?_
   refine At_block_ret ?_
   refine At_seq_ret ?_
   obtain rfl := Option.some.inj h
   refine At_body rfl rfl ?_
   exact ⟨hL.ext, rfl⟩
  ·replace h := Go.L.ite_n hc4 h
   refine W_skip ?_
   refine At_block ?_
   refine At_seq ?_
   refine W_pz 1 rfl ?_
   refine W_ret ?_
   obtain rfl := Option.some.inj h
   refine At_body rfl rfl ?_
   exact ⟨hL.ext, rfl⟩
noncomputable def strings_IndexRune_k1 : Option (Int) :=
 some ((-1 : Int))
noncomputable def strings_IndexRune_bl2 (a0 : List UInt8) : Nat → Option ((Nat) ⊕ (Int)) := fun l27 =>
 if l27 < a0.length then (if ((Go.L.rdec a0 l27).1 : Int) = (65533 : Int) then Option.map Sum.inr (some ((l27 : Int))) else some (Sum.inl (l27 + (Go.L.rdec a0 l27).2))) else Option.map Sum.inr (strings_IndexRune_k1)
noncomputable def strings_IndexRune_l2 (a0 : List UInt8) (s : Nat) : Option (Int) := Go.L.run (strings_IndexRune_bl2 a0) s
noncomputable def strings_IndexRune_k6 (a1 : Int) (s9_177 : Int) : Option ((Int) ⊕ (Int)) :=
 Go.L.chk (Go.L.I64 (s9_177 - (((Go.L.runeS a1).length : Int) - (1 : Int)))) (Option.map Sum.inr (some ((s9_177 - (((Go.L.runeS a1).length : Int) - (1 : Int))))))
noncomputable def strings_IndexRune_bl7 (a0 : List UInt8) (a1 : Int) (s9_177 : Int) : Int → Option ((Int) ⊕ ((Int) ⊕ (Int))) := fun s12_241 =>
 if s12_241 < ((Go.L.runeS a1).length : Int) then Go.L.chk (Go.L.I64 (s9_177 - s12_241)) (Go.L.chk (0 ≤ (s9_177 - s12_241) ∧ (s9_177 - s12_241) < (a0.length : Int)) (Go.L.chk (Go.L.I64 ((((Go.L.runeS a1).length : Int) - (1 : Int)) - s12_241)) (Go.L.chk (0 ≤ ((((Go.L.runeS a1).length : Int) - (1 : Int)) - s12_241) ∧ ((((Go.L.runeS a1).length : Int) - (1 : Int)) - s12_241) < ((Go.L.runeS a1).length : Int)) (if ((a0.getD (s9_177 - s12_241).toNat default).toNat : Int) = (((Go.L.runeS a1).getD ((((Go.L.runeS a1).length : Int) - (1 : Int)) - s12_241).toNat default).toNat : Int) then Go.L.chk (Go.L.I64 (s12_241 + (1 : Int))) (some (Sum.inl (s12_241 + (1 : Int)))) else none)))) else Option.map Sum.inr ((strings_IndexRune_k6 a1 s9_177))
noncomputable def strings_IndexRune_l7 (a0 : List UInt8) (a1 : Int) (s9_177 : Int) (s : Int) : Option ((Int) ⊕ (Int)) := Go.L.run (strings_IndexRune_bl7 a0 a1 s9_177) s
noncomputable def strings_IndexRune_k5 (a0 : List UInt8) (a1 : Int) (s9_177 : Int) : Option ((Int) ⊕ (Int)) :=
 (strings_IndexRune_l7 a0 a1 s9_177) (1 : Int)
noncomputable def strings_IndexRune_k3 : Option (Int) :=
 some ((-1 : Int))
noncomputable def strings_IndexRune_bl4 (a0 : List UInt8) (a1 : Int) : Int → Option ((Int) ⊕ (Int)) := fun s9_147 =>
 if s9_147 < (a0.length : Int) then Go.L.chk (0 ≤ s9_147 ∧ s9_147 < (a0.length : Int)) (Go.L.chk (0 ≤ (((Go.L.runeS a1).length : Int) - (1 : Int)) ∧ (((Go.L.runeS a1).length : Int) - (1 : Int)) < ((Go.L.runeS a1).length : Int)) (if ((a0.getD s9_147.toNat default).toNat : Int) = (((Go.L.runeS a1).getD (((Go.L.runeS a1).length : Int) - (1 : Int)).toNat default).toNat : Int) then (strings_IndexRune_k5 a0 a1) s9_147 else Go.L.chk (Go.L.I64 (s9_147 + (1 : Int))) (Go.L.chk (0 ≤ (s9_147 + (1 : Int)) ∧ (s9_147 + (1 : Int)) ≤ (a0.length : Int)) (Go.L.chk (0 ≤ (((Go.L.runeS a1).length : Int) - (1 : Int)) ∧ (((Go.L.runeS a1).length : Int) - (1 : Int)) < ((Go.L.runeS a1).length : Int)) (Option.bind (idxbL (a0.drop (s9_147 + (1 : Int)).toNat) ((Go.L.runeS a1).getD (((Go.L.runeS a1).length : Int) - (1 : Int)).toNat default)) (fun x194 => if x194 < (0 : Int) then Option.map Sum.inr (some ((-1 : Int))) else Go.L.chk (Go.L.I64 (x194 + (1 : Int))) (Go.L.chk (Go.L.I64 (s9_147 + (x194 + (1 : Int)))) ((strings_IndexRune_k5 a0 a1) (s9_147 + (x194 + (1 : Int))))))))))) else Option.map Sum.inr (strings_IndexRune_k3)
noncomputable def strings_IndexRune_l4 (a0 : List UInt8) (a1 : Int) (s : Int) : Option (Int) := Go.L.run (strings_IndexRune_bl4 a0 a1) s
noncomputable def strings_IndexRune (a0 : List UInt8) (a1 : Int) : Option (Int) :=
 if ((0 : Int) ≤ a1) ∧ (a1 < (128 : Int)) then Option.bind (idxbL a0 (Go.L.u8 a1)) (fun x3 => some (x3)) else (if a1 = (65533 : Int) then (strings_IndexRune_l2 a0) (0 : Nat) else Option.bind (unicode_utf8_ValidRune a1) (fun x39 => if !x39 then some ((-1 : Int)) else Go.L.chk (Go.L.I64 (((Go.L.runeS a1).length : Int) - (1 : Int))) ((strings_IndexRune_l4 a0 a1) (((Go.L.runeS a1).length : Int) - (1 : Int)))))
theorem strings_IndexRune_ok (w : World) (H : PH) (hH : Le H (hp w)) {a0 : List UInt8} {a1 : Int}   {r : Int} (h : strings_IndexRune a0 a1 = some r) :
  Ok Tryz.prog 115 [.string ⟨(a0).toArray⟩, .int .i32 a1] w (fun v w' => Ext w w' ∧ v = .int .i64 r) := by
 refine Ok_enter (n := 187) [(0, .string ⟨(a0).toArray⟩), (1, .int .i32 a1)] func115 rfl rfl rfl rfl rfl ?_
 have hL := Lcl.start w
 refine W_pz 1 rfl ?_
 refine W_block ?_
 refine W_p 3 rfl ?_
 refine S_and 2 2 rfl rfl rfl rfl rfl rfl ?_
 refine S_pz 1 rfl ?_
 refine W_if rfl (fun hc1 => ?_) (fun hc1 => ?_)
 ·replace h := Go.L.ite_p hc1 h
  refine W_p 2 rfl ?_
  refine S_v (r_conv underlying21 underlying5 rfl (conv_64_u8 _)) rfl ?_
  obtain ⟨x3, hb3, h⟩ := Go.L.bind_some h
  refine S_callL rfl rfl hL (idxb_ok _ _ (gz_le hH hL) hb3) ?_
  rintro _ w4 rfl hx4 hL4 hle4
  refine S_pz 1 rfl ?_
  refine W_ret ?_
  refine At_block_ret ?_
  obtain rfl := Option.some.inj h
  refine At_body rfl rfl ?_
  exact ⟨hL4.ext, rfl⟩
 ·replace h := Go.L.ite_n hc1 h
  refine W_pz 3 rfl ?_
  refine W_if rfl (fun hc6 => ?_) (fun hc6 => ?_)
  ·replace h := Go.L.ite_p hc6 h
   refine W_cut (σ := Unit) (fun (_ : Unit) => []) (fun (_ : Unit) wr => Lcl w [] wr ∧ strings_IndexRune_k1 = some r) ?_ ?_
   ·refine W_p 1 rfl ?_
    refine S_rangeS rfl underlying9 rfl hL ?_
    intro w19 b19 hL19 hle19
    refine S_seqnil ?_
    refine W_block ?_
    obtain ⟨n28, h⟩ := Go.L.run_some h
    refine W_loop (σ := Nat × Nat) (fun ⟨l27, n⟩ => [(175, .pointer (some ⟨b19, 0, none⟩))]) (fun ⟨l27, n⟩ wr => Lcl w [.obj b19 (.stringIter ⟨(a0).toArray⟩ l27)] wr ∧ Go.L.itr (strings_IndexRune_bl2 a0) n l27 = some r) (fun ⟨l27, n⟩ => n) ((0 : Nat), n28) (.cons rfl (Sub.nil _)) ⟨hL19, h⟩ ?_
    rintro ⟨l27, nn28⟩ wr28 ⟨hL28, h⟩
    obtain ⟨n28, e28, rfl, h, hm28⟩ := Go.L.itr_some h
    refine W_seqr ?_
    refine S_nextS (l := a0) (p := l27) 0 rfl rfl hL28 rfl (fun hc30 => ?_) (fun hc30 => ?_)
    ·replace h := Go.L.ite_p hc30 h
     intro w30 hL30 hle30
     refine S_pz 1 rfl ?_
     refine W_seq ?_
     refine W_true rfl ?_
     refine W_skip ?_
     refine At_seq ?_
     refine W_block ?_
     refine W_pz 4 rfl ?_
     refine W_pz 2 rfl ?_
     refine W_if rfl (fun hc32 => ?_) (fun hc32 => ?_)
     ·replace h := Go.L.ite_p hc32 h
      refine W_pz 2 rfl ?_
      refine W_ret ?_
      refine At_block_ret ?_
      refine At_loop_ret ?_
      replace h := Go.L.Nxt.out h hm28
      refine At_block_ret ?_
      refine At_cut_ret ?_
      refine At_block_ret ?_
      obtain rfl := Option.some.inj h
      refine At_body rfl rfl ?_
      exact ⟨hL30.ext, rfl⟩
     ·replace h := Go.L.ite_n hc32 h
      refine W_skip ?_
      refine At_block ?_
      have h := Go.L.Nxt.again h hm28
      refine At_round ((l27 + (Go.L.rdec a0 l27).2), n28) (.cons rfl (Sub.nil _)) ⟨hL30, h⟩ (Nat.lt_succ_self _)
    ·replace h := Go.L.ite_n hc30 h
     refine S_pz 1 rfl ?_
     refine W_seq ?_
     refine W_false rfl ?_
     refine W_exit ?_
     refine At_seq_exit ?_
     refine At_loop_exit ?_
     replace h := Go.L.Nxt.out h hm28
     refine At_exit ?_
     have hL36 := hL28.dropAt (i := 0) rfl
     refine At_cut () (Sub.nil _) ⟨hL36, h⟩
   ·rintro _ wr17 ⟨hL17, h⟩
    refine W_pz 1 rfl ?_
    refine W_ret ?_
    refine At_block_ret ?_
    obtain rfl := Option.some.inj h
    refine At_body rfl rfl ?_
    exact ⟨hL17.ext, rfl⟩
  ·replace h := Go.L.ite_n hc6 h
   refine W_p 1 rfl ?_
   obtain ⟨x39, hb39, h⟩ := Go.L.bind_some h
   refine S_callL rfl rfl hL (unicode_utf8_ValidRune_ok _ _ (gz_le hH hL) hb39) ?_
   rintro _ w40 rfl hx40 hL40 hle40
   refine S_pz 2 rfl ?_
   refine W_cond rfl (fun hc41 => ?_) (fun hc41 => ?_)
   ·replace h := Go.L.ite_t hc41 h
    refine W_pz 1 rfl ?_
    refine W_ret ?_
    refine At_block_ret ?_
    obtain rfl := Option.some.inj h
    refine At_body rfl rfl ?_
    exact ⟨hL40.ext, rfl⟩
   ·replace h := Go.L.ite_f hc41 h
    refine W_scope ?_
    refine W_p 1 rfl ?_
    refine S_v (r_i2s rfl underlying21 underlying9) rfl ?_
    refine S_pz 1 rfl ?_
    refine W_p 1 rfl ?_
    refine S_v (r_lenS rfl underlying9) rfl ?_
    obtain ⟨hk44, h⟩ := Go.L.chk_some h
    refine S_v (r_ar64 rfl rfl rfl hk44) rfl ?_
    refine S_pz 1 rfl ?_
    refine W_pz 2 rfl ?_
    refine W_pz 1 rfl ?_
    refine W_cut (σ := Unit) (fun (_ : Unit) => []) (fun (_ : Unit) wr => Lcl w [] wr ∧ strings_IndexRune_k3 = some r) ?_ ?_
    ·refine W_block ?_
     obtain ⟨n148, h⟩ := Go.L.run_some h
     refine W_loop (σ := Int × Nat) (fun ⟨s9_147, n⟩ => [(0, .string ⟨(a0).toArray⟩), (7, .string ⟨((Go.L.runeS a1)).toArray⟩), (8, .int .i64 (((Go.L.runeS a1).length : Int) - (1 : Int))), (9, .int .i64 s9_147)]) (fun ⟨s9_147, n⟩ wr => Lcl w [] wr ∧ Go.L.itr (strings_IndexRune_bl4 a0 a1) n s9_147 = some r) (fun ⟨s9_147, n⟩ => n) ((((Go.L.runeS a1).length : Int) - (1 : Int)), n148) (.cons rfl (.cons rfl (.cons rfl (.cons rfl (Sub.nil _))))) ⟨hL40, h⟩ ?_
     rintro ⟨s9_147, nn148⟩ wr148 ⟨hL148, h⟩
     obtain ⟨n148, e148, rfl, h, hm148⟩ := Go.L.itr_some h
     refine W_seq ?_
     refine W_p 2 rfl ?_
     refine S_v (r_lenS rfl underlying9) rfl ?_
     refine S_pz 1 rfl ?_
     refine W_if rfl (fun hc150 => ?_) (fun hc150 => ?_)
     ·replace h := Go.L.ite_p hc150 h
      refine W_skip ?_
      refine At_seq ?_
      refine W_block ?_
      refine W_scope ?_
      refine W_cut (σ := Int) (fun s9_177 => [(0, .string ⟨(a0).toArray⟩), (7, .string ⟨((Go.L.runeS a1)).toArray⟩), (8, .int .i64 (((Go.L.runeS a1).length : Int) - (1 : Int))), (9, .int .i64 s9_177)]) (fun s9_177 wr => Lcl w [] wr ∧ (strings_IndexRune_k5 a0 a1) s9_177 = some e148) ?_ ?_
      ·refine W_seqd (.q 0 (.q 1 (.q 2 (.q 3 (.q 4 (.q 5 (.q 6 (.tail 7)))))))) mixed (by kernel_rfl) (fun w180 hx180 => ?_)
       have hL181 := hL148.call hx180
       refine D_pu 2 rfl ?_
       obtain ⟨hk182, h⟩ := Go.L.chk_some h
       refine D_v (r_sidx rfl rfl underlying9 hk182) rfl rfl ?_
       refine D_pu 2 rfl ?_
       obtain ⟨hk183, h⟩ := Go.L.chk_some h
       refine D_v (r_sidx rfl rfl underlying9 hk183) rfl rfl ?_
       refine D_pu 1 rfl ?_
       refine D_tail (fun w184 hx184 => ?_)
       have hL185 := hL181.call hx184
       refine S_seqnil ?_
       refine W_ifn rfl (fun hc186 => ?_) (fun hc186 => ?_)
       ·replace h := Go.L.ite_n hc186 h
        refine W_seqd (.q 0 (.q 1 (.q 2 (.q 3 (.q 4 (.q 5 (.q 6 (.q 7 (.q 8 (.tail 9)))))))))) mixed (by kernel_rfl) (fun w188 hx188 => ?_)
        have hL189 := hL185.call hx188
        refine D_pu 2 rfl ?_
        obtain ⟨hk190, h⟩ := Go.L.chk_some h
        refine D_v (r_ar64 rfl rfl rfl hk190) rfl rfl ?_
        obtain ⟨hk192, h⟩ := Go.L.chk_some h
        refine D_v (r_sslL rfl rfl underlying9 hk192) rfl rfl ?_
        refine D_pu 2 rfl ?_
        obtain ⟨hk193, h⟩ := Go.L.chk_some h
        refine D_v (r_sidx rfl rfl underlying9 hk193) rfl rfl ?_
        obtain ⟨x194, hb194, h⟩ := Go.L.bind_some h
        refine D_call rfl rfl rfl (fun w195 hx195 => idxb_ok _ _ (Le.refl _) hb194) ?_
        refine D_pu 1 rfl ?_
        refine D_tail (fun w196 hx196 => ?_)
        have hL197 := hL189.call hx196
        refine S_seqnil ?_
        refine W_seq ?_
        refine W_pz 2 rfl ?_
        refine W_if rfl (fun hc198 => ?_) (fun hc198 => ?_)
        ·replace h := Go.L.ite_p hc198 h
         refine W_pz 1 rfl ?_
         refine W_ret ?_
         refine At_seq_ret ?_
         refine At_cut_ret ?_
         refine At_scope_ret ?_
         refine At_block_ret ?_
         refine At_loop_ret ?_
         replace h := Go.L.Nxt.out h hm148
         refine At_block_ret ?_
         refine At_cut_ret ?_
         refine At_scope_ret ?_
         refine At_block_ret ?_
         obtain rfl := Option.some.inj h
         refine At_body rfl rfl ?_
         exact ⟨hL197.ext, rfl⟩
        ·replace h := Go.L.ite_n hc198 h
         refine W_skip ?_
         refine At_seq ?_
         refine W_region ?_
         refine S_pu 2 rfl ?_
         obtain ⟨hk201, h⟩ := Go.L.chk_some h
         refine S_v (r_ar64 rfl rfl rfl hk201) rfl ?_
         obtain ⟨hk202, h⟩ := Go.L.chk_some h
         refine S_v (r_ar64 rfl rfl rfl hk202) rfl ?_
         refine S_pu 1 rfl ?_
         refine S_nil ?_
         refine At_cut (s9_147 + (x194 + (1 : Int))) (.cons rfl (.cons rfl (.cons rfl (.cons rfl (Sub.nil _))))) ⟨hL197, h⟩
       ·replace h := Go.L.ite_p hc186 h
        refine W_skip ?_
        refine At_cut s9_147 (.cons rfl (.cons rfl (.cons rfl (.cons rfl (Sub.nil _))))) ⟨hL185, h⟩
      ·rintro s9_177 wr178 ⟨hL178, h⟩
       refine W_cut (σ := Unit) (fun (_ : Unit) => [(8, .int .i64 (((Go.L.runeS a1).length : Int) - (1 : Int))), (9, .int .i64 s9_177)]) (fun (_ : Unit) wr => Lcl w [] wr ∧ (strings_IndexRune_k6 a1 s9_177) = some e148) ?_ ?_
       ·refine W_pz 1 rfl ?_
        refine W_block ?_
        obtain ⟨n242, h⟩ := Go.L.run_some h
        refine W_loop (σ := Int × Nat) (fun ⟨s12_241, n⟩ => [(0, .string ⟨(a0).toArray⟩), (7, .string ⟨((Go.L.runeS a1)).toArray⟩), (8, .int .i64 (((Go.L.runeS a1).length : Int) - (1 : Int))), (9, .int .i64 s9_177), (12, .int .i64 s12_241)]) (fun ⟨s12_241, n⟩ wr => Lcl w [] wr ∧ Go.L.itr (strings_IndexRune_bl7 a0 a1 s9_177) n s12_241 = some e148) (fun ⟨s12_241, n⟩ => n) ((1 : Int), n242) (.cons rfl (.cons rfl (.cons rfl (.cons rfl (.cons rfl (Sub.nil _)))))) ⟨hL178, h⟩ ?_
        rintro ⟨s12_241, nn242⟩ wr242 ⟨hL242, h⟩
        obtain ⟨n242, e242, rfl, h, hm242⟩ := Go.L.itr_some h
        refine W_seq ?_
        refine W_p 2 rfl ?_
        refine S_v (r_lenS rfl underlying9) rfl ?_
        refine S_pz 1 rfl ?_
        refine W_if rfl (fun hc244 => ?_) (fun hc244 => ?_)
        ·replace h := Go.L.ite_p hc244 h
         refine W_skip ?_
         refine At_seq ?_
         refine W_seq ?_
         refine W_block ?_
         refine W_seqd (.q 0 (.q 1 (.q 2 (.q 3 (.q 4 (.q 5 (.q 6 (.q 7 (.q 8 (.q 9 (.q 10 (.tail 11)))))))))))) mixed (by kernel_rfl) (fun w246 hx246 => ?_)
         have hL247 := hL242.call hx246
         refine D_pu 3 rfl ?_
         obtain ⟨hk248, h⟩ := Go.L.chk_some h
         refine D_v (r_ar64 rfl rfl rfl hk248) rfl rfl ?_
         obtain ⟨hk249, h⟩ := Go.L.chk_some h
         refine D_v (r_sidx rfl rfl underlying9 hk249) rfl rfl ?_
         refine D_pu 3 rfl ?_
         obtain ⟨hk250, h⟩ := Go.L.chk_some h
         refine D_v (r_ar64 rfl rfl rfl hk250) rfl rfl ?_
         obtain ⟨hk251, h⟩ := Go.L.chk_some h
         refine D_v (r_sidx rfl rfl underlying9 hk251) rfl rfl ?_
         refine D_pu 1 rfl ?_
         refine D_tail (fun w252 hx252 => ?_)
         have hL253 := hL247.call hx252
         refine S_seqnil ?_
         refine W_ifn rfl (fun hc254 => ?_) (fun hc254 => ?_)
         ·replace h := Go.L.ite_n hc254 h
          cases h
         ·replace h := Go.L.ite_p hc254 h
          refine W_skip ?_
          refine At_block ?_
          refine At_seq ?_
          refine W_region ?_
          refine S_pu 1 rfl ?_
          obtain ⟨hk257, h⟩ := Go.L.chk_some h
          refine S_v (r_ar64 rfl rfl rfl hk257) rfl ?_
          refine S_pu 1 rfl ?_
          refine S_nil ?_
          have h := Go.L.Nxt.again h hm242
          refine At_round ((s12_241 + (1 : Int)), n242) (.cons rfl (.cons rfl (.cons rfl (.cons rfl (.cons rfl (Sub.nil _)))))) ⟨hL253, h⟩ (Nat.lt_succ_self _)
        ·replace h := Go.L.ite_n hc244 h
         refine W_exit ?_
         refine At_seq_exit ?_
         refine At_loop_exit ?_
         replace h := Go.L.Nxt.out h hm242
         refine At_exit ?_
         refine At_cut () (.cons rfl (.cons rfl (Sub.nil _))) ⟨hL242, h⟩
       ·rintro _ wr223 ⟨hL223, h⟩
        refine W_seq ?_
        refine W_p 2 rfl ?_
        obtain ⟨hk260, h⟩ := Go.L.chk_some h
        refine S_v (r_ar64 rfl rfl rfl hk260) rfl ?_
        refine S_pz 1 rfl ?_
        refine W_ret ?_
        refine At_seq_ret ?_
        refine At_scope_ret ?_
        refine At_block_ret ?_
        refine At_loop_ret ?_
        replace h := Go.L.Nxt.out h hm148
        refine At_block_ret ?_
        refine At_cut_ret ?_
        refine At_scope_ret ?_
        refine At_block_ret ?_
        obtain rfl := Option.some.inj h
        refine At_body rfl rfl ?_
        exact ⟨hL223.ext, rfl⟩
     ·replace h := Go.L.ite_n hc150 h
      refine W_exit ?_
      refine At_seq_exit ?_
      refine At_loop_exit ?_
      replace h := Go.L.Nxt.out h hm148
      refine At_exit ?_
      refine At_cut () (Sub.nil _) ⟨hL148, h⟩
    ·rintro _ wr96 ⟨hL96, h⟩
     refine W_seq ?_
     refine W_pz 1 rfl ?_
     refine W_ret ?_
     refine At_seq_ret ?_
     refine At_scope_ret ?_
     refine At_block_ret ?_
     obtain rfl := Option.some.inj h
     refine At_body rfl rfl ?_
     exact ⟨hL96.ext, rfl⟩
noncomputable def strings_ContainsRune (a0 : List UInt8) (a1 : Int) : Option (Bool) :=
 Option.bind (strings_IndexRune a0 a1) (fun x1 => some (decide ((0 : Int) ≤ x1)))
theorem strings_ContainsRune_ok (w : World) (H : PH) (hH : Le H (hp w)) {a0 : List UInt8} {a1 : Int}   {r : Bool} (h : strings_ContainsRune a0 a1 = some r) :
  Ok Tryz.prog 88 [.string ⟨(a0).toArray⟩, .int .i32 a1] w (fun v w' => Ext w w' ∧ v = .bool r) := by
 refine Ok_enter (n := 9) [(0, .string ⟨(a0).toArray⟩), (1, .int .i32 a1)] func88 rfl rfl rfl rfl rfl ?_
 have hL := Lcl.start w
 refine W_pz 1 rfl ?_
 refine W_p 2 rfl ?_
 obtain ⟨x1, hb1, h⟩ := Go.L.bind_some h
 refine S_callL rfl rfl hL (strings_IndexRune_ok _ _ (gz_le hH hL) hb1) ?_
 rintro _ w2 rfl hx2 hL2 hle2
 refine S_pz 2 rfl ?_
 refine W_ret ?_
 obtain rfl := Option.some.inj h
 refine At_body rfl rfl ?_
 exact ⟨hL2.ext, rfl⟩
noncomputable def value_Name_1 (a0 : Int) : Option (Bool) :=
 if (a0 < (97 : Int)) ∨ ((122 : Int) < a0) then if a0 < (48 : Int) then Option.bind (strings_ContainsRune ([45, 95, 46] : List UInt8) a0) (fun x5 => some (!x5)) else if (57 : Int) < a0 then Option.bind (strings_ContainsRune ([45, 95, 46] : List UInt8) a0) (fun x10 => some (!x10)) else some (false) else some (false)
theorem value_Name_1_ok (w : World) (H : PH) (hH : Le H (hp w)) {a0 : Int}   {r : Bool} (h : value_Name_1 a0 = some r) :
  Ok Tryz.prog 87 [.int .i32 a0] w (fun v w' => Ext w w' ∧ v = .bool r) := by
 refine Ok_enter (n := 22) [(0, .int .i32 a0)] func87 rfl rfl rfl rfl rfl ?_
 have hL := Lcl.start w
 refine W_pz 1 rfl ?_
 refine W_p 3 rfl ?_
 refine S_or 2 2 rfl rfl rfl rfl rfl rfl ?_
 refine S_pu 1 rfl ?_
 refine S_split (s := 9) rfl (fun hg1 => ?_) (fun hg1 => ?_)
 ·replace h := Go.L.ite_p (of_decide_eq_true hg1) h
  refine S_guarded rfl rfl hg1 ?_
  refine S_v (RunsAt_pu rfl) rfl ?_
  refine S_guarded rfl rfl hg1 ?_
  refine S_v (RunsAt_pu rfl) rfl ?_
  refine S_guarded rfl rfl hg1 ?_
  refine S_v (RunsAt_pu rfl) rfl ?_
  refine S_split (s := 12) rfl (fun hg3 => ?_) (fun hg3 => ?_)
  ·replace h := Go.L.ite_p (of_decide_eq_true hg3) h
   iterate 2 refine S_unwanted rfl rfl hg3 rfl ?_
   refine S_guarded rfl rfl hg1 ?_
   refine S_v (r_pickT rfl hg3 rfl) rfl ?_
   refine S_v (r_pickT rfl hg1 rfl) rfl ?_
   refine S_pu 1 rfl ?_
   refine S_guarded rfl rfl rfl ?_
   refine S_v (RunsAt_pu rfl) rfl ?_
   refine S_guarded rfl rfl rfl ?_
   obtain ⟨x5, hb5, h⟩ := Go.L.bind_some h
   refine S_callL rfl rfl hL (strings_ContainsRune_ok _ _ (gz_le hH hL) hb5) ?_
   rintro _ w6 rfl hx6 hL6 hle6
   refine S_guarded rfl rfl rfl ?_
   refine S_v (RunsAt_pu rfl) rfl ?_
   refine S_v (r_pickT rfl rfl rfl) rfl ?_
   refine S_pz 1 rfl ?_
   refine W_ret ?_
   obtain rfl := Option.some.inj h
   refine At_body rfl rfl ?_
   exact ⟨hL6.ext, rfl⟩
  ·replace h := Go.L.ite_n (of_decide_eq_false hg3) h
   refine S_guarded rfl rfl hg3 ?_
   refine S_v (RunsAt_pu rfl) rfl ?_
   refine S_guarded rfl rfl hg3 ?_
   refine S_v (RunsAt_pu rfl) rfl ?_
   refine S_guarded rfl rfl hg1 ?_
   refine S_v (r_pickF rfl hg3 rfl) rfl ?_
   refine S_v (r_pickT rfl hg1 rfl) rfl ?_
   refine S_pu 1 rfl ?_
   refine S_split (s := 17) rfl (fun hg8 => ?_) (fun hg8 => ?_)
   ·replace h := Go.L.ite_p (of_decide_eq_true hg8) h
    refine S_guarded rfl rfl hg8 ?_
    refine S_v (RunsAt_pu rfl) rfl ?_
    refine S_guarded rfl rfl hg8 ?_
    obtain ⟨x10, hb10, h⟩ := Go.L.bind_some h
    refine S_callL rfl rfl hL (strings_ContainsRune_ok _ _ (gz_le hH hL) hb10) ?_
    rintro _ w11 rfl hx11 hL11 hle11
    refine S_guarded rfl rfl hg8 ?_
    refine S_v (RunsAt_pu rfl) rfl ?_
    refine S_v (r_pickT rfl hg8 rfl) rfl ?_
    refine S_pz 1 rfl ?_
    refine W_ret ?_
    obtain rfl := Option.some.inj h
    refine At_body rfl rfl ?_
    exact ⟨hL11.ext, rfl⟩
   ·replace h := Go.L.ite_n (of_decide_eq_false hg8) h
    iterate 3 refine S_unwanted rfl rfl hg8 rfl ?_
    refine S_v (r_pickF rfl hg8 rfl) rfl ?_
    refine S_pz 1 rfl ?_
    refine W_ret ?_
    obtain rfl := Option.some.inj h
    refine At_body rfl rfl ?_
    exact ⟨hL.ext, rfl⟩
 ·replace h := Go.L.ite_n (of_decide_eq_false hg1) h
  iterate 3 refine S_unwanted rfl rfl hg1 rfl ?_
  iterate 2 refine S_unwanted2 rfl rfl rfl ?_
  refine S_unwanted rfl rfl hg1 rfl ?_
  refine S_v (r_pickF rfl hg1 rfl) rfl ?_
  refine S_pu 1 rfl ?_
  iterate 3 refine S_unwanted rfl rfl rfl rfl ?_
  refine S_v (r_pickF rfl rfl rfl) rfl ?_
  refine S_pz 1 rfl ?_
  refine W_ret ?_
  obtain rfl := Option.some.inj h
  refine At_body rfl rfl ?_
  exact ⟨hL.ext, rfl⟩
end Go.Proofs.YtmfiaecglndldaaGreatDoor
end
section
namespace Go.L
set_option maxRecDepth 20000 in
theorem runeS_end {x : Int} (h : 128 ≤ x) (hx : x ≤ 1114111) (hv : Go.Utf8.valid x = true) : ∃ k : Nat, (runeS x).length = k ∧ 2 ≤ k ∧ k ≤ 4 ∧ 128 ≤ ((runeS x).getD (k - 1) default).toNat := by
  obtain ⟨c, rfl⟩ := Int.eq_ofNat_of_zero_le (show 0 ≤ x by omega)
  have hm : ∀ j : Nat, (128 + j % 64) % 256 = 128 + j % 64 := fun j => Nat.mod_eq_of_lt (by omega)
  unfold runeS Go.Utf8.encode
  simp only [hv, if_true, Int.toNat_natCast]
  rw [if_neg (by omega)]
  have h8 : ∀ j : Nat, 128 ≤ (UInt8.ofNat (128 + j % 64)).toNat := fun j => by rw [UInt8.toNat_ofNat', hm]; omega
  have g2 : ∀ a b : UInt8, ((ByteArray.mk #[a, b]).data.toList.length = 2) ∧ (ByteArray.mk #[a, b]).data.toList.getD (2 - 1) default = b := fun _ _ => ⟨rfl, rfl⟩
  have g3 : ∀ a b c : UInt8, ((ByteArray.mk #[a, b, c]).data.toList.length = 3) ∧ (ByteArray.mk #[a, b, c]).data.toList.getD (3 - 1) default = c := fun _ _ _ => ⟨rfl, rfl⟩
  have g4 : ∀ a b c d : UInt8, ((ByteArray.mk #[a, b, c, d]).data.toList.length = 4) ∧ (ByteArray.mk #[a, b, c, d]).data.toList.getD (4 - 1) default = d := fun _ _ _ _ => ⟨rfl, rfl⟩
  by_cases h1 : c < 2048
  · rw [if_pos h1]
    refine ⟨2, (g2 _ _).1, by omega, by omega, ?_⟩
    rw [(g2 _ _).2]
    exact h8 _
  · rw [if_neg h1]
    by_cases h2 : c < 65536
    · rw [if_pos h2]
      refine ⟨3, (g3 _ _ _).1, by omega, by omega, ?_⟩
      rw [(g3 _ _ _).2]
      exact h8 _
    · rw [if_neg h2]
      refine ⟨4, (g4 _ _ _ _).1, by omega, by omega, ?_⟩
      rw [(g4 _ _ _ _).2]
      exact h8 _
end Go.L
namespace Go.Proofs.YtmfiaecglndldaaGreatDoor
open Go Go.L
theorem ascii_dash : ∀ n : Fin 128, (0 ≤ Lib.indexByte [45, 95, 46] (u8 (n.val : Int)) ↔ (n.val = 45 ∨ n.val = 95 ∨ n.val = 46)) := by decide
theorem err_dash : strings_IndexRune_l2 [45, 95, 46] 0 = some (-1) := by
  unfold strings_IndexRune_l2
  have r0 : strings_IndexRune_bl2 [45, 95, 46] 0 = some (.inl 1) := by rfl
  have r1 : strings_IndexRune_bl2 [45, 95, 46] 1 = some (.inl 2) := by rfl
  have r2 : strings_IndexRune_bl2 [45, 95, 46] 2 = some (.inl 3) := by rfl
  have r3 : strings_IndexRune_bl2 [45, 95, 46] 3 = some (.inr (-1)) := by rfl
  rw [run_inl r0, run_inl r1, run_inl r2]
  exact run_inr (m := some (-1)) r3
theorem rune_dash {x : Int} (h0 : 0 ≤ x) (hx : x ≤ 1114111) : ∃ i, strings_IndexRune [45, 95, 46] x = some i ∧ (0 ≤ i ↔ (x = 45 ∨ x = 95 ∨ x = 46)) := by
  unfold strings_IndexRune
  by_cases h1 : x < 128
  · rw [if_pos ⟨h0, h1⟩]
    have := ascii_dash ⟨x.toNat, by omega⟩
    simp only [Int.toNat_of_nonneg h0] at this
    exact ⟨_, rfl, by rw [this]; omega⟩
  · rw [if_neg (by omega)]
    have hn : ¬ (x = 45 ∨ x = 95 ∨ x = 46) := by omega
    by_cases h2 : x = 65533
    · rw [if_pos h2, err_dash]
      exact ⟨_, rfl, by omega⟩
    · rw [if_neg h2]
      by_cases hv : Go.Utf8.valid x = true
      · have e : unicode_utf8_ValidRune x = some true := by
          unfold unicode_utf8_ValidRune
          simp only [Go.Utf8.valid, Bool.or_eq_true, Bool.and_eq_true, decide_eq_true_eq] at hv
          by_cases h3 : 0 ≤ x ∧ x < 55296
          · rw [if_pos h3]
          · rw [if_neg h3, if_pos (by omega)]
        rw [e]
        obtain ⟨k, hk, k1, k2, hl⟩ := runeS_end (by omega) hx hv
        simp only [Option.bind_some, Bool.not_true, Bool.false_eq_true, if_false, hk]
        rw [chk_pos (by unfold I64; omega)]
        refine ⟨-1, run_inr ?_, by omega⟩
        unfold strings_IndexRune_bl4
        have e1 : ((k : Int) - 1).toNat = k - 1 := by omega
        have key : ∀ (l : List UInt8) (c : UInt8), (∀ b ∈ l, b.toNat < 128) → 128 ≤ c.toNat → Lib.indexByte l c = -1 := by
          intro l c hl hc
          induction l with
          | nil => rfl
          | cons b l ih =>
            have hb := hl b (.head _)
            have hne : (b == c) = false := by
              cases hh : b == c with
              | false => rfl
              | true => have := beq_iff_eq.1 hh; subst this; omega
            unfold Lib.indexByte
            rw [ih (fun b hb => hl b (.tail _ hb)), hne]
            rfl
        have hk3 : k = 2 ∨ k = 3 ∨ k = 4 := by omega
        simp only [hk, e1]
        rcases hk3 with rfl | rfl | rfl
        · rw [if_pos (by decide), chk_pos (by decide), chk_pos (by decide), if_neg (by intro hh; have : (([45, 95, 46] : List UInt8).getD 1 default).toNat = 95 := rfl; simp only [Nat.reduceSub] at hl hh; omega), chk_pos (by unfold I64; decide), chk_pos (by decide), chk_pos (by decide)]
          unfold idxbL
          rw [Option.bind_some, key _ _ (by decide) hl, if_pos (by decide)]
        · rw [if_pos (by decide), chk_pos (by decide), chk_pos (by decide), if_neg (by intro hh; have : (([45, 95, 46] : List UInt8).getD 2 default).toNat = 46 := rfl; simp only [Nat.reduceSub] at hl hh; omega), chk_pos (by unfold I64; decide), chk_pos (by decide), chk_pos (by decide)]
          unfold idxbL
          rw [Option.bind_some, key _ _ (by decide) hl, if_pos (by decide)]
        · rw [if_neg (by decide)]
          rfl
      · have e : unicode_utf8_ValidRune x = some false := by
          unfold unicode_utf8_ValidRune
          simp only [Go.Utf8.valid, Bool.or_eq_true, Bool.and_eq_true, decide_eq_true_eq] at hv
          rw [if_neg (by omega), if_neg (by omega)]
        rw [e]
        exact ⟨-1, rfl, by omega⟩
/-- A rune that no name has. -/
def badR (n : Nat) : Bool := !((decide (97 ≤ n ∧ n ≤ 122)) || (decide (48 ≤ n ∧ n ≤ 57)) || (decide (n = 45 ∨ n = 95 ∨ n = 46)))
theorem name1_eq {n : Nat} (hx : n ≤ 1114111) : value_Name_1 (n : Int) = some (badR n) := by
  obtain ⟨i, hi, hd⟩ := rune_dash (x := (n : Int)) (by omega) (by omega)
  have hc : strings_ContainsRune [45, 95, 46] (n : Int) = some (decide (0 ≤ i)) := by unfold strings_ContainsRune; rw [hi]; rfl
  have hd' : decide (0 ≤ i) = decide (n = 45 ∨ n = 95 ∨ n = 46) := by
    rw [Bool.eq_iff_iff, decide_eq_true_eq, decide_eq_true_eq, hd]
    omega
  unfold value_Name_1 badR
  rw [hc, hd']
  simp only [Option.bind_some]
  by_cases h1 : (n : Int) < 97 ∨ (122 : Int) < n
  · rw [if_pos h1]
    have e1 : decide (97 ≤ n ∧ n ≤ 122) = false := decide_eq_false (by omega)
    by_cases h2 : (n : Int) < 48
    · rw [if_pos h2]
      have e2 : decide (48 ≤ n ∧ n ≤ 57) = false := decide_eq_false (by omega)
      rw [e1, e2]; rfl
    · rw [if_neg h2]
      by_cases h3 : (57 : Int) < n
      · rw [if_pos h3]
        have e2 : decide (48 ≤ n ∧ n ≤ 57) = false := decide_eq_false (by omega)
        rw [e1, e2]; rfl
      · rw [if_neg h3]
        have e2 : decide (48 ≤ n ∧ n ≤ 57) = true := decide_eq_true (by omega)
        rw [e1, e2]; rfl
  · rw [if_neg h1]
    have e1 : decide (97 ≤ n ∧ n ≤ 122) = true := decide_eq_true (by omega)
    rw [e1]; rfl
end Go.Proofs.YtmfiaecglndldaaGreatDoor
end
section
namespace Go.Proofs.YtmfiaecglndldaaGreatDoor
open Go Go.E Go.RowKit Go.Shelf
noncomputable def nameCF (a : List UInt8) : Option Bool := some (decide (0 ≤ Lib.idxFunc badR true ⟨a.toArray⟩))
theorem nameCF_ok (w : World) (H : PH) (_hH : Le H (hp w)) {a0 : List UInt8} {r : Bool} (h : nameCF a0 = some r) :
    Ok Tryz.prog 86 [.string ⟨a0.toArray⟩, .func (.func 87) #[] #[]] w (fun v w' => Ext w w' ∧ v = .bool r) := by
  obtain rfl := Option.some.inj h
  refine ⟨⟨Tryz.f86, _, Tryz.func86, rfl, rfl⟩, (Any.strings_ContainsFunc_grows Tryz.layCF 87 #[] (enters_of Tryz.func87 (by kernel_rfl) rfl) badR ⟨a0.toArray⟩ w ?_).mono fun e w' he => ?_⟩
  · intro W x hx _
    refine (value_Name_1_ok W (hp W) (Le.refl _) (name1_eq hx)).2.mono fun e w' he => ?_
    obtain ⟨v, rfl, hx, rfl⟩ := he
    exact ⟨rfl, hx.toBelow⟩
  · obtain ⟨rfl, hb⟩ := he
    exact ⟨_, rfl, Ext.off hb, rfl⟩
end Go.Proofs.YtmfiaecglndldaaGreatDoor
end
section
namespace Go.Proofs.YtmfiaecglndldaaGreatDoor
open Go Go.E Go.RowKit
set_option maxHeartbeats 1000000
set_option maxRecDepth 10000
open _root_.Go.Proofs.Tryz
noncomputable def value_Name (a0 : List UInt8) : Option (Bool) :=
 if a0 = ([] : List UInt8) then some (false) else if (32 : Int) < (a0.length : Int) then some (false) else Go.L.chk (0 ≤ (0 : Int) ∧ (0 : Int) < (a0.length : Int)) (if ((a0.getD (0 : Int).toNat default).toNat : Int) < 97 then some (false) else Go.L.chk (0 ≤ (0 : Int) ∧ (0 : Int) < (a0.length : Int)) (if 122 < ((a0.getD (0 : Int).toNat default).toNat : Int) then some (false) else Option.bind (nameCF a0) (fun x15 => some (!x15))))
theorem value_Name_ok (w : World) (H : PH) (hH : Le H (hp w)) {a0 : List UInt8}   {r : Bool} (h : value_Name a0 = some r) :
  Ok Tryz.prog 48 [.string ⟨(a0).toArray⟩] w (fun v w' => Ext w w' ∧ v = .bool r) := by
 refine Ok_enter (n := 23) [(0, .string ⟨(a0).toArray⟩)] func48 rfl rfl rfl rfl rfl ?_
 have hL := Lcl.start w
 refine W_pz 1 rfl ?_
 refine W_seq ?_
 refine W_p 1 rfl ?_
 refine S_v (r_seq rfl rfl) rfl ?_
 refine S_pu 1 rfl ?_
 refine S_split (s := 5) rfl (fun hg1 => ?_) (fun hg1 => ?_)
 ·replace h := Go.L.ite_p (of_decide_eq_true hg1) h
  iterate 3 refine S_unwanted rfl rfl hg1 rfl ?_
  refine S_v (r_pickT rfl hg1 rfl) rfl ?_
  refine S_pu 1 rfl ?_
  iterate 3 refine S_unwanted rfl rfl rfl rfl ?_
  refine S_v (r_pickT rfl rfl rfl) rfl ?_
  refine S_pu 1 rfl ?_
  iterate 3 refine S_unwanted rfl rfl rfl rfl ?_
  refine S_v (r_pickT rfl rfl rfl) rfl ?_
  refine S_seqnil ?_
  refine W_true rfl ?_
  refine W_pz 1 rfl ?_
  refine W_ret ?_
  refine At_seq_ret ?_
  obtain rfl := Option.some.inj h
  refine At_body rfl rfl ?_
  exact ⟨hL.ext, rfl⟩
 ·replace h := Go.L.ite_n (of_decide_eq_false hg1) h
  refine S_guarded rfl rfl hg1 ?_
  refine S_v (RunsAt_pu rfl) rfl ?_
  refine S_guarded rfl rfl hg1 ?_
  refine S_v (r_lenS rfl underlying9) rfl ?_
  refine S_guarded rfl rfl hg1 ?_
  refine S_v (RunsAt_pu rfl) rfl ?_
  refine S_v (r_pickF rfl hg1 rfl) rfl ?_
  refine S_pu 1 rfl ?_
  refine S_split (s := 10) rfl (fun hg4 => ?_) (fun hg4 => ?_)
  ·replace h := Go.L.ite_p (of_decide_eq_true hg4) h
   iterate 3 refine S_unwanted rfl rfl hg4 rfl ?_
   refine S_v (r_pickT rfl hg4 rfl) rfl ?_
   refine S_pu 1 rfl ?_
   iterate 3 refine S_unwanted rfl rfl rfl rfl ?_
   refine S_v (r_pickT rfl rfl rfl) rfl ?_
   refine S_seqnil ?_
   refine W_true rfl ?_
   refine W_pz 1 rfl ?_
   refine W_ret ?_
   refine At_seq_ret ?_
   obtain rfl := Option.some.inj h
   refine At_body rfl rfl ?_
   exact ⟨hL.ext, rfl⟩
  ·replace h := Go.L.ite_n (of_decide_eq_false hg4) h
   refine S_guarded rfl rfl hg4 ?_
   refine S_v (RunsAt_pu rfl) rfl ?_
   refine S_guarded rfl rfl hg4 ?_
   obtain ⟨hk7, h⟩ := Go.L.chk_some h
   refine S_v (r_sidx rfl rfl underlying9 hk7) rfl ?_
   refine S_guarded rfl rfl hg4 ?_
   refine S_v (RunsAt_pu rfl) rfl ?_
   refine S_v (r_pickF rfl hg4 rfl) rfl ?_
   refine S_pu 1 rfl ?_
   refine S_split (s := 15) rfl (fun hg8 => ?_) (fun hg8 => ?_)
   ·replace h := Go.L.ite_p (of_decide_eq_true hg8) h
    iterate 3 refine S_unwanted rfl rfl hg8 rfl ?_
    refine S_v (r_pickT rfl hg8 rfl) rfl ?_
    refine S_seqnil ?_
    refine W_true rfl ?_
    refine W_pz 1 rfl ?_
    refine W_ret ?_
    refine At_seq_ret ?_
    obtain rfl := Option.some.inj h
    refine At_body rfl rfl ?_
    exact ⟨hL.ext, rfl⟩
   ·replace h := Go.L.ite_n (of_decide_eq_false hg8) h
    refine S_guarded rfl rfl hg8 ?_
    refine S_v (RunsAt_pu rfl) rfl ?_
    refine S_guarded rfl rfl hg8 ?_
    obtain ⟨hk11, h⟩ := Go.L.chk_some h
    refine S_v (r_sidx rfl rfl underlying9 hk11) rfl ?_
    refine S_guarded rfl rfl hg8 ?_
    refine S_v (RunsAt_pu rfl) rfl ?_
    refine S_v (r_pickF rfl hg8 rfl) rfl ?_
    refine S_seqnil ?_
    refine W_if rfl (fun hc12 => ?_) (fun hc12 => ?_)
    ·replace h := Go.L.ite_p hc12 h
     refine W_pz 1 rfl ?_
     refine W_ret ?_
     refine At_seq_ret ?_
     obtain rfl := Option.some.inj h
     refine At_body rfl rfl ?_
     exact ⟨hL.ext, rfl⟩
    ·replace h := Go.L.ite_n hc12 h
     refine W_skip ?_
     refine At_seq ?_
     refine W_p 1 rfl ?_
     obtain ⟨x15, hb15, h⟩ := Go.L.bind_some h
     refine S_callL rfl rfl hL (nameCF_ok _ _ (gz_le hH hL) hb15) ?_
     rintro _ w16 rfl hx16 hL16 hle16
     refine S_pz 2 rfl ?_
     refine W_ret ?_
     obtain rfl := Option.some.inj h
     refine At_body rfl rfl ?_
     exact ⟨hL16.ext, rfl⟩
noncomputable def shapes_Check_k1 : Option ((Int × Int)) :=
 some (((0 : Int), (0 : Int)))
noncomputable def shapes_Check_bl2 (x85 : (List (List UInt8))) : Int × Int → Option ((Int × Int) ⊕ ((Int × Int))) := fun ⟨s3_122, s13_123⟩ =>
 if s13_123 < (x85.length : Int) then Go.L.chk (0 ≤ s13_123 ∧ s13_123 < (x85.length : Int)) (if x85.getD s13_123.toNat default = ([35] : List UInt8) then Go.L.chk (Go.L.I64 (((x85.getD s13_123.toNat default).length : Int) + (1 : Int))) (Go.L.chk (Go.L.I64 (s3_122 + (((x85.getD s13_123.toNat default).length : Int) + (1 : Int)))) (Go.L.chk (Go.L.I64 (s13_123 + (1 : Int))) (some (Sum.inl ((s3_122 + (((x85.getD s13_123.toNat default).length : Int) + (1 : Int))), (s13_123 + (1 : Int))))))) else if x85.getD s13_123.toNat default = ([42] : List UInt8) then Go.L.chk (Go.L.I64 (((x85.getD s13_123.toNat default).length : Int) + (1 : Int))) (Go.L.chk (Go.L.I64 (s3_122 + (((x85.getD s13_123.toNat default).length : Int) + (1 : Int)))) (Go.L.chk (Go.L.I64 (s13_123 + (1 : Int))) (some (Sum.inl ((s3_122 + (((x85.getD s13_123.toNat default).length : Int) + (1 : Int))), (s13_123 + (1 : Int))))))) else if x85.getD s13_123.toNat default = ([42, 42] : List UInt8) then Go.L.chk (Go.L.I64 (((x85.getD s13_123.toNat default).length : Int) + (1 : Int))) (Go.L.chk (Go.L.I64 (s3_122 + (((x85.getD s13_123.toNat default).length : Int) + (1 : Int)))) (Go.L.chk (Go.L.I64 (s13_123 + (1 : Int))) (some (Sum.inl ((s3_122 + (((x85.getD s13_123.toNat default).length : Int) + (1 : Int))), (s13_123 + (1 : Int))))))) else Option.bind (value_Name (x85.getD s13_123.toNat default)) (fun x136 => if !x136 then Option.bind (shapes_fault (1 : Int) s3_122) (fun x140 => Option.map Sum.inr (some ((x140.1, x140.2)))) else Go.L.chk (Go.L.I64 (((x85.getD s13_123.toNat default).length : Int) + (1 : Int))) (Go.L.chk (Go.L.I64 (s3_122 + (((x85.getD s13_123.toNat default).length : Int) + (1 : Int)))) (Go.L.chk (Go.L.I64 (s13_123 + (1 : Int))) (some (Sum.inl ((s3_122 + (((x85.getD s13_123.toNat default).length : Int) + (1 : Int))), (s13_123 + (1 : Int))))))))) else Option.map Sum.inr (shapes_Check_k1)
noncomputable def shapes_Check_l2 (x85 : (List (List UInt8))) (s : Int × Int) : Option ((Int × Int)) := Go.L.run (shapes_Check_bl2 x85) s
noncomputable def shapes_Check (a0 : List UInt8) : Option ((Int × Int)) :=
 if (64 : Int) < (a0.length : Int) then Option.bind (shapes_fault (3 : Int) (-1 : Int)) (fun x4 => some ((x4.1, x4.2))) else Option.bind (shapes_steps a0) (fun x85 => (shapes_Check_l2 x85) ((0 : Int), (0 : Int)))
theorem shapes_Check_ok (w : World) (H : PH) (hH : Le H (hp w)) {a0 : List UInt8}   {r : (Int × Int)} (h : shapes_Check a0 = some r) :
  Ok Tryz.prog 15 [.string ⟨(a0).toArray⟩] w (fun v w' => Ext w w' ∧ v = .agg #[.int .i64 r.1, .int .i64 r.2]) := by
 refine Ok_enter (n := 41) [(0, .string ⟨(a0).toArray⟩)] func15 rfl rfl rfl rfl rfl ?_
 have hL := Lcl.start w
 refine W_seqr ?_
 refine S_alloc zr23 rfl rfl hL ?_
 intro w1 b1 hL1 hle1 _
 refine S_seqnil ?_
 refine W_seq ?_
 refine W_p 1 rfl ?_
 refine S_v (r_lenS rfl underlying9) rfl ?_
 refine S_pz 1 rfl ?_
 refine W_if rfl (fun hc2 => ?_) (fun hc2 => ?_)
 ·replace h := Go.L.ite_p hc2 h
  refine W_seqr ?_
  obtain ⟨x4, hb4, h⟩ := Go.L.bind_some h
  refine S_callL rfl rfl hL1 (shapes_fault_ok _ _ (gz_le hH hL1) hb4) ?_
  rintro _ w5 rfl hx5 hL5 hle5
  refine S_storeBN 0 rfl rfl rfl zr23 hL5 rfl rfl (onc rfl (onc rfl on0)) ?_
  intro w6 hL6 hle6
  refine S_seqnil ?_
  refine W_ret ?_
  refine At_seq_ret ?_
  obtain rfl := Option.some.inj h
  refine At_got1 rfl (.cell rfl underlying23 rfl zr23 (box_ptr (i := 0) hL6 rfl)) ?_
  exact ⟨hL6.ext, rfl⟩
 ·replace h := Go.L.ite_n hc2 h
  refine W_skip ?_
  refine At_seq ?_
  refine W_pz 1 rfl ?_
  refine W_cut (σ := Unit) (fun (_ : Unit) => [(2, .pointer (some ⟨b1, 0, none⟩))]) (fun (_ : Unit) wr => Lcl w [.box b1 [.int .i64 (0 : Int), .int .i64 (0 : Int)] 23] wr ∧ shapes_Check_k1 = some r) ?_ ?_
  ·refine W_p 1 rfl ?_
   obtain ⟨x85, hb85, h⟩ := Go.L.bind_some h
   refine S_callL rfl rfl hL1 (shapes_steps_ok _ _ (gz_le hH hL1) hb85) ?_
   rintro u86_0 w86 ⟨_, rfl, hR86_0⟩ hx86 hL86 hle86
   have hv86_0 := hR86_0.vecG hH hL1 hx86
   refine S_v (r_len rfl underlying30 hv86_0) rfl ?_
   refine S_pz 1 rfl ?_
   refine W_block ?_
   obtain ⟨n124, h⟩ := Go.L.run_some h
   refine W_loop (σ := Int × Int × Nat) (fun ⟨s3_122, s13_123, n⟩ => [(2, .pointer (some ⟨b1, 0, none⟩)), (3, .int .i64 s3_122), (11, u86_0), (12, .int .i64 (x85.length : Int)), (13, .int .i64 s13_123)]) (fun ⟨s3_122, s13_123, n⟩ wr => InO w [.box b1 [.int .i64 (0 : Int), .int .i64 (0 : Int)] 23] wr fun Oz => Vec .st (gz H w wr Oz) (u86_0) (x85) ∧ Go.L.itr (shapes_Check_bl2 x85) n (s3_122, s13_123) = some r) (fun ⟨s3_122, s13_123, n⟩ => n) ((0 : Int), (0 : Int), n124) (.cons rfl (.cons rfl (.cons rfl (.cons rfl (.cons rfl (Sub.nil _)))))) ⟨hL86, hv86_0, h⟩ ?_
   rintro ⟨s3_122, s13_123, nn124⟩ wr124 ⟨hL124, hf124_0, h⟩
   obtain ⟨n124, e124, rfl, h, hm124⟩ := Go.L.itr_some h
   refine W_pz 1 rfl ?_
   refine W_seq ?_
   refine W_if rfl (fun hc126 => ?_) (fun hc126 => ?_)
   ·replace h := Go.L.ite_p hc126 h
    refine W_skip ?_
    refine At_seq ?_
    refine W_seq ?_
    refine W_block ?_
    refine W_seqr ?_
    obtain ⟨hk129, h⟩ := Go.L.chk_some h
    refine S_index rfl rfl underlying30 zr9 hf124_0 s13_123.toNat (Int.toNat_of_nonneg hk129.1).symm (idx_lt hk129) rfl ?_
    rintro p128 _ rfl hp128
    refine S_v (r_load1 rfl underlying9 rfl hp128 (gz_le hH hL124)) rfl ?_
    refine S_pz 1 rfl ?_
    refine W_seq ?_
    refine W_p 1 rfl ?_
    refine S_v (r_sne rfl rfl) rfl ?_
    refine S_pu 1 rfl ?_
    refine S_split (s := 19) rfl (fun hg130 => ?_) (fun hg130 => ?_)
    ·replace h := Go.L.ite_n (not_dec_t hg130) h
     refine S_guarded rfl rfl hg130 ?_
     refine S_v (RunsAt_pu rfl) rfl ?_
     refine S_guarded rfl rfl hg130 ?_
     refine S_v (r_sne rfl rfl) rfl ?_
     refine S_v (r_pickT rfl hg130 rfl) rfl ?_
     refine S_pu 1 rfl ?_
     refine S_split (s := 23) rfl (fun hg132 => ?_) (fun hg132 => ?_)
     ·replace h := Go.L.ite_n (not_dec_t hg132) h
      refine S_guarded rfl rfl hg132 ?_
      refine S_v (RunsAt_pu rfl) rfl ?_
      refine S_guarded rfl rfl hg132 ?_
      refine S_v (r_sne rfl rfl) rfl ?_
      refine S_v (r_pickT rfl hg132 rfl) rfl ?_
      refine S_pu 1 rfl ?_
      refine S_split (s := 27) rfl (fun hg134 => ?_) (fun hg134 => ?_)
      ·replace h := Go.L.ite_n (not_dec_t hg134) h
       refine S_guarded rfl rfl hg134 ?_
       refine S_v (RunsAt_pu rfl) rfl ?_
       refine S_guarded rfl rfl hg134 ?_
       obtain ⟨x136, hb136, h⟩ := Go.L.bind_some h
       refine S_callL rfl rfl hL124 (value_Name_ok _ _ (gz_le hH hL124) hb136) ?_
       rintro _ w137 rfl hx137 hL137 hle137
       replace hf124_0 := hf124_0.mono (gz_mono hH hle137)
       refine S_guarded rfl rfl hg134 ?_
       refine S_v (RunsAt_pu rfl) rfl ?_
       refine S_v (r_pickT rfl hg134 rfl) rfl ?_
       refine S_seqnil ?_
       refine W_cond rfl (fun hc138 => ?_) (fun hc138 => ?_)
       ·replace h := Go.L.ite_t hc138 h
        refine W_p 1 rfl ?_
        obtain ⟨x140, hb140, h⟩ := Go.L.bind_some h
        refine S_callL rfl rfl hL137 (shapes_fault_ok _ _ (gz_le hH hL137) hb140) ?_
        rintro _ w141 rfl hx141 hL141 hle141
        refine S_storeBN 0 rfl rfl rfl zr23 hL141 rfl rfl (onc rfl (onc rfl on0)) ?_
        intro w142 hL142 hle142
        refine S_seqnil ?_
        refine W_ret ?_
        refine At_seq_ret ?_
        refine At_block_ret ?_
        refine At_seq_ret ?_
        refine At_loop_ret ?_
        replace h := Go.L.Nxt.out h hm124
        refine At_block_ret ?_
        refine At_cut_ret ?_
        obtain rfl := Option.some.inj h
        refine At_got1 rfl (.cell rfl underlying23 rfl zr23 (box_ptr (i := 0) hL142 rfl)) ?_
        exact ⟨hL142.ext, rfl⟩
       ·replace h := Go.L.ite_f hc138 h
        refine W_skip ?_
        refine At_seq ?_
        refine W_region ?_
        refine S_pu 2 rfl ?_
        refine S_v (r_lenS rfl underlying9) rfl ?_
        obtain ⟨hk144, h⟩ := Go.L.chk_some h
        refine S_v (r_ar64 rfl rfl rfl hk144) rfl ?_
        obtain ⟨hk145, h⟩ := Go.L.chk_some h
        refine S_v (r_ar64 rfl rfl rfl hk145) rfl ?_
        refine S_pu 1 rfl ?_
        refine S_nil ?_
        refine At_block ?_
        refine At_seq ?_
        refine W_region ?_
        obtain ⟨hk146, h⟩ := Go.L.chk_some h
        refine S_v (r_ar64 rfl rfl rfl hk146) rfl ?_
        refine S_pu 1 rfl ?_
        refine S_nil ?_
        have h := Go.L.Nxt.again h hm124
        refine At_round ((s3_122 + (((x85.getD s13_123.toNat default).length : Int) + (1 : Int))), (s13_123 + (1 : Int)), n124) (.cons rfl (.cons rfl (.cons rfl (.cons rfl (.cons rfl (Sub.nil _)))))) ⟨hL137, hf124_0, h⟩ (Nat.lt_succ_self _)
      ·replace h := Go.L.ite_p (not_dec_f hg134) h
       iterate 3 refine S_unwanted rfl rfl hg134 rfl ?_
       refine S_v (r_pickF rfl hg134 rfl) rfl ?_
       refine S_seqnil ?_
       refine W_false rfl ?_
       refine W_skip ?_
       refine At_seq ?_
       refine W_region ?_
       refine S_pu 2 rfl ?_
       refine S_v (r_lenS rfl underlying9) rfl ?_
       obtain ⟨hk148, h⟩ := Go.L.chk_some h
       refine S_v (r_ar64 rfl rfl rfl hk148) rfl ?_
       obtain ⟨hk149, h⟩ := Go.L.chk_some h
       refine S_v (r_ar64 rfl rfl rfl hk149) rfl ?_
       refine S_pu 1 rfl ?_
       refine S_nil ?_
       refine At_block ?_
       refine At_seq ?_
       refine W_region ?_
       obtain ⟨hk150, h⟩ := Go.L.chk_some h
       refine S_v (r_ar64 rfl rfl rfl hk150) rfl ?_
       refine S_pu 1 rfl ?_
       refine S_nil ?_
       have h := Go.L.Nxt.again h hm124
       refine At_round ((s3_122 + (((x85.getD s13_123.toNat default).length : Int) + (1 : Int))), (s13_123 + (1 : Int)), n124) (.cons rfl (.cons rfl (.cons rfl (.cons rfl (.cons rfl (Sub.nil _)))))) ⟨hL124, hf124_0, h⟩ (Nat.lt_succ_self _)
     ·replace h := Go.L.ite_p (not_dec_f hg132) h
      iterate 2 refine S_unwanted rfl rfl hg132 rfl ?_
      refine S_v (r_pickF rfl hg132 rfl) rfl ?_
      refine S_pu 1 rfl ?_
      iterate 3 refine S_unwanted rfl rfl rfl rfl ?_
      refine S_v (r_pickF rfl rfl rfl) rfl ?_
      refine S_seqnil ?_
      refine W_false rfl ?_
      refine W_skip ?_
      refine At_seq ?_
      refine W_region ?_
      refine S_pu 2 rfl ?_
      refine S_v (r_lenS rfl underlying9) rfl ?_
      obtain ⟨hk152, h⟩ := Go.L.chk_some h
      refine S_v (r_ar64 rfl rfl rfl hk152) rfl ?_
      obtain ⟨hk153, h⟩ := Go.L.chk_some h
      refine S_v (r_ar64 rfl rfl rfl hk153) rfl ?_
      refine S_pu 1 rfl ?_
      refine S_nil ?_
      refine At_block ?_
      refine At_seq ?_
      refine W_region ?_
      obtain ⟨hk154, h⟩ := Go.L.chk_some h
      refine S_v (r_ar64 rfl rfl rfl hk154) rfl ?_
      refine S_pu 1 rfl ?_
      refine S_nil ?_
      have h := Go.L.Nxt.again h hm124
      refine At_round ((s3_122 + (((x85.getD s13_123.toNat default).length : Int) + (1 : Int))), (s13_123 + (1 : Int)), n124) (.cons rfl (.cons rfl (.cons rfl (.cons rfl (.cons rfl (Sub.nil _)))))) ⟨hL124, hf124_0, h⟩ (Nat.lt_succ_self _)
    ·replace h := Go.L.ite_p (not_dec_f hg130) h
     iterate 2 refine S_unwanted rfl rfl hg130 rfl ?_
     refine S_v (r_pickF rfl hg130 rfl) rfl ?_
     refine S_pu 1 rfl ?_
     iterate 2 refine S_unwanted rfl rfl rfl rfl ?_
     refine S_v (r_pickF rfl rfl rfl) rfl ?_
     refine S_pu 1 rfl ?_
     iterate 3 refine S_unwanted rfl rfl rfl rfl ?_
     refine S_v (r_pickF rfl rfl rfl) rfl ?_
     refine S_seqnil ?_
     refine W_false rfl ?_
     refine W_skip ?_
     refine At_seq ?_
     refine W_region ?_
     refine S_pu 2 rfl ?_
     refine S_v (r_lenS rfl underlying9) rfl ?_
     obtain ⟨hk156, h⟩ := Go.L.chk_some h
     refine S_v (r_ar64 rfl rfl rfl hk156) rfl ?_
     obtain ⟨hk157, h⟩ := Go.L.chk_some h
     refine S_v (r_ar64 rfl rfl rfl hk157) rfl ?_
     refine S_pu 1 rfl ?_
     refine S_nil ?_
     refine At_block ?_
     refine At_seq ?_
     refine W_region ?_
     obtain ⟨hk158, h⟩ := Go.L.chk_some h
     refine S_v (r_ar64 rfl rfl rfl hk158) rfl ?_
     refine S_pu 1 rfl ?_
     refine S_nil ?_
     have h := Go.L.Nxt.again h hm124
     refine At_round ((s3_122 + (((x85.getD s13_123.toNat default).length : Int) + (1 : Int))), (s13_123 + (1 : Int)), n124) (.cons rfl (.cons rfl (.cons rfl (.cons rfl (.cons rfl (Sub.nil _)))))) ⟨hL124, hf124_0, h⟩ (Nat.lt_succ_self _)
   ·replace h := Go.L.ite_n hc126 h
    refine W_exit ?_
    refine At_seq_exit ?_
    refine At_loop_exit ?_
    replace h := Go.L.Nxt.out h hm124
    refine At_exit ?_
    refine At_cut () (.cons rfl (Sub.nil _)) ⟨hL124, h⟩
  ·rintro _ wr83 ⟨hL83, h⟩
   refine W_seqr ?_
   refine S_v (r_build rfl (fun _ => bld23_z _)) rfl ?_
   refine S_storeBN 0 rfl rfl rfl zr23 hL83 rfl rfl (onc rfl (onc rfl on0)) ?_
   intro w161 hL161 hle161
   refine S_seqnil ?_
   refine W_ret ?_
   obtain rfl := Option.some.inj h
   refine At_got1 rfl (.cell rfl underlying23 rfl zr23 (box_ptr (i := 0) hL161 rfl)) ?_
   exact ⟨hL161.ext, rfl⟩
noncomputable def shapes_isPath_1 (a0 : List UInt8) : Option (Bool) :=
 if a0 = ([35] : List UInt8) then some (false) else Option.bind (value_Name a0) (fun x3 => some (!x3))
theorem shapes_isPath_1_ok (w : World) (H : PH) (hH : Le H (hp w)) {a0 : List UInt8}   {r : Bool} (h : shapes_isPath_1 a0 = some r) :
  Ok Tryz.prog 81 [.string ⟨(a0).toArray⟩] w (fun v w' => Ext w w' ∧ v = .bool r) := by
 refine Ok_enter (n := 10) [(0, .string ⟨(a0).toArray⟩)] func81 rfl rfl rfl rfl rfl ?_
 have hL := Lcl.start w
 refine W_pz 1 rfl ?_
 refine W_p 1 rfl ?_
 refine S_v (r_sne rfl rfl) rfl ?_
 refine S_pu 1 rfl ?_
 refine S_split (s := 5) rfl (fun hg1 => ?_) (fun hg1 => ?_)
 ·replace h := Go.L.ite_n (not_dec_t hg1) h
  refine S_guarded rfl rfl hg1 ?_
  refine S_v (RunsAt_pu rfl) rfl ?_
  refine S_guarded rfl rfl hg1 ?_
  obtain ⟨x3, hb3, h⟩ := Go.L.bind_some h
  refine S_callL rfl rfl hL (value_Name_ok _ _ (gz_le hH hL) hb3) ?_
  rintro _ w4 rfl hx4 hL4 hle4
  refine S_guarded rfl rfl hg1 ?_
  refine S_v (RunsAt_pu rfl) rfl ?_
  refine S_v (r_pickT rfl hg1 rfl) rfl ?_
  refine S_pz 1 rfl ?_
  refine W_ret ?_
  obtain rfl := Option.some.inj h
  refine At_body rfl rfl ?_
  exact ⟨hL4.ext, rfl⟩
 ·replace h := Go.L.ite_p (not_dec_f hg1) h
  iterate 3 refine S_unwanted rfl rfl hg1 rfl ?_
  refine S_v (r_pickF rfl hg1 rfl) rfl ?_
  refine S_pz 1 rfl ?_
  refine W_ret ?_
  obtain rfl := Option.some.inj h
  refine At_body rfl rfl ?_
  exact ⟨hL.ext, rfl⟩
noncomputable def value_checkNode_2 (a0 : List UInt8) : Option (Bool) :=
 Option.bind (value_Name a0) (fun x1 => some (!x1))
theorem value_checkNode_2_ok (w : World) (H : PH) (hH : Le H (hp w)) {a0 : List UInt8}   {r : Bool} (h : value_checkNode_2 a0 = some r) :
  Ok Tryz.prog 154 [.string ⟨(a0).toArray⟩] w (fun v w' => Ext w w' ∧ v = .bool r) := by
 refine Ok_enter (n := 6) [(0, .string ⟨(a0).toArray⟩)] func154 rfl rfl rfl rfl rfl ?_
 have hL := Lcl.start w
 refine W_pz 1 rfl ?_
 refine W_p 1 rfl ?_
 obtain ⟨x1, hb1, h⟩ := Go.L.bind_some h
 refine S_callL rfl rfl hL (value_Name_ok _ _ (gz_le hH hL) hb1) ?_
 rintro _ w2 rfl hx2 hL2 hle2
 refine S_pz 2 rfl ?_
 refine W_ret ?_
 obtain rfl := Option.some.inj h
 refine At_body rfl rfl ?_
 exact ⟨hL2.ext, rfl⟩
noncomputable def shapes_matches_1 (a0 : List UInt8) (a1 : List UInt8) : Option (Bool) :=
 if a0 = ([42, 42] : List UInt8) then some (decide (a1 = ([42, 42] : List UInt8))) else some (false)
theorem shapes_matches_1_ok (w : World) (H : PH) (_hH : Le H (hp w)) {a0 : List UInt8} {a1 : List UInt8}   {r : Bool} (h : shapes_matches_1 a0 a1 = some r) :
  Ok Tryz.prog 83 [.string ⟨(a0).toArray⟩, .string ⟨(a1).toArray⟩] w (fun v w' => Ext w w' ∧ v = .bool r) := by
 refine Ok_enter (n := 11) [(0, .string ⟨(a0).toArray⟩), (1, .string ⟨(a1).toArray⟩)] func83 rfl rfl rfl rfl rfl ?_
 have hL := Lcl.start w
 refine W_pz 1 rfl ?_
 refine W_p 1 rfl ?_
 refine S_v (r_seq rfl rfl) rfl ?_
 refine S_pu 1 rfl ?_
 refine S_split (s := 7) rfl (fun hg1 => ?_) (fun hg1 => ?_)
 ·replace h := Go.L.ite_p (of_decide_eq_true hg1) h
  refine S_guarded rfl rfl hg1 ?_
  refine S_v (RunsAt_pu rfl) rfl ?_
  refine S_guarded rfl rfl hg1 ?_
  refine S_v (r_seq rfl rfl) rfl ?_
  refine S_v (r_pickT rfl hg1 rfl) rfl ?_
  refine S_pz 1 rfl ?_
  refine W_ret ?_
  obtain rfl := Option.some.inj h
  refine At_body rfl rfl ?_
  exact ⟨hL.ext, rfl⟩
 ·replace h := Go.L.ite_n (of_decide_eq_false hg1) h
  iterate 2 refine S_unwanted rfl rfl hg1 rfl ?_
  refine S_v (r_pickF rfl hg1 rfl) rfl ?_
  refine S_pz 1 rfl ?_
  refine W_ret ?_
  obtain rfl := Option.some.inj h
  refine At_body rfl rfl ?_
  exact ⟨hL.ext, rfl⟩
noncomputable def shapes_match_body_k2 : Option (Bool) :=
 some (false)
noncomputable def shapes_match_body_bl3 (a0 : List (List UInt8)) (a1 : List (List UInt8)) (self : (List (List UInt8)) → (List (List UInt8)) → Option (Bool)) : Int → Option ((Int) ⊕ (Bool)) := fun s19_79 =>
 if s19_79 < ((a1.length : Int) + (1 : Int)) then Go.L.chk (0 ≤ (1 : Int) ∧ (1 : Int) ≤ (a0.length : Int)) (Go.L.chk (0 ≤ s19_79 ∧ s19_79 ≤ (a1.length : Int)) (Option.bind (self (a0.drop (1 : Int).toNat) (a1.drop s19_79.toNat)) (fun x90 => if x90 then Option.map Sum.inr (some (true)) else Go.L.chk (Go.L.I64 (s19_79 + (1 : Int))) (some (Sum.inl (s19_79 + (1 : Int))))))) else Option.map Sum.inr (shapes_match_body_k2)
noncomputable def shapes_match_body_l3 (a0 : List (List UInt8)) (a1 : List (List UInt8)) (self : (List (List UInt8)) → (List (List UInt8)) → Option (Bool)) (s : Int) : Option (Bool) := Go.L.run (shapes_match_body_bl3 a0 a1 self) s
noncomputable def shapes_match_body_k1 (a0 : List (List UInt8)) (a1 : List (List UInt8)) (self : (List (List UInt8)) → (List (List UInt8)) → Option (Bool)) : Option (Bool) :=
 if (0 : Int) < (a1.length : Int) then Go.L.chk (0 ≤ (0 : Int) ∧ (0 : Int) < (a0.length : Int)) (if a0.getD ((0 : Int).toNat) default = ([42] : List UInt8) then Go.L.chk (0 ≤ (1 : Int) ∧ (1 : Int) ≤ (a0.length : Int)) (Go.L.chk (0 ≤ (1 : Int) ∧ (1 : Int) ≤ (a1.length : Int)) (Option.bind (self (a0.drop (1 : Int).toNat) (a1.drop (1 : Int).toNat)) (fun x114 => some (x114)))) else Go.L.chk (0 ≤ (0 : Int) ∧ (0 : Int) < (a0.length : Int)) (Go.L.chk (0 ≤ (0 : Int) ∧ (0 : Int) < (a1.length : Int)) (if a0.getD ((0 : Int).toNat) default = a1.getD ((0 : Int).toNat) default then Go.L.chk (0 ≤ (1 : Int) ∧ (1 : Int) ≤ (a0.length : Int)) (Go.L.chk (0 ≤ (1 : Int) ∧ (1 : Int) ≤ (a1.length : Int)) (Option.bind (self (a0.drop (1 : Int).toNat) (a1.drop (1 : Int).toNat)) (fun x129 => some (x129)))) else some (false)))) else some (false)
noncomputable def shapes_match_body (self : (List (List UInt8)) → (List (List UInt8)) → Option (Bool)) (a0 : List (List UInt8)) (a1 : List (List UInt8)) : Option (Bool) :=
 if (a0.length : Int) = (0 : Int) then some (decide ((a1.length : Int) = (0 : Int))) else Go.L.chk (0 ≤ (0 : Int) ∧ (0 : Int) < (a0.length : Int)) (if a0.getD ((0 : Int).toNat) default = ([42, 42] : List UInt8) then Go.L.chk (Go.L.I64 ((a1.length : Int) + (1 : Int))) ((shapes_match_body_l3 a0 a1 self) (0 : Int)) else (shapes_match_body_k1 a0 a1 self))
noncomputable def shapes_match_n : Nat → (List (List UInt8)) → (List (List UInt8)) → Option (Bool)
 | 0 => fun _ _ => none
 | n + 1 => shapes_match_body (shapes_match_n n)
noncomputable def shapes_match : (List (List UInt8)) → (List (List UInt8)) → Option (Bool) := shapes_match_n 1000
theorem shapes_match_body_ok (self : (List (List UInt8)) → (List (List UInt8)) → Option (Bool)) (hself : ∀ (w : World) (H : PH) (hH : Le H (hp w)) {a0 : List (List UInt8)} {a1 : List (List UInt8)} {v0_0 : Value} {v1_0 : Value} (h0_0 : Vec .st H v0_0 (a0)) (h1_0 : Vec .st H v1_0 (a1)) {r : Bool} (h : self a0 a1 = some r), Ok Tryz.prog 84 [v0_0, v1_0] w (fun v w' => Ext w w' ∧ v = .bool r)) (w : World) (H : PH) (hH : Le H (hp w)) {a0 : List (List UInt8)} {a1 : List (List UInt8)} {v0_0 : Value} {v1_0 : Value} (h0_0 : Vec .st H v0_0 (a0)) (h1_0 : Vec .st H v1_0 (a1)) {r : Bool} (h : shapes_match_body self a0 a1 = some r) :
  Ok Tryz.prog 84 [v0_0, v1_0] w (fun v w' => Ext w w' ∧ v = .bool r) := by
 refine Ok_enter (n := 54) [(0, v0_0), (1, v1_0)] func84 rfl rfl rfl rfl rfl ?_
 have hL := Lcl.start w
 refine W_pz 1 rfl ?_
 refine W_seq ?_
 refine W_p 1 rfl ?_
 refine S_v (r_len rfl underlying30 h0_0) rfl ?_
 refine S_pz 1 rfl ?_
 refine W_if rfl (fun hc1 => ?_) (fun hc1 => ?_)
 ·replace h := Go.L.ite_p hc1 h
  refine W_p 1 rfl ?_
  refine S_v (r_len rfl underlying30 h1_0) rfl ?_
  refine S_pz 2 rfl ?_
  refine W_ret ?_
  refine At_seq_ret ?_
  obtain rfl := Option.some.inj h
  refine At_body rfl rfl ?_
  exact ⟨hL.ext, rfl⟩
 ·replace h := Go.L.ite_n hc1 h
  refine W_skip ?_
  refine At_seq ?_
  refine W_cut (σ := Unit) (fun (_ : Unit) => [(0, v0_0), (1, v1_0)]) (fun (_ : Unit) wr => Lcl w [] wr ∧ (shapes_match_body_k1 a0 a1 self) = some r) ?_ ?_
  ·refine W_p 1 rfl ?_
   obtain ⟨hk34, h⟩ := Go.L.chk_some h
   refine S_index rfl rfl underlying30 zr9 h0_0 ((0 : Int).toNat) (Int.toNat_of_nonneg hk34.1).symm (idx_lt hk34) rfl ?_
   rintro p33 _ rfl hp33
   refine S_v (r_load1 rfl underlying9 rfl hp33 (hH.trans hL.arg)) rfl ?_
   refine S_v (r_seq rfl rfl) rfl ?_
   refine S_seqnil ?_
   refine W_if rfl (fun hc35 => ?_) (fun hc35 => ?_)
   ·replace h := Go.L.ite_p hc35 h
    refine W_cut (σ := Unit) (fun (_ : Unit) => []) (fun (_ : Unit) wr => Lcl w [] wr ∧ shapes_match_body_k2 = some r) ?_ ?_
    ·refine W_p 1 rfl ?_
     refine S_v (r_len rfl underlying30 h1_0) rfl ?_
     obtain ⟨hk60, h⟩ := Go.L.chk_some h
     refine S_v (r_ar64 rfl rfl rfl hk60) rfl ?_
     refine S_pz 1 rfl ?_
     refine W_block ?_
     obtain ⟨n80, h⟩ := Go.L.run_some h
     refine W_loop (σ := Int × Nat) (fun ⟨s19_79, n⟩ => [(0, v0_0), (1, v1_0), (18, .int .i64 ((a1.length : Int) + (1 : Int))), (19, .int .i64 s19_79)]) (fun ⟨s19_79, n⟩ wr => Lcl w [] wr ∧ Go.L.itr (shapes_match_body_bl3 a0 a1 self) n s19_79 = some r) (fun ⟨s19_79, n⟩ => n) ((0 : Int), n80) (.cons rfl (.cons rfl (.cons rfl (.cons rfl (Sub.nil _))))) ⟨hL, h⟩ ?_
     rintro ⟨s19_79, nn80⟩ wr80 ⟨hL80, h⟩
     obtain ⟨n80, e80, rfl, h, hm80⟩ := Go.L.itr_some h
     refine W_pz 1 rfl ?_
     refine W_seq ?_
     refine W_if rfl (fun hc82 => ?_) (fun hc82 => ?_)
     ·replace h := Go.L.ite_p hc82 h
      refine W_skip ?_
      refine At_seq ?_
      refine W_seq ?_
      refine W_block ?_
      refine W_pz 2 rfl ?_
      refine W_seqd (.q 0 (.q 1 (.q 2 (.q 3 (.q 4 (.q 5 (.tail 6))))))) mixed (by kernel_rfl) (fun w84 hx84 => ?_)
      have hL85 := hL80.call hx84
      refine D_pu 1 rfl ?_
      obtain ⟨hk87, h⟩ := Go.L.chk_some h
      refine D_sliceL rfl rfl rfl underlying30 zr9 h0_0 hk87 rfl ?_
      intro v86 hv86
      refine D_pu 2 rfl ?_
      obtain ⟨hk89, h⟩ := Go.L.chk_some h
      refine D_sliceL rfl rfl rfl underlying30 zr9 h1_0 hk89 rfl ?_
      intro v88 hv88
      obtain ⟨x90, hb90, h⟩ := Go.L.bind_some h
      refine D_call rfl rfl rfl (fun w91 hx91 => hself _ _ (Le.refl _) ((hv86.mono (hH.trans hL85.arg)).mono hx91.le) ((hv88.mono (hH.trans hL85.arg)).mono hx91.le) hb90) ?_
      refine D_tail (fun w92 hx92 => ?_)
      have hL93 := hL85.call hx92
      refine S_seqnil ?_
      refine W_cond rfl (fun hc94 => ?_) (fun hc94 => ?_)
      ·replace h := Go.L.ite_t hc94 h
       refine W_pz 1 rfl ?_
       refine W_ret ?_
       refine At_block_ret ?_
       refine At_seq_ret ?_
       refine At_loop_ret ?_
       replace h := Go.L.Nxt.out h hm80
       refine At_block_ret ?_
       iterate 2 refine At_cut_ret ?_
       obtain rfl := Option.some.inj h
       refine At_body rfl rfl ?_
       exact ⟨hL93.ext, rfl⟩
      ·replace h := Go.L.ite_f hc94 h
       refine W_skip ?_
       refine At_block ?_
       refine At_seq ?_
       refine W_region ?_
       obtain ⟨hk97, h⟩ := Go.L.chk_some h
       refine S_v (r_ar64 rfl rfl rfl hk97) rfl ?_
       refine S_pu 1 rfl ?_
       refine S_nil ?_
       have h := Go.L.Nxt.again h hm80
       refine At_round ((s19_79 + (1 : Int)), n80) (.cons rfl (.cons rfl (.cons rfl (.cons rfl (Sub.nil _))))) ⟨hL93, h⟩ (Nat.lt_succ_self _)
     ·replace h := Go.L.ite_n hc82 h
      refine W_exit ?_
      refine At_seq_exit ?_
      refine At_loop_exit ?_
      replace h := Go.L.Nxt.out h hm80
      refine At_exit ?_
      refine At_cut () (Sub.nil _) ⟨hL80, h⟩
    ·rintro _ wr58 ⟨hL58, h⟩
     refine W_pz 1 rfl ?_
     refine W_ret ?_
     refine At_cut_ret ?_
     obtain rfl := Option.some.inj h
     refine At_body rfl rfl ?_
     exact ⟨hL58.ext, rfl⟩
   ·replace h := Go.L.ite_n hc35 h
    refine W_skip ?_
    refine At_cut () (.cons rfl (.cons rfl (Sub.nil _))) ⟨hL, h⟩
  ·rintro _ wr31 ⟨hL31, h⟩
   refine W_seqd (.q 0 (.q 1 (.q 2 (.q 3 (.q 4 (.q 5 (.q 6 (.q 7 (.q 8 (.q 9 (.q 10 (.q 11 (.q 12 (.q 13 (.q 14 (.q 15 (.q 16 (.q 17 (.q 18 (.q 19 (.q 20 (.q 21 (.q 22 (.q 23 (.q 24 (.q 25 (.tail 26))))))))))))))))))))))))))) mixed (by kernel_rfl) (fun w102 hx102 => ?_)
   have hL103 := hL31.call hx102
   refine D_pu 1 rfl ?_
   refine D_v (r_len rfl underlying30 h1_0) rfl rfl ?_
   refine D_pu 2 rfl ?_
   refine D_split (s := 32) rfl (fun hg104 => ?_) (fun hg104 => ?_)
   ·replace h := Go.L.ite_p (of_decide_eq_true hg104) h
    refine D_vg (RunsAt_pu rfl) rfl rfl rfl rfl hg104 rfl ?_
    obtain ⟨hk107, h⟩ := Go.L.chk_some h
    refine D_indexg rfl rfl rfl rfl hg104 rfl rfl underlying30 zr9 h0_0 ((0 : Int).toNat) (Int.toNat_of_nonneg hk107.1).symm (idx_lt hk107) rfl ?_
    rintro p106 _ rfl hp106
    refine D_vg (r_load1 rfl underlying9 rfl hp106 (hH.trans hL103.arg)) rfl rfl rfl rfl hg104 rfl ?_
    refine D_vg (r_seq rfl rfl) rfl rfl rfl rfl hg104 rfl ?_
    refine D_vg (RunsAt_pu rfl) rfl rfl rfl rfl hg104 rfl ?_
    refine D_split (s := 37) rfl (fun hg108 => ?_) (fun hg108 => ?_)
    ·replace h := Go.L.ite_p (of_decide_eq_true hg108) h
     iterate 7 refine D_no rfl rfl rfl rfl hg108 rfl ?_
     refine D_vg (r_pickT rfl hg108 rfl) rfl rfl rfl rfl hg104 rfl ?_
     refine D_v (r_pickT rfl hg104 rfl) rfl rfl ?_
     refine D_pu 1 rfl ?_
     refine D_vg (RunsAt_pu rfl) rfl rfl rfl rfl rfl rfl ?_
     obtain ⟨hk111, h⟩ := Go.L.chk_some h
     refine D_sliceLg rfl rfl rfl rfl rfl rfl rfl underlying30 zr9 h0_0 hk111 rfl ?_
     intro v110 hv110
     refine D_vg (RunsAt_pu rfl) rfl rfl rfl rfl rfl rfl ?_
     obtain ⟨hk113, h⟩ := Go.L.chk_some h
     refine D_sliceLg rfl rfl rfl rfl rfl rfl rfl underlying30 zr9 h1_0 hk113 rfl ?_
     intro v112 hv112
     obtain ⟨x114, hb114, h⟩ := Go.L.bind_some h
     refine D_callg rfl rfl rfl rfl rfl rfl rfl (fun w115 hx115 => hself _ _ (Le.refl _) ((hv110.mono (hH.trans hL103.arg)).mono hx115.le) ((hv112.mono (hH.trans hL103.arg)).mono hx115.le) hb114) ?_
     refine D_v (r_pickT rfl rfl rfl) rfl rfl ?_
     refine D_pu 1 rfl ?_
     refine D_tail (fun w116 hx116 => ?_)
     have hL117 := hL103.call hx116
     refine S_seqnil ?_
     refine W_ret ?_
     obtain rfl := Option.some.inj h
     refine At_body rfl rfl ?_
     exact ⟨hL117.ext, rfl⟩
    ·replace h := Go.L.ite_n (of_decide_eq_false hg108) h
     refine D_vg (RunsAt_pu rfl) rfl rfl rfl rfl hg108 rfl ?_
     obtain ⟨hk120, h⟩ := Go.L.chk_some h
     refine D_indexg rfl rfl rfl rfl hg108 rfl rfl underlying30 zr9 h0_0 ((0 : Int).toNat) (Int.toNat_of_nonneg hk120.1).symm (idx_lt hk120) rfl ?_
     rintro p119 _ rfl hp119
     refine D_vg (r_load1 rfl underlying9 rfl hp119 (hH.trans hL103.arg)) rfl rfl rfl rfl hg108 rfl ?_
     refine D_vg (RunsAt_pu rfl) rfl rfl rfl rfl hg108 rfl ?_
     obtain ⟨hk122, h⟩ := Go.L.chk_some h
     refine D_indexg rfl rfl rfl rfl hg108 rfl rfl underlying30 zr9 h1_0 ((0 : Int).toNat) (Int.toNat_of_nonneg hk122.1).symm (idx_lt hk122) rfl ?_
     rintro p121 _ rfl hp121
     refine D_vg (r_load1 rfl underlying9 rfl hp121 (hH.trans hL103.arg)) rfl rfl rfl rfl hg108 rfl ?_
     refine D_vg (r_seq rfl rfl) rfl rfl rfl rfl hg108 rfl ?_
     refine D_vg (r_pickF rfl hg108 rfl) rfl rfl rfl rfl hg104 rfl ?_
     refine D_v (r_pickT rfl hg104 rfl) rfl rfl ?_
     refine D_pu 1 rfl ?_
     refine D_split (s := 47) rfl (fun hg123 => ?_) (fun hg123 => ?_)
     ·replace h := Go.L.ite_p (of_decide_eq_true hg123) h
      refine D_vg (RunsAt_pu rfl) rfl rfl rfl rfl hg123 rfl ?_
      obtain ⟨hk126, h⟩ := Go.L.chk_some h
      refine D_sliceLg rfl rfl rfl rfl hg123 rfl rfl underlying30 zr9 h0_0 hk126 rfl ?_
      intro v125 hv125
      refine D_vg (RunsAt_pu rfl) rfl rfl rfl rfl hg123 rfl ?_
      obtain ⟨hk128, h⟩ := Go.L.chk_some h
      refine D_sliceLg rfl rfl rfl rfl hg123 rfl rfl underlying30 zr9 h1_0 hk128 rfl ?_
      intro v127 hv127
      obtain ⟨x129, hb129, h⟩ := Go.L.bind_some h
      refine D_callg rfl rfl rfl rfl hg123 rfl rfl (fun w130 hx130 => hself _ _ (Le.refl _) ((hv125.mono (hH.trans hL103.arg)).mono hx130.le) ((hv127.mono (hH.trans hL103.arg)).mono hx130.le) hb129) ?_
      refine D_v (r_pickT rfl hg123 rfl) rfl rfl ?_
      refine D_pu 1 rfl ?_
      refine D_tail (fun w131 hx131 => ?_)
      have hL132 := hL103.call hx131
      refine S_seqnil ?_
      refine W_ret ?_
      obtain rfl := Option.some.inj h
      refine At_body rfl rfl ?_
      exact ⟨hL132.ext, rfl⟩
     ·replace h := Go.L.ite_n (of_decide_eq_false hg123) h
      iterate 5 refine D_no rfl rfl rfl rfl hg123 rfl ?_
      refine D_v (r_pickF rfl hg123 rfl) rfl rfl ?_
      refine D_pu 1 rfl ?_
      refine D_tail (fun w134 hx134 => ?_)
      have hL135 := hL103.call hx134
      refine S_seqnil ?_
      refine W_ret ?_
      obtain rfl := Option.some.inj h
      refine At_body rfl rfl ?_
      exact ⟨hL135.ext, rfl⟩
   ·replace h := Go.L.ite_n (of_decide_eq_false hg104) h
    iterate 5 refine D_no rfl rfl rfl rfl hg104 rfl ?_
    iterate 7 refine D_no2 rfl rfl rfl rfl rfl ?_
    refine D_no rfl rfl rfl rfl hg104 rfl ?_
    refine D_v (r_pickF rfl hg104 rfl) rfl rfl ?_
    refine D_pu 1 rfl ?_
    iterate 5 refine D_no rfl rfl rfl rfl rfl rfl ?_
    refine D_v (r_pickF rfl rfl rfl) rfl rfl ?_
    refine D_pu 1 rfl ?_
    refine D_tail (fun w137 hx137 => ?_)
    have hL138 := hL103.call hx137
    refine S_seqnil ?_
    refine W_ret ?_
    obtain rfl := Option.some.inj h
    refine At_body rfl rfl ?_
    exact ⟨hL138.ext, rfl⟩
theorem shapes_match_n_ok (n : Nat) : ∀ (w : World) (H : PH) (hH : Le H (hp w)) {a0 : List (List UInt8)} {a1 : List (List UInt8)} {v0_0 : Value} {v1_0 : Value} (h0_0 : Vec .st H v0_0 (a0)) (h1_0 : Vec .st H v1_0 (a1)) {r : Bool} (h : shapes_match_n n a0 a1 = some r), Ok Tryz.prog 84 [v0_0, v1_0] w (fun v w' => Ext w w' ∧ v = .bool r) := by
 induction n with
 | zero => intros; rename_i h; cases h
 | succ n ih => exact @shapes_match_body_ok (shapes_match_n n) ih
theorem shapes_match_ok (w : World) (H : PH) (hH : Le H (hp w)) {a0 : List (List UInt8)} {a1 : List (List UInt8)} {v0_0 : Value} {v1_0 : Value} (h0_0 : Vec .st H v0_0 (a0)) (h1_0 : Vec .st H v1_0 (a1)) {r : Bool} (h : shapes_match a0 a1 = some r) : Ok Tryz.prog 84 [v0_0, v1_0] w (fun v w' => Ext w w' ∧ v = .bool r) := shapes_match_n_ok 1000 w H hH h0_0 h1_0 h
noncomputable def idxf_isPath_1_k1 : Option (Int) :=
 some ((-1 : Int))
noncomputable def idxf_isPath_1_bl2 (a0 : List (List UInt8)) : Int → Option ((Int) ⊕ (Int)) := fun s8_29 =>
 if s8_29 < (a0.length : Int) then Go.L.chk (0 ≤ s8_29 ∧ s8_29 < (a0.length : Int)) (Option.bind (shapes_isPath_1 (a0.getD s8_29.toNat default)) (fun x36 => if x36 then Option.map Sum.inr (some (s8_29)) else Go.L.chk (Go.L.I64 (s8_29 + (1 : Int))) (some (Sum.inl (s8_29 + (1 : Int)))))) else Option.map Sum.inr (idxf_isPath_1_k1)
noncomputable def idxf_isPath_1_l2 (a0 : List (List UInt8)) (s : Int) : Option (Int) := Go.L.run (idxf_isPath_1_bl2 a0) s
noncomputable def idxf_isPath_1 (a0 : List (List UInt8)) : Option (Int) :=
 (idxf_isPath_1_l2 a0) (0 : Int)
theorem idxf_isPath_1_ok (w : World) (H : PH) (hH : Le H (hp w)) {a0 : List (List UInt8)} {v0_0 : Value} (h0_0 : Vec .st H v0_0 (a0)) {r : Int} (h : idxf_isPath_1 a0 = some r) :
  Ok Tryz.prog 112 [v0_0, .func (.func 81) #[] #[]] w (fun v w' => Ext w w' ∧ v = .int .i64 r) := by
 refine Ok_enter (n := 19) [(0, v0_0), (1, .func (.func 81) #[] #[])] func112 rfl rfl rfl rfl rfl ?_
 have hL := Lcl.start w
 refine W_pz 1 rfl ?_
 refine W_cut (σ := Unit) (fun (_ : Unit) => []) (fun (_ : Unit) wr => Lcl w [] wr ∧ idxf_isPath_1_k1 = some r) ?_ ?_
 ·refine W_p 1 rfl ?_
  refine S_v (r_len rfl underlying30 h0_0) rfl ?_
  refine S_pz 1 rfl ?_
  refine W_block ?_
  obtain ⟨n30, h⟩ := Go.L.run_some h
  refine W_loop (σ := Int × Nat) (fun ⟨s8_29, n⟩ => [(0, v0_0), (1, .func (.func 81) #[] #[]), (7, .int .i64 (a0.length : Int)), (8, .int .i64 s8_29)]) (fun ⟨s8_29, n⟩ wr => Lcl w [] wr ∧ Go.L.itr (idxf_isPath_1_bl2 a0) n s8_29 = some r) (fun ⟨s8_29, n⟩ => n) ((0 : Int), n30) (.cons rfl (.cons rfl (.cons rfl (.cons rfl (Sub.nil _))))) ⟨hL, h⟩ ?_
  rintro ⟨s8_29, nn30⟩ wr30 ⟨hL30, h⟩
  obtain ⟨n30, e30, rfl, h, hm30⟩ := Go.L.itr_some h
  refine W_pz 1 rfl ?_
  refine W_seq ?_
  refine W_if rfl (fun hc32 => ?_) (fun hc32 => ?_)
  ·replace h := Go.L.ite_p hc32 h
   refine W_skip ?_
   refine At_seq ?_
   refine W_seq ?_
   refine W_block ?_
   refine W_pz 2 rfl ?_
   refine W_p 3 rfl ?_
   obtain ⟨hk35, h⟩ := Go.L.chk_some h
   refine S_index rfl rfl underlying30 zr9 h0_0 s8_29.toNat (Int.toNat_of_nonneg hk35.1).symm (idx_lt hk35) rfl ?_
   rintro p34 _ rfl hp34
   refine S_v (r_load1 rfl underlying9 rfl hp34 (hH.trans hL30.arg)) rfl ?_
   obtain ⟨x36, hb36, h⟩ := Go.L.bind_some h
   refine S_callwL rfl rfl rfl hL30 (shapes_isPath_1_ok _ _ (gz_le hH hL30) hb36) ?_
   rintro _ w37 rfl hx37 hL37 hle37
   refine S_seqnil ?_
   refine W_cond rfl (fun hc38 => ?_) (fun hc38 => ?_)
   ·replace h := Go.L.ite_t hc38 h
    refine W_pz 2 rfl ?_
    refine W_ret ?_
    refine At_block_ret ?_
    refine At_seq_ret ?_
    refine At_loop_ret ?_
    replace h := Go.L.Nxt.out h hm30
    refine At_block_ret ?_
    refine At_cut_ret ?_
    obtain rfl := Option.some.inj h
    refine At_body rfl rfl ?_
    exact ⟨hL37.ext, rfl⟩
   ·replace h := Go.L.ite_f hc38 h
    refine W_skip ?_
    refine At_block ?_
    refine At_seq ?_
    refine W_region ?_
    obtain ⟨hk41, h⟩ := Go.L.chk_some h
    refine S_v (r_ar64 rfl rfl rfl hk41) rfl ?_
    refine S_pu 1 rfl ?_
    refine S_nil ?_
    have h := Go.L.Nxt.again h hm30
    refine At_round ((s8_29 + (1 : Int)), n30) (.cons rfl (.cons rfl (.cons rfl (.cons rfl (Sub.nil _))))) ⟨hL37, h⟩ (Nat.lt_succ_self _)
  ·replace h := Go.L.ite_n hc32 h
   refine W_exit ?_
   refine At_seq_exit ?_
   refine At_loop_exit ?_
   replace h := Go.L.Nxt.out h hm30
   refine At_exit ?_
   refine At_cut () (Sub.nil _) ⟨hL30, h⟩
 ·rintro _ wr15 ⟨hL15, h⟩
  refine W_pz 1 rfl ?_
  refine W_ret ?_
  obtain rfl := Option.some.inj h
  refine At_body rfl rfl ?_
  exact ⟨hL15.ext, rfl⟩
noncomputable def conf_isPath_1 (a0 : List (List UInt8)) : Option (Bool) :=
 Option.bind (idxf_isPath_1 a0) (fun x1 => some (decide ((0 : Int) ≤ x1)))
theorem conf_isPath_1_ok (w : World) (H : PH) (hH : Le H (hp w)) {a0 : List (List UInt8)} {v0_0 : Value} (h0_0 : Vec .st H v0_0 (a0)) {r : Bool} (h : conf_isPath_1 a0 = some r) :
  Ok Tryz.prog 80 [v0_0, .func (.func 81) #[] #[]] w (fun v w' => Ext w w' ∧ v = .bool r) := by
 refine Ok_enter (n := 9) [(0, v0_0), (1, .func (.func 81) #[] #[])] func80 rfl rfl rfl rfl rfl ?_
 have hL := Lcl.start w
 refine W_pz 1 rfl ?_
 refine W_p 2 rfl ?_
 obtain ⟨x1, hb1, h⟩ := Go.L.bind_some h
 refine S_callL rfl rfl hL (idxf_isPath_1_ok _ _ (gz_le hH hL) (h0_0.mono (gz_left hH)) hb1) ?_
 rintro _ w2 rfl hx2 hL2 hle2
 refine S_pz 2 rfl ?_
 refine W_ret ?_
 obtain rfl := Option.some.inj h
 refine At_body rfl rfl ?_
 exact ⟨hL2.ext, rfl⟩
noncomputable def idxf_checkNode_2_k1 : Option (Int) :=
 some ((-1 : Int))
noncomputable def idxf_checkNode_2_bl2 (a0 : List (List UInt8)) : Int → Option ((Int) ⊕ (Int)) := fun s8_29 =>
 if s8_29 < (a0.length : Int) then Go.L.chk (0 ≤ s8_29 ∧ s8_29 < (a0.length : Int)) (Option.bind (value_checkNode_2 (a0.getD s8_29.toNat default)) (fun x36 => if x36 then Option.map Sum.inr (some (s8_29)) else Go.L.chk (Go.L.I64 (s8_29 + (1 : Int))) (some (Sum.inl (s8_29 + (1 : Int)))))) else Option.map Sum.inr (idxf_checkNode_2_k1)
noncomputable def idxf_checkNode_2_l2 (a0 : List (List UInt8)) (s : Int) : Option (Int) := Go.L.run (idxf_checkNode_2_bl2 a0) s
noncomputable def idxf_checkNode_2 (a0 : List (List UInt8)) : Option (Int) :=
 (idxf_checkNode_2_l2 a0) (0 : Int)
theorem idxf_checkNode_2_ok (w : World) (H : PH) (hH : Le H (hp w)) {a0 : List (List UInt8)} {v0_0 : Value} (h0_0 : Vec .st H v0_0 (a0)) {r : Int} (h : idxf_checkNode_2 a0 = some r) :
  Ok Tryz.prog 112 [v0_0, .func (.func 154) #[] #[]] w (fun v w' => Ext w w' ∧ v = .int .i64 r) := by
 refine Ok_enter (n := 19) [(0, v0_0), (1, .func (.func 154) #[] #[])] func112 rfl rfl rfl rfl rfl ?_
 have hL := Lcl.start w
 refine W_pz 1 rfl ?_
 refine W_cut (σ := Unit) (fun (_ : Unit) => []) (fun (_ : Unit) wr => Lcl w [] wr ∧ idxf_checkNode_2_k1 = some r) ?_ ?_
 ·refine W_p 1 rfl ?_
  refine S_v (r_len rfl underlying30 h0_0) rfl ?_
  refine S_pz 1 rfl ?_
  refine W_block ?_
  obtain ⟨n30, h⟩ := Go.L.run_some h
  refine W_loop (σ := Int × Nat) (fun ⟨s8_29, n⟩ => [(0, v0_0), (1, .func (.func 154) #[] #[]), (7, .int .i64 (a0.length : Int)), (8, .int .i64 s8_29)]) (fun ⟨s8_29, n⟩ wr => Lcl w [] wr ∧ Go.L.itr (idxf_checkNode_2_bl2 a0) n s8_29 = some r) (fun ⟨s8_29, n⟩ => n) ((0 : Int), n30) (.cons rfl (.cons rfl (.cons rfl (.cons rfl (Sub.nil _))))) ⟨hL, h⟩ ?_
  rintro ⟨s8_29, nn30⟩ wr30 ⟨hL30, h⟩
  obtain ⟨n30, e30, rfl, h, hm30⟩ := Go.L.itr_some h
  refine W_pz 1 rfl ?_
  refine W_seq ?_
  refine W_if rfl (fun hc32 => ?_) (fun hc32 => ?_)
  ·replace h := Go.L.ite_p hc32 h
   refine W_skip ?_
   refine At_seq ?_
   refine W_seq ?_
   refine W_block ?_
   refine W_pz 2 rfl ?_
   refine W_p 3 rfl ?_
   obtain ⟨hk35, h⟩ := Go.L.chk_some h
   refine S_index rfl rfl underlying30 zr9 h0_0 s8_29.toNat (Int.toNat_of_nonneg hk35.1).symm (idx_lt hk35) rfl ?_
   rintro p34 _ rfl hp34
   refine S_v (r_load1 rfl underlying9 rfl hp34 (hH.trans hL30.arg)) rfl ?_
   obtain ⟨x36, hb36, h⟩ := Go.L.bind_some h
   refine S_callwL rfl rfl rfl hL30 (value_checkNode_2_ok _ _ (gz_le hH hL30) hb36) ?_
   rintro _ w37 rfl hx37 hL37 hle37
   refine S_seqnil ?_
   refine W_cond rfl (fun hc38 => ?_) (fun hc38 => ?_)
   ·replace h := Go.L.ite_t hc38 h
    refine W_pz 2 rfl ?_
    refine W_ret ?_
    refine At_block_ret ?_
    refine At_seq_ret ?_
    refine At_loop_ret ?_
    replace h := Go.L.Nxt.out h hm30
    refine At_block_ret ?_
    refine At_cut_ret ?_
    obtain rfl := Option.some.inj h
    refine At_body rfl rfl ?_
    exact ⟨hL37.ext, rfl⟩
   ·replace h := Go.L.ite_f hc38 h
    refine W_skip ?_
    refine At_block ?_
    refine At_seq ?_
    refine W_region ?_
    obtain ⟨hk41, h⟩ := Go.L.chk_some h
    refine S_v (r_ar64 rfl rfl rfl hk41) rfl ?_
    refine S_pu 1 rfl ?_
    refine S_nil ?_
    have h := Go.L.Nxt.again h hm30
    refine At_round ((s8_29 + (1 : Int)), n30) (.cons rfl (.cons rfl (.cons rfl (.cons rfl (Sub.nil _))))) ⟨hL37, h⟩ (Nat.lt_succ_self _)
  ·replace h := Go.L.ite_n hc32 h
   refine W_exit ?_
   refine At_seq_exit ?_
   refine At_loop_exit ?_
   replace h := Go.L.Nxt.out h hm30
   refine At_exit ?_
   refine At_cut () (Sub.nil _) ⟨hL30, h⟩
 ·rintro _ wr15 ⟨hL15, h⟩
  refine W_pz 1 rfl ?_
  refine W_ret ?_
  obtain rfl := Option.some.inj h
  refine At_body rfl rfl ?_
  exact ⟨hL15.ext, rfl⟩
noncomputable def conf_checkNode_2 (a0 : List (List UInt8)) : Option (Bool) :=
 Option.bind (idxf_checkNode_2 a0) (fun x1 => some (decide ((0 : Int) ≤ x1)))
theorem conf_checkNode_2_ok (w : World) (H : PH) (hH : Le H (hp w)) {a0 : List (List UInt8)} {v0_0 : Value} (h0_0 : Vec .st H v0_0 (a0)) {r : Bool} (h : conf_checkNode_2 a0 = some r) :
  Ok Tryz.prog 80 [v0_0, .func (.func 154) #[] #[]] w (fun v w' => Ext w w' ∧ v = .bool r) := by
 refine Ok_enter (n := 9) [(0, v0_0), (1, .func (.func 154) #[] #[])] func80 rfl rfl rfl rfl rfl ?_
 have hL := Lcl.start w
 refine W_pz 1 rfl ?_
 refine W_p 2 rfl ?_
 obtain ⟨x1, hb1, h⟩ := Go.L.bind_some h
 refine S_callL rfl rfl hL (idxf_checkNode_2_ok _ _ (gz_le hH hL) (h0_0.mono (gz_left hH)) hb1) ?_
 rintro _ w2 rfl hx2 hL2 hle2
 refine S_pz 2 rfl ?_
 refine W_ret ?_
 obtain rfl := Option.some.inj h
 refine At_body rfl rfl ?_
 exact ⟨hL2.ext, rfl⟩
end Go.Proofs.YtmfiaecglndldaaGreatDoor
end
section
namespace Go.Proofs.YtmfiaecglndldaaGreatDoor
open Go Go.E Go.RowKit
set_option maxHeartbeats 1000000
set_option maxRecDepth 10000
open _root_.Go.Proofs.Tryz
noncomputable def shapes_isPath (a0 : List UInt8) : Option (Bool) :=
 if (a0.length : Int) ≤ (330 : Int) then Option.bind (shapes_steps a0) (fun x3 => Option.bind (conf_isPath_1 x3) (fun x5 => some (!x5))) else some (false)
theorem shapes_isPath_ok (w : World) (H : PH) (hH : Le H (hp w)) {a0 : List UInt8}   {r : Bool} (h : shapes_isPath a0 = some r) :
  Ok Tryz.prog 43 [.string ⟨(a0).toArray⟩] w (fun v w' => Ext w w' ∧ v = .bool r) := by
 refine Ok_enter (n := 12) [(0, .string ⟨(a0).toArray⟩)] func43 rfl rfl rfl rfl rfl ?_
 have hL := Lcl.start w
 refine W_pz 1 rfl ?_
 refine W_p 1 rfl ?_
 refine S_v (r_lenS rfl underlying9) rfl ?_
 refine S_pu 2 rfl ?_
 refine S_split (s := 6) rfl (fun hg1 => ?_) (fun hg1 => ?_)
 ·replace h := Go.L.ite_p (of_decide_eq_true hg1) h
  refine S_guarded rfl rfl hg1 ?_
  refine S_v (RunsAt_pu rfl) rfl ?_
  refine S_guarded rfl rfl hg1 ?_
  obtain ⟨x3, hb3, h⟩ := Go.L.bind_some h
  refine S_callL rfl rfl hL (shapes_steps_ok _ _ (gz_le hH hL) hb3) ?_
  rintro u4_0 w4 ⟨_, rfl, hR4_0⟩ hx4 hL4 hle4
  have hv4_0 := hR4_0.vecG hH hL hx4
  refine S_guarded rfl rfl hg1 ?_
  obtain ⟨x5, hb5, h⟩ := Go.L.bind_some h
  refine S_callL rfl rfl hL4 (conf_isPath_1_ok _ _ (gz_le hH hL4) hv4_0 hb5) ?_
  rintro _ w6 rfl hx6 hL6 hle6
  replace hv4_0 := hv4_0.mono (gz_mono hH hle6)
  refine S_guarded rfl rfl hg1 ?_
  refine S_v (RunsAt_pu rfl) rfl ?_
  refine S_v (r_pickT rfl hg1 rfl) rfl ?_
  refine S_pz 1 rfl ?_
  refine W_ret ?_
  obtain rfl := Option.some.inj h
  refine At_body rfl rfl ?_
  exact ⟨hL6.ext, rfl⟩
 ·replace h := Go.L.ite_n (of_decide_eq_false hg1) h
  iterate 4 refine S_unwanted rfl rfl hg1 rfl ?_
  refine S_v (r_pickF rfl hg1 rfl) rfl ?_
  refine S_pz 1 rfl ?_
  refine W_ret ?_
  obtain rfl := Option.some.inj h
  refine At_body rfl rfl ?_
  exact ⟨hL.ext, rfl⟩
noncomputable def slices_CompactFunc_string_string_k4 (l233 : List (List UInt8)) (s5_234 : Int) : Option (((List (List UInt8)) × Int) ⊕ ((List (List UInt8)))) :=
 Go.L.chk (0 ≤ s5_234 ∧ s5_234 ≤ (l233.length : Int)) (Go.L.chk (0 ≤ s5_234 ∧ s5_234 ≤ ((l233.take s5_234.toNat ++ List.replicate (l233.length - s5_234.toNat) ([] : List UInt8)).length : Int)) (Option.map Sum.inr (some (((l233.take s5_234.toNat ++ List.replicate (l233.length - s5_234.toNat) ([] : List UInt8)).take s5_234.toNat)))))
noncomputable def slices_CompactFunc_string_string_bl5 (s5_128 : Int) : (List (List UInt8)) × Int × Int → Option (((List (List UInt8)) × Int × Int) ⊕ (((List (List UInt8)) × Int) ⊕ ((List (List UInt8))))) := fun ⟨l263, s5_264, s7_265⟩ =>
 if s7_265 < ((l263.drop s5_128.toNat).length : Int) then Go.L.chk (0 ≤ s7_265 ∧ s7_265 < ((l263.drop s5_128.toNat).length : Int)) (Go.L.chk (Go.L.I64 (s7_265 - (1 : Int))) (Go.L.chk (0 ≤ (s7_265 - (1 : Int)) ∧ (s7_265 - (1 : Int)) < ((l263.drop s5_128.toNat).length : Int)) (Option.bind (shapes_matches_1 ((l263.drop s5_128.toNat).getD s7_265.toNat default) ((l263.drop s5_128.toNat).getD ((s7_265 - (1 : Int)).toNat) default)) (fun x279 => if !x279 then Go.L.chk (0 ≤ s7_265 ∧ s7_265 < ((l263.drop s5_128.toNat).length : Int)) (Go.L.chk (0 ≤ s5_264 ∧ s5_264 < (l263.length : Int)) (Go.L.chk (Go.L.I64 (s5_264 + (1 : Int))) (Go.L.chk (Go.L.I64 (s7_265 + (1 : Int))) (some (Sum.inl ((l263.set s5_264.toNat ((l263.drop s5_128.toNat).getD s7_265.toNat default)), (s5_264 + (1 : Int)), (s7_265 + (1 : Int)))))))) else Go.L.chk (Go.L.I64 (s7_265 + (1 : Int))) (some (Sum.inl (l263, s5_264, (s7_265 + (1 : Int))))))))) else Option.map Sum.inr (slices_CompactFunc_string_string_k4 l263 s5_264)
noncomputable def slices_CompactFunc_string_string_l5 (s5_128 : Int) (s : (List (List UInt8)) × Int × Int) : Option (((List (List UInt8)) × Int) ⊕ ((List (List UInt8)))) := Go.L.run (slices_CompactFunc_string_string_bl5 s5_128) s
noncomputable def slices_CompactFunc_string_string_k3 (l127 : List (List UInt8)) (s5_186 : Int) : Option (((List (List UInt8)) × Int) ⊕ ((List (List UInt8)))) :=
 Go.L.chk (Go.L.I64 (s5_186 + (1 : Int))) (some (Sum.inl (l127, (s5_186 + (1 : Int)))))
noncomputable def slices_CompactFunc_string_string_k1 (l65 : List (List UInt8)) : Option ((List (List UInt8))) :=
 some (l65)
noncomputable def slices_CompactFunc_string_string_bl2 : (List (List UInt8)) × Int → Option (((List (List UInt8)) × Int) ⊕ ((List (List UInt8)))) := fun ⟨l127, s5_128⟩ =>
 if s5_128 < (l127.length : Int) then Go.L.chk (0 ≤ s5_128 ∧ s5_128 < (l127.length : Int)) (Go.L.chk (Go.L.I64 (s5_128 - (1 : Int))) (Go.L.chk (0 ≤ (s5_128 - (1 : Int)) ∧ (s5_128 - (1 : Int)) < (l127.length : Int)) (Option.bind (shapes_matches_1 (l127.getD s5_128.toNat default) (l127.getD ((s5_128 - (1 : Int)).toNat) default)) (fun x198 => if x198 then Go.L.chk (0 ≤ s5_128 ∧ s5_128 ≤ (l127.length : Int)) ((slices_CompactFunc_string_string_l5 s5_128) (l127, s5_128, (1 : Int))) else (slices_CompactFunc_string_string_k3 l127) s5_128)))) else Option.map Sum.inr (slices_CompactFunc_string_string_k1 l127)
noncomputable def slices_CompactFunc_string_string_l2 (s : (List (List UInt8)) × Int) : Option ((List (List UInt8))) := Go.L.run (slices_CompactFunc_string_string_bl2) s
noncomputable def slices_CompactFunc_string_string (a0 : List (List UInt8)) : Option ((List (List UInt8))) :=
 if (a0.length : Int) < (2 : Int) then some (a0) else slices_CompactFunc_string_string_l2 (a0, (1 : Int))
theorem slices_CompactFunc_string_string_fr {w0 w : World} {H : PH} (hH : Le H (hp w0)) {O : List Res} {a0 : List (List UInt8)} {va0 : Value} {xsa0 : List Value} (hL : Lcl w0 (HAppend.hAppend ([.row (va0) 9 1 (a0).length (xsa0)] : List Res) O) w) (hea0 : Elems .st (gz H w0 w (HAppend.hAppend ([.row (va0) 9 1 (a0).length (xsa0)] : List Res) O)) (a0) xsa0) {r : (List (List UInt8))} (h : slices_CompactFunc_string_string a0 = some r) :
  Ok Tryz.prog 82 [va0, .func (.func 83) #[] #[]] w (fun v w' => ∃ (u0 : Value) (y0 : List Value), v = u0 ∧ Lcl w0 (HAppend.hAppend ([.row u0 9 1 (r).length y0] : List Res) O) w' ∧ Le (fz w (HAppend.hAppend ([.row (va0) 9 1 (a0).length (xsa0)] : List Res) O)) (fz w' (HAppend.hAppend ([.row u0 9 1 (r).length y0] : List Res) O)) ∧ Elems .st (gz H w0 w' (HAppend.hAppend ([.row u0 9 1 (r).length y0] : List Res) O)) (r) y0) := by
 refine Ok_enter (n := 66) [(0, va0), (1, .func (.func 83) #[] #[])] func82 rfl rfl rfl rfl rfl ?_
 have hT := Le.refl (fz w (HAppend.hAppend ([.row (va0) 9 1 (a0).length (xsa0)] : List Res) O))
 refine W_pz 1 rfl ?_
 refine W_seq ?_
 refine W_p 1 rfl ?_
 refine S_v (r_lenR (i := 0) rfl underlying30 hL rfl) rfl ?_
 refine S_pz 1 rfl ?_
 refine W_if rfl (fun hc1 => ?_) (fun hc1 => ?_)
 ·replace h := Go.L.ite_p hc1 h
  refine W_pz 2 rfl ?_
  refine W_ret ?_
  refine At_seq_ret ?_
  obtain rfl := Option.some.inj h
  refine At_body rfl rfl ?_
  exact ⟨va0, xsa0, rfl, hL, hT, hea0⟩
 ·replace h := Go.L.ite_n hc1 h
  refine W_skip ?_
  refine At_seq ?_
  refine W_cut (σ := (List (List UInt8)) × Value × (List Value)) (fun ⟨l65, vl65, xsl65⟩ => [(0, vl65)]) (fun ⟨l65, vl65, xsl65⟩ wr => InO w0 (HAppend.hAppend ([.row (vl65) 9 1 (l65).length (xsl65)] : List Res) O) wr fun Oz => Elems .st (gz H w0 wr Oz) (l65) (xsl65) ∧ Le (fz w (HAppend.hAppend ([.row (va0) 9 1 (a0).length (xsa0)] : List Res) O)) (fz wr Oz) ∧ slices_CompactFunc_string_string_k1 l65 = some r) ?_ ?_
  ·refine W_pz 1 rfl ?_
   refine W_block ?_
   obtain ⟨n129, h⟩ := Go.L.run_some h
   refine W_loop (σ := (List (List UInt8)) × Int × Value × (List Value) × Nat) (fun ⟨l127, s5_128, vl127, xsl127, n⟩ => [(0, vl127), (1, .func (.func 83) #[] #[]), (5, .int .i64 s5_128)]) (fun ⟨l127, s5_128, vl127, xsl127, n⟩ wr => InO w0 (HAppend.hAppend ([.row (vl127) 9 1 (l127).length (xsl127)] : List Res) O) wr fun Oz => Elems .st (gz H w0 wr Oz) (l127) (xsl127) ∧ Le (fz w (HAppend.hAppend ([.row (va0) 9 1 (a0).length (xsa0)] : List Res) O)) (fz wr Oz) ∧ Go.L.itr slices_CompactFunc_string_string_bl2 n (l127, s5_128) = some r) (fun ⟨l127, s5_128, vl127, xsl127, n⟩ => n) (a0, (1 : Int), va0, xsa0, n129) (.cons rfl (.cons rfl (.cons rfl (Sub.nil _)))) ⟨hL, hea0, hT, h⟩ ?_
   rintro ⟨l127, s5_128, vl127, xsl127, nn129⟩ wr129 ⟨hL129, hel127, hT, h⟩
   obtain ⟨n129, e129, rfl, h, hm129⟩ := Go.L.itr_some h
   refine W_seq ?_
   refine W_p 2 rfl ?_
   refine S_v (r_lenR (i := 0) rfl underlying30 hL129 rfl) rfl ?_
   refine S_pz 1 rfl ?_
   refine W_if rfl (fun hc131 => ?_) (fun hc131 => ?_)
   ·replace h := Go.L.ite_p hc131 h
    refine W_skip ?_
    refine At_seq ?_
    refine W_cut (σ := Int) (fun s5_186 => [(0, vl127), (1, .func (.func 83) #[] #[]), (5, .int .i64 s5_186)]) (fun s5_186 wr => InO w0 (HAppend.hAppend ([.row (vl127) 9 1 (l127).length (xsl127)] : List Res) O) wr fun Oz => Elems .st (gz H w0 wr Oz) (l127) (xsl127) ∧ Le (fz w (HAppend.hAppend ([.row (va0) 9 1 (a0).length (xsa0)] : List Res) O)) (fz wr Oz) ∧ (slices_CompactFunc_string_string_k3 l127) s5_186 = some e129) ?_ ?_
    ·refine W_block ?_
     refine W_seqd (.q 0 (.q 1 (.q 2 (.q 3 (.q 4 (.q 5 (.q 6 (.q 7 (.q 8 (.q 9 (.tail 10))))))))))) mixed (by kernel_rfl) (fun w189 hx189 => ?_)
     have hL190 := hL129.call hx189
     have hle190 := fz_ext hL129 hx189
     replace hel127 := hel127.mono (gz_mono hH hle190)
     replace hT := hT.trans hle190
     refine D_pu 3 rfl ?_
     obtain ⟨hk192, h⟩ := Go.L.chk_some h
     refine D_index rfl rfl rfl underlying30 zr9 (hL190.vecN hH (i := 0) rfl hel127) s5_128.toNat (Int.toNat_of_nonneg hk192.1).symm (idx_lt hk192) rfl ?_
     rintro p191 _ rfl hp191
     refine D_v (r_load1 rfl underlying9 rfl hp191 (Le.refl _)) rfl rfl ?_
     refine D_pu 2 rfl ?_
     obtain ⟨hk193, h⟩ := Go.L.chk_some h
     refine D_v (r_ar64 rfl rfl rfl hk193) rfl rfl ?_
     obtain ⟨hk195, h⟩ := Go.L.chk_some h
     refine D_index rfl rfl rfl underlying30 zr9 (hL190.vecN hH (i := 0) rfl hel127) ((s5_128 - (1 : Int)).toNat) (Int.toNat_of_nonneg hk195.1).symm (idx_lt hk195) rfl ?_
     rintro p194 _ rfl hp194
     refine D_v (r_load1 rfl underlying9 rfl hp194 (Le.refl _)) rfl rfl ?_
     refine D_tail (fun w196 hx196 => ?_)
     have hL197 := hL190.call hx196
     have hle197 := fz_ext hL190 hx196
     replace hel127 := hel127.mono (gz_mono hH hle197)
     replace hT := hT.trans hle197
     obtain ⟨x198, hb198, h⟩ := Go.L.bind_some h
     refine S_callwL rfl rfl rfl hL197 (shapes_matches_1_ok _ _ (gz_le hH hL197) hb198) ?_
     rintro _ w199 rfl hx199 hL199 hle199
     replace hel127 := hel127.mono (gz_mono hH hle199)
     replace hT := hT.trans hle199
     refine S_seqnil ?_
     refine W_cond rfl (fun hc200 => ?_) (fun hc200 => ?_)
     ·replace h := Go.L.ite_t hc200 h
      refine W_p 2 rfl ?_
      obtain ⟨hk203, h⟩ := Go.L.chk_some h
      refine S_rsub 0 rfl rfl underlying30 zr9 hL199 rfl hk203 rfl ?_
      intro v202 hs202
      refine S_pz 1 rfl ?_
      refine W_cut (σ := (List (List UInt8)) × Int × (List Value)) (fun ⟨l233, s5_234, xsl233⟩ => [(0, vl127), (5, .int .i64 s5_234)]) (fun ⟨l233, s5_234, xsl233⟩ wr => InO w0 (HAppend.hAppend ([.row (vl127) 9 1 (l233).length (xsl233)] : List Res) O) wr fun Oz => Elems .st (gz H w0 wr Oz) (l233) (xsl233) ∧ Le (fz w (HAppend.hAppend ([.row (va0) 9 1 (a0).length (xsa0)] : List Res) O)) (fz wr Oz) ∧ slices_CompactFunc_string_string_k4 l233 s5_234 = some e129) ?_ ?_
      ·refine W_pz 1 rfl ?_
       refine W_block ?_
       obtain ⟨n266, h⟩ := Go.L.run_some h
       refine W_loop (σ := (List (List UInt8)) × Int × Int × (List Value) × Nat) (fun ⟨l263, s5_264, s7_265, xsl263, n⟩ => [(0, vl127), (1, .func (.func 83) #[] #[]), (5, .int .i64 s5_264), (6, v202), (7, .int .i64 s7_265)]) (fun ⟨l263, s5_264, s7_265, xsl263, n⟩ wr => InO w0 (HAppend.hAppend ([.row (vl127) 9 1 (l263).length (xsl263)] : List Res) O) wr fun Oz => Elems .st (gz H w0 wr Oz) (l263) (xsl263) ∧ Le (fz w (HAppend.hAppend ([.row (va0) 9 1 (a0).length (xsa0)] : List Res) O)) (fz wr Oz) ∧ Go.L.itr (slices_CompactFunc_string_string_bl5 s5_128) n (l263, s5_264, s7_265) = some e129) (fun ⟨l263, s5_264, s7_265, xsl263, n⟩ => n) (l127, s5_128, (1 : Int), xsl127, n266) (.cons rfl (.cons rfl (.cons rfl (.cons rfl (.cons rfl (Sub.nil _)))))) ⟨hL199, hel127, hT, h⟩ ?_
       rintro ⟨l263, s5_264, s7_265, xsl263, nn266⟩ wr266 ⟨hL266, hel263, hT, h⟩
       obtain ⟨n266, e266, rfl, h, hm266⟩ := Go.L.itr_some h
       refine W_seq ?_
       refine W_p 2 rfl ?_
       refine S_v (r_len rfl underlying30 (RSub.vec hs202 (hL266.vecN hH (i := 0) rfl hel263) rfl)) rfl ?_
       refine S_pz 1 rfl ?_
       refine W_if rfl (fun hc268 => ?_) (fun hc268 => ?_)
       ·replace h := Go.L.ite_p hc268 h
        refine W_skip ?_
        refine At_seq ?_
        refine W_seq ?_
        refine W_block ?_
        refine W_seqd (.q 0 (.q 1 (.q 2 (.q 3 (.q 4 (.q 5 (.q 6 (.q 7 (.q 8 (.q 9 (.tail 10))))))))))) mixed (by kernel_rfl) (fun w270 hx270 => ?_)
        have hL271 := hL266.call hx270
        have hle271 := fz_ext hL266 hx270
        replace hel263 := hel263.mono (gz_mono hH hle271)
        replace hT := hT.trans hle271
        refine D_pu 3 rfl ?_
        obtain ⟨hk273, h⟩ := Go.L.chk_some h
        refine D_index rfl rfl rfl underlying30 zr9 (RSub.vec hs202 (hL271.vecN hH (i := 0) rfl hel263) rfl) s7_265.toNat (Int.toNat_of_nonneg hk273.1).symm (idx_lt hk273) rfl ?_
        rintro p272 _ rfl hp272
        refine D_v (r_load1 rfl underlying9 rfl hp272 (Le.refl _)) rfl rfl ?_
        refine D_pu 2 rfl ?_
        obtain ⟨hk274, h⟩ := Go.L.chk_some h
        refine D_v (r_ar64 rfl rfl rfl hk274) rfl rfl ?_
        obtain ⟨hk276, h⟩ := Go.L.chk_some h
        refine D_index rfl rfl rfl underlying30 zr9 (RSub.vec hs202 (hL271.vecN hH (i := 0) rfl hel263) rfl) ((s7_265 - (1 : Int)).toNat) (Int.toNat_of_nonneg hk276.1).symm (idx_lt hk276) rfl ?_
        rintro p275 _ rfl hp275
        refine D_v (r_load1 rfl underlying9 rfl hp275 (Le.refl _)) rfl rfl ?_
        refine D_tail (fun w277 hx277 => ?_)
        have hL278 := hL271.call hx277
        have hle278 := fz_ext hL271 hx277
        replace hel263 := hel263.mono (gz_mono hH hle278)
        replace hT := hT.trans hle278
        obtain ⟨x279, hb279, h⟩ := Go.L.bind_some h
        refine S_callwL rfl rfl rfl hL278 (shapes_matches_1_ok _ _ (gz_le hH hL278) hb279) ?_
        rintro _ w280 rfl hx280 hL280 hle280
        replace hel263 := hel263.mono (gz_mono hH hle280)
        replace hT := hT.trans hle280
        refine S_pz 1 rfl ?_
        refine W_cond rfl (fun hc281 => ?_) (fun hc281 => ?_)
        ·replace h := Go.L.ite_t hc281 h
         refine W_p 4 rfl ?_
         obtain ⟨hk284, h⟩ := Go.L.chk_some h
         refine S_index rfl rfl underlying30 zr9 (RSub.vec hs202 (hL280.vecN hH (i := 0) rfl hel263) rfl) s7_265.toNat (Int.toNat_of_nonneg hk284.1).symm (idx_lt hk284) rfl ?_
         rintro p283 _ rfl hp283
         refine S_v (r_load1 rfl underlying9 rfl hp283 (Le.refl _)) rfl ?_
         obtain ⟨hk286, h⟩ := Go.L.chk_some h
         refine S_indexR 0 rfl rfl underlying30 zr9 hL280 rfl s5_264.toNat (Int.toNat_of_nonneg hk286.1).symm (idx_lt hk286) rfl ?_
         intro p285 hp285
         refine S_storeE (z := (l263.drop s5_128.toNat).getD s7_265.toNat default) (j := s5_264.toNat) 0 rfl rfl rfl zr9 hH hL280 rfl hel263 hp285 rfl (idx_lt hk286) rfl ?_
         intro w287 xs287 hL287 hle287 he287
         replace hT := hT.trans hle287
         refine S_seqnil ?_
         refine W_region ?_
         refine S_pu 1 rfl ?_
         obtain ⟨hk288, h⟩ := Go.L.chk_some h
         refine S_v (r_ar64 rfl rfl rfl hk288) rfl ?_
         refine S_pu 1 rfl ?_
         refine S_nil ?_
         refine At_block ?_
         refine At_seq ?_
         refine W_region ?_
         refine S_pu 1 rfl ?_
         obtain ⟨hk289, h⟩ := Go.L.chk_some h
         refine S_v (r_ar64 rfl rfl rfl hk289) rfl ?_
         refine S_pu 1 rfl ?_
         refine S_nil ?_
         have h := Go.L.Nxt.again h hm266
         refine At_round ((l263.set s5_264.toNat ((l263.drop s5_128.toNat).getD s7_265.toNat default)), (s5_264 + (1 : Int)), (s7_265 + (1 : Int)), xs287, n266) (.cons rfl (.cons rfl (.cons rfl (.cons rfl (.cons rfl (Sub.nil _)))))) ⟨hL287, he287, hT, h⟩ (Nat.lt_succ_self _)
        ·replace h := Go.L.ite_f hc281 h
         refine W_skip ?_
         refine At_block ?_
         refine At_seq ?_
         refine W_region ?_
         refine S_pu 1 rfl ?_
         obtain ⟨hk291, h⟩ := Go.L.chk_some h
         refine S_v (r_ar64 rfl rfl rfl hk291) rfl ?_
         refine S_pu 1 rfl ?_
         refine S_nil ?_
         have h := Go.L.Nxt.again h hm266
         refine At_round (l263, s5_264, (s7_265 + (1 : Int)), xsl263, n266) (.cons rfl (.cons rfl (.cons rfl (.cons rfl (.cons rfl (Sub.nil _)))))) ⟨hL280, hel263, hT, h⟩ (Nat.lt_succ_self _)
       ·replace h := Go.L.ite_n hc268 h
        refine W_exit ?_
        refine At_seq_exit ?_
        refine At_loop_exit ?_
        replace h := Go.L.Nxt.out h hm266
        refine At_exit ?_
        refine At_cut (l263, s5_264, xsl263) (.cons rfl (.cons rfl (Sub.nil _))) ⟨hL266, hel263, hT, h⟩
      ·rintro ⟨l233, s5_234, xsl233⟩ wr235 ⟨hL235, hel233, hT, h⟩
       refine W_p 2 rfl ?_
       obtain ⟨hk295, h⟩ := Go.L.chk_some h
       refine S_rsub 0 rfl rfl underlying30 zr9 hL235 rfl hk295 rfl ?_
       intro v294 hs294
       refine S_clearR (r := .st) (l := l233) (z := ([] : List UInt8)) 0 rfl hs294 underlying30 zr9 rfl rfl rfl hH hL235 rfl hel233 (fun _ => rfl) ?_
       intro w296 xs296 hL296 hle296 he296
       replace hT := hT.trans hle296
       refine S_seqnil ?_
       refine W_p 2 rfl ?_
       obtain ⟨hk298, h⟩ := Go.L.chk_some h
       refine S_cutR (r := .st) (l := (l233.take s5_234.toNat ++ List.replicate (l233.length - s5_234.toNat) ([] : List UInt8))) 0 rfl rfl underlying30 zr9 rfl hH hL296 rfl he296 hk298 rfl ?_
       intro v297 xs297 hL297 hle297 he297
       replace hT := hT.trans hle297
       refine S_pz 1 rfl ?_
       refine W_ret ?_
       refine At_block_ret ?_
       refine At_cut_ret ?_
       refine At_loop_ret ?_
       replace h := Go.L.Nxt.out h hm129
       refine At_block_ret ?_
       refine At_cut_ret ?_
       obtain rfl := Option.some.inj h
       refine At_body rfl rfl ?_
       exact ⟨v297, xs297, rfl, hL297, hT, he297⟩
     ·replace h := Go.L.ite_f hc200 h
      refine W_skip ?_
      refine At_block ?_
      refine At_cut s5_128 (.cons rfl (.cons rfl (.cons rfl (Sub.nil _)))) ⟨hL199, hel127, hT, h⟩
    ·rintro s5_186 wr187 ⟨hL187, hel127, hT, h⟩
     refine W_region ?_
     refine S_pu 1 rfl ?_
     obtain ⟨hk301, h⟩ := Go.L.chk_some h
     refine S_v (r_ar64 rfl rfl rfl hk301) rfl ?_
     refine S_pu 1 rfl ?_
     refine S_nil ?_
     have h := Go.L.Nxt.again h hm129
     refine At_round (l127, (s5_186 + (1 : Int)), vl127, xsl127, n129) (.cons rfl (.cons rfl (.cons rfl (Sub.nil _)))) ⟨hL187, hel127, hT, h⟩ (Nat.lt_succ_self _)
   ·replace h := Go.L.ite_n hc131 h
    refine W_exit ?_
    refine At_seq_exit ?_
    refine At_loop_exit ?_
    replace h := Go.L.Nxt.out h hm129
    refine At_exit ?_
    refine At_cut (l127, vl127, xsl127) (.cons rfl (Sub.nil _)) ⟨hL129, hel127, hT, h⟩
  ·rintro ⟨l65, vl65, xsl65⟩ wr66 ⟨hL66, hel65, hT, h⟩
   refine W_pz 2 rfl ?_
   refine W_ret ?_
   obtain rfl := Option.some.inj h
   refine At_body rfl rfl ?_
   exact ⟨vl65, xsl65, rfl, hL66, hT, hel65⟩
noncomputable def shapes_matches (a0 : List UInt8) (a1 : List UInt8) : Option (Bool) :=
 Option.bind (shapes_steps a0) (fun x1 => Option.bind (slices_CompactFunc_string_string x1) (fun x3 => Option.bind (shapes_steps a1) (fun x5 => Option.bind (shapes_match x3 x5) (fun x7 => some (x7)))))
theorem shapes_matches_ok (w : World) (H : PH) (hH : Le H (hp w)) {a0 : List UInt8} {a1 : List UInt8}   {r : Bool} (h : shapes_matches a0 a1 = some r) :
  Ok Tryz.prog 44 [.string ⟨(a0).toArray⟩, .string ⟨(a1).toArray⟩] w (fun v w' => Ext w w' ∧ v = .bool r) := by
 refine Ok_enter (n := 13) [(0, .string ⟨(a0).toArray⟩), (1, .string ⟨(a1).toArray⟩)] func44 rfl rfl rfl rfl rfl ?_
 have hL := Lcl.start w
 refine W_pz 1 rfl ?_
 refine W_p 1 rfl ?_
 obtain ⟨x1, hb1, h⟩ := Go.L.bind_some h
 refine S_callL rfl rfl hL (shapes_steps_ok _ _ (gz_le hH hL) hb1) ?_
 rintro u2_0 w2 ⟨_, rfl, hR2_0⟩ hx2 hL2 hle2
 obtain ⟨xs2, hL2, hle2, he2⟩ := hR2_0.take hH hL hx2
 obtain ⟨x3, hb3, h⟩ := Go.L.bind_some h
 refine S_call rfl rfl (slices_CompactFunc_string_string_fr (a0 := x1) (O := []) hH hL2 he2 hb3) ?_
 rintro u4_0 w4 ⟨_, y4_0, rfl, hL4, hle4, hf4_0⟩
 refine S_pz 1 rfl ?_
 refine W_p 2 rfl ?_
 obtain ⟨x5, hb5, h⟩ := Go.L.bind_some h
 refine S_callL rfl rfl hL4 (shapes_steps_ok _ _ (gz_le hH hL4) hb5) ?_
 rintro u6_0 w6 ⟨_, rfl, hR6_0⟩ hx6 hL6 hle6
 have hv6_0 := hR6_0.vecG hH hL4 hx6
 replace hf4_0 := hf4_0.mono (gz_mono hH hle6)
 obtain ⟨x7, hb7, h⟩ := Go.L.bind_some h
 refine S_callL rfl rfl hL6 (shapes_match_ok _ _ (Le.refl _) (hL6.vecN hH (i := 0) rfl hf4_0) (hv6_0.mono (gz_le hH hL6)) hb7) ?_
 rintro _ w8 rfl hx8 hL8 hle8
 replace hf4_0 := hf4_0.mono (gz_mono hH hle8)
 replace hv6_0 := hv6_0.mono (gz_mono hH hle8)
 refine S_pz 1 rfl ?_
 refine W_ret ?_
 obtain rfl := Option.some.inj h
 refine At_body rfl rfl ?_
 exact ⟨hL8.ext, rfl⟩
noncomputable def shapes_Match (a0 : List UInt8) (a1 : List UInt8) : Option (Bool × (Int × Int)) :=
 Option.bind (shapes_Check a0) (fun x2 => if x2.1 = (0 : Int) ∧ x2.2 = (0 : Int) then (if (330 : Int) < (a1.length : Int) then Option.bind (shapes_fault (3 : Int) (-2 : Int)) (fun x16 => some (false, (x16.1, x16.2))) else Option.bind (shapes_isPath a1) (fun x20 => if !x20 then Option.bind (shapes_fault (6 : Int) (-2 : Int)) (fun x24 => some (false, (x24.1, x24.2))) else Option.bind (shapes_matches a0 a1) (fun x28 => some (x28, ((0 : Int), (0 : Int)))))) else some (false, (x2.1, x2.2)))
theorem shapes_Match_ok (w : World) (H : PH) (hH : Le H (hp w)) {a0 : List UInt8} {a1 : List UInt8}   {r : Bool × (Int × Int)} (h : shapes_Match a0 a1 = some r) :
  Ok Tryz.prog 12 [.string ⟨(a0).toArray⟩, .string ⟨(a1).toArray⟩] w (fun v w' => Ext w w' ∧ v = .tuple #[.bool r.1, .agg #[.int .i64 r.2.1, .int .i64 r.2.2]]) := by
 refine Ok_enter (n := 25) [(0, .string ⟨(a0).toArray⟩), (1, .string ⟨(a1).toArray⟩)] func12 rfl rfl rfl rfl rfl ?_
 have hL := Lcl.start w
 refine W_p 1 rfl ?_
 refine S_alloc zr23 rfl rfl hL ?_
 intro w1 b1 hL1 hle1 _
 refine S_seqnil ?_
 refine W_seq ?_
 refine W_p 1 rfl ?_
 obtain ⟨x2, hb2, h⟩ := Go.L.bind_some h
 refine S_callL rfl rfl hL1 (shapes_Check_ok _ _ (gz_le hH hL1) hb2) ?_
 rintro _ w3 rfl hx3 hL3 hle3
 refine S_alloc zr23 rfl rfl hL3 ?_
 intro w4 b4 hL4 hle4 _
 refine S_storeBN 0 rfl rfl rfl zr23 hL4 rfl rfl (onc rfl (onc rfl on0)) ?_
 intro w5 hL5 hle5
 refine S_seqnil ?_
 refine W_seqr ?_
 refine S_v (r_loadBN 0 rfl underlying23 rfl zr23 hL5 rfl) rfl ?_
 refine S_v (r_build rfl (fun _ => bld23_z _)) rfl ?_
 refine S_v (r_neA rfl rfl eqg23 (eq23 _ _ _ _ )) rfl ?_
 refine S_seqnil ?_
 refine W_ifn rfl (fun hc6 => ?_) (fun hc6 => ?_)
 ·replace h := Go.L.ite_n hc6 h
  refine W_seqd (.q 0 (.q 1 (.tail 2))) mixed (by kernel_rfl) (fun w8 hx8 => ?_)
  have hL9 := hL5.call hx8
  refine D_v (r_loadBN 0 rfl underlying23 rfl zr23 hL9 rfl) rfl rfl ?_
  refine D_pu 1 rfl ?_
  refine D_tail (fun w10 hx10 => ?_)
  have hL11 := hL9.call hx10
  refine S_storeBN 1 rfl rfl rfl zr23 hL11 rfl rfl (onc rfl (onc rfl on0)) ?_
  intro w12 hL12 hle12
  refine S_seqnil ?_
  refine W_ret ?_
  refine At_seq_ret ?_
  obtain rfl := Option.some.inj h
  refine At_got2 rfl (.tmp rfl) (.cell rfl underlying23 rfl zr23 (box_ptr (i := 1) hL12 rfl)) ?_
  exact ⟨hL12.ext, rfl⟩
 ·replace h := Go.L.ite_p hc6 h
  refine W_skip ?_
  refine At_seq ?_
  refine W_seq ?_
  refine W_p 1 rfl ?_
  refine S_v (r_lenS rfl underlying9) rfl ?_
  refine S_pz 1 rfl ?_
  refine W_if rfl (fun hc14 => ?_) (fun hc14 => ?_)
  ·replace h := Go.L.ite_p hc14 h
   refine W_seqr ?_
   obtain ⟨x16, hb16, h⟩ := Go.L.bind_some h
   refine S_callL rfl rfl hL5 (shapes_fault_ok _ _ (gz_le hH hL5) hb16) ?_
   rintro _ w17 rfl hx17 hL17 hle17
   refine S_pu 1 rfl ?_
   refine S_storeBN 1 rfl rfl rfl zr23 hL17 rfl rfl (onc rfl (onc rfl on0)) ?_
   intro w18 hL18 hle18
   refine S_seqnil ?_
   refine W_ret ?_
   refine At_seq_ret ?_
   obtain rfl := Option.some.inj h
   refine At_got2 rfl (.tmp rfl) (.cell rfl underlying23 rfl zr23 (box_ptr (i := 1) hL18 rfl)) ?_
   exact ⟨hL18.ext, rfl⟩
  ·replace h := Go.L.ite_n hc14 h
   refine W_skip ?_
   refine At_seq ?_
   refine W_seq ?_
   refine W_p 1 rfl ?_
   obtain ⟨x20, hb20, h⟩ := Go.L.bind_some h
   refine S_callL rfl rfl hL5 (shapes_isPath_ok _ _ (gz_le hH hL5) hb20) ?_
   rintro _ w21 rfl hx21 hL21 hle21
   refine S_pz 1 rfl ?_
   refine W_cond rfl (fun hc22 => ?_) (fun hc22 => ?_)
   ·replace h := Go.L.ite_t hc22 h
    refine W_seqr ?_
    obtain ⟨x24, hb24, h⟩ := Go.L.bind_some h
    refine S_callL rfl rfl hL21 (shapes_fault_ok _ _ (gz_le hH hL21) hb24) ?_
    rintro _ w25 rfl hx25 hL25 hle25
    refine S_pu 1 rfl ?_
    refine S_storeBN 1 rfl rfl rfl zr23 hL25 rfl rfl (onc rfl (onc rfl on0)) ?_
    intro w26 hL26 hle26
    refine S_seqnil ?_
    refine W_ret ?_
    refine At_seq_ret ?_
    obtain rfl := Option.some.inj h
    refine At_got2 rfl (.tmp rfl) (.cell rfl underlying23 rfl zr23 (box_ptr (i := 1) hL26 rfl)) ?_
    exact ⟨hL26.ext, rfl⟩
   ·replace h := Go.L.ite_f hc22 h
    refine W_skip ?_
    refine At_seq ?_
    refine W_p 2 rfl ?_
    obtain ⟨x28, hb28, h⟩ := Go.L.bind_some h
    refine S_callL rfl rfl hL21 (shapes_matches_ok _ _ (gz_le hH hL21) hb28) ?_
    rintro _ w29 rfl hx29 hL29 hle29
    refine S_v (r_build rfl (fun _ => bld23_z _)) rfl ?_
    refine S_pu 1 rfl ?_
    refine S_storeBN 1 rfl rfl rfl zr23 hL29 rfl rfl (onc rfl (onc rfl on0)) ?_
    intro w30 hL30 hle30
    refine S_seqnil ?_
    refine W_ret ?_
    obtain rfl := Option.some.inj h
    refine At_got2 rfl (.tmp rfl) (.cell rfl underlying23 rfl zr23 (box_ptr (i := 1) hL30 rfl)) ?_
    exact ⟨hL30.ext, rfl⟩
end Go.Proofs.YtmfiaecglndldaaGreatDoor
end
