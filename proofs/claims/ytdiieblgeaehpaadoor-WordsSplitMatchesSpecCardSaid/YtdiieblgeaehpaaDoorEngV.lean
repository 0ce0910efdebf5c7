/- Keys of maps: strings, pairs of ints; what is known of a key in a map that lies fast. No program in sight. -/
import Derived.Test.YtdiieblgeaehpaaDoorEngU
namespace Go.E
open Go Go.RowKit

theorem ba_eq (a b : List UInt8) : ((⟨a.toArray⟩ : ByteArray) == ⟨b.toArray⟩) = decide (a = b) := by
  have : ((⟨a.toArray⟩ : ByteArray) == ⟨b.toArray⟩) = (a.toArray == b.toArray) := rfl
  rw [this, Bool.eq_iff_iff]; simp
def encS (s : List UInt8) : Value := .string ⟨s.toArray⟩
theorem keyOk_str {P : Program} {kt : TypeId} (hd : P.underlying kt = some .string) : KeyOk P kt encS :=
  ⟨fun b k w => by
      obtain ⟨d, he⟩ : ∃ d, 10000 = d + 1 := ⟨9999, rfl⟩
      rw [he]
      simp [Instr.checkKey, encS, run_underlying hd],
    fun k => by simp [Instr.sameBits, encS, ba_eq],
    ⟨_, hd, .inl fun a b => by simp only [Instr.sameNow, encS, ba_eq]⟩⟩
def encII (h : Int × Int) : Value := .agg #[.int .i64 h.1, .int .i64 h.2]
theorem keyOk_ii {P : Program} {kt : TypeId} {fs : Array Field} (hd : P.underlying kt = some (.struct fs)) (hc : ∀ (b : Bool) (x y : Int) w, (Instr.checkKey b 10000 kt (.agg #[.int .i64 x, .int .i64 y])).run P w = .ok () w)
    (he : ∀ (a b c e : Int) w, (Op.equalIn 10000 kt (.agg #[.int .i64 a, .int .i64 b]) (.agg #[.int .i64 c, .int .i64 e])).run P w = .ok (decide (a = c ∧ b = e)) w) : KeyOk P kt encII :=
  ⟨fun b k w => hc b k.1 k.2 w,
    fun k => by
      obtain ⟨d, he⟩ : ∃ d, 10000 = d + 1 := ⟨9999, rfl⟩
      rw [he]
      cases d <;> simp [Instr.sameBits, encII],
    ⟨_, hd, .inr ⟨fun a b => rfl, fun a b w => by
      have := he a.1 a.2 b.1 b.2 w
      unfold Op.equal
      rw [show Op.maxDepth = 10000 from rfl]
      obtain ⟨a1, a2⟩ := a
      obtain ⟨b1, b2⟩ := b
      simp only [encII]
      rw [this]
      congr 1
      rw [Bool.eq_iff_iff]
      simp⟩⟩⟩

section
variable {P : Program} {n : Sz} {ops : Array Oper} {Q : Exit → Act → World → Prop} {L : Env} {w : World} {rest : List Oper} {d : Nat} {ty t kt et : TypeId} {pos : String} {af : Array Edge} {x y : Operand}
  {κ α : Type} [DecidableEq κ] {enc : κ → Value} {r : Rp α} {l : List (κ × List α)} {k : κ} {H : PH} {v : Value}
theorem S_lookF (hx : ev L x = some v) (hy : ev L y = some (enc k)) (ht : P.underlying t = some (.map kt et)) (hk : KeyOk P kt enc) (hz : Mz P et (.slice none 0 0)) (hm : VMap enc (.vec r) H v l) (hs : Le H (hp w)) (hn : Nat.blt d n.n = true)
    (h : ∀ u, Vec r H u (Go.L.mget [] k l) → S P n ops Q rest ((d, u) :: L) w) : S P n ops Q (⟨some d, .lookup t x y false, ty, pos, af, none⟩ :: rest) L w := by
  obtain ⟨u, h1, h2⟩ := lookF (ty := ty) hm hk ht hz hx hy hs
  exact S_v h1 hn (h u h2)
end

/-- How elements of slices lie in cells. -/
abbrev cwII (h : Int × Int) : List Value := [.int .i64 h.1, .int .i64 h.2]
theorem rel_II : ∀ (G : PH) (x : Int × Int) (c : List Value), (Rp.pair (.int .i64) (.int .i64)).rel G x c ↔ c = cwII x :=
  fun _ _ _ => ⟨fun ⟨_, _, h, h1, h2⟩ => by subst h1; subst h2; exact h, fun h => ⟨_, _, h, rfl, rfl⟩⟩
abbrev cwI (h : Int) : List Value := [.int .i64 h]
theorem rel_I : ∀ (G : PH) (x : Int) (c : List Value), (Rp.int .i64).rel G x c ↔ c = cwI x := fun _ _ _ => Iff.rfl

/-- Three fields: a string, two ints. -/
theorem eq_sii {P : Program} {t : TypeId} {f0 f1 f2 : Field} {k1 k2 : IntKind} (ht : P.underlying t = some (.struct (P.fieldsOf t))) (hp : P.stoodInHeld t = false) (hf : (P.fieldsOf t).toList = [f0, f1, f2]) (h0 : f0.name ≠ "_" ∧ f0.offset = 0) (h1 : f1.name ≠ "_" ∧ f1.offset = 1) (h2 : f2.name ≠ "_" ∧ f2.offset = 2)
    (u0 : P.underlying f0.type = some .string) (u1 : P.underlying f1.type = some (.int k1)) (u2 : P.underlying f2.type = some (.int k2)) (s m : List UInt8) (a b c e : Int) (w : World) :
    (Op.equalIn 10000 t (.agg #[.string ⟨s.toArray⟩, .int k1 a, .int k2 b]) (.agg #[.string ⟨m.toArray⟩, .int k1 c, .int k2 e])).run P w = .ok (decide (s = m ∧ a = c ∧ b = e)) w := by
  rw [run_equalIn_struct w 9999 t _ _ ht hp, hf]
  have hs : ∀ (dd : Nat) (s m : List UInt8), (Op.equalIn (dd + 1) f0.type (.string ⟨s.toArray⟩) (.string ⟨m.toArray⟩)).run P w = .ok (decide (s = m)) w := fun dd s m => by
    simp [Op.equalIn, run_underlying u0, ba_eq]
  have key : ∀ dd : Nat, (Op.eqFields (dd + 1) #[.string ⟨s.toArray⟩, .int k1 a, .int k2 b] #[.string ⟨m.toArray⟩, .int k1 c, .int k2 e] [f0, f1, f2]).run P w = .ok (decide (s = m ∧ a = c ∧ b = e)) w := by
    intro dd
    by_cases e0 : s = m <;> by_cases e1 : a = c <;> by_cases e2 : b = e <;>
      simp [Op.eqFields, h0.1, h1.1, h2.1, h0.2, h1.2, h2.2, part, isAgg, run_underlying u0, run_underlying u1, run_underlying u2, hs, run_equalIn_int w dd _ _ _ _ _ u1, run_equalIn_int w dd _ _ _ _ _ u2, e0, e1, e2]
  exact key 9998
end Go.E
