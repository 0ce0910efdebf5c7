/- Texts of a claim, merged. -/
import Derived.Test.YtekmbcbgknmhiaaGreatDoorLa1
import Derived.Lib.Builder
import Derived.Lib.UnsafeStr
import Derived.Test.YtekmbcbgknmhiaaGreatDoorRows
import Derived.KernelRfl
import Derived.Lib.OthersKept
import Derived.Lib.SliceRun
import Derived.Shelf.SlGeneric
import Derived.Shelf.Strings.Split
import Derived.Shelf.Strings.OnBuilder
import Derived.Shelf.GgClosure.StringsRunes
import Derived.Shelf.Strings.Runes
import Derived.Shelf.Sort.Plain
import Derived.Shelf.Slices.In.SortNone
import Derived.Shelf.Slices.CompactI
import Derived.Shelf.SlSortCmp.NoneTotal
import Derived.Shelf.SlIter.Sorted
import Derived.Shelf.Spec.DecodeRune
import Derived.Shelf.Strconv.Itoa3
import Derived.Shelf.Strconv.AtoiAll
import Derived.Shelf.Strings.IndexAnyAll
import Derived.Ground.NamesProg
import Derived.Ground.Names2Prog
import Derived.Ground.Names7Prog
import Derived.Ground.GgwProg
import Derived.Ground.GgzProg
import Derived.Ground.SlsfProg
import Derived.Test.YtekmbcbgknmhiaaGreatDoorProg
set_option linter.unusedVariables false
set_option linter.unusedSimpArgs false
open _root_.Go.Proofs.Tryz renaming underlying142→Aa5,underlying9→AaG,underlying23→AaQ,underlying28→AaR,underlying5→AaS,underlying22→AaT,underlying64→AaU,underlying26→AaY,underlying58→Aat,underlying3→Aau,underlying109→Aba,underlying205→Abb,underlying171→Abc,underlying192→Abf,underlying44→Abg,underlying46→Abh
noncomputable section
namespace Go.E
open Go Go.RowKit
structure Nb (α:Type) where
 pre:α→List Value
 dat:α→List UInt8
 upd:α→List UInt8→α
 sz:Nat
 len:∀ x,(pre x).length+1=sz
 one:∀ x,∀ u∈pre x,u.oneCell'=true
 Abm:∀ x d,pre (upd x d)=pre x
 Abn:∀ x d,dat (upd x d)=d
def Nb.b:Nb (List UInt8):=⟨fun _=>[],fun x=>x,fun _ d=>d,1,fun _=>rfl,(fun _ _ h=>by cases h),fun _ _=>rfl,fun _ _=>rfl⟩
def Nb.s:Nb (Int×List UInt8):=⟨fun x=>[.int .i64 x.1],fun x=>x.2,fun x d=>(x.1,d),2,fun _=>rfl,(fun _ u h=>by simp at h;subst h;rfl),fun _ _=>rfl,fun _ _=>rfl⟩
section
variable {α:Type} (N:Nb α) (e:TypeId)
end
section
variable {α:Type} {N:Nb α} {e:TypeId}
theorem OF:∀ (A T:List AN) (i:Nat),Dq (A++T) (A.length+i)=Dq T i
 | [],T,i=>by rw [List.nil_append,List.length_nil,Nat.zero_add]
 | a::A,T,i=>by rw [List.length_cons,show A.length+1+i=(A.length+i)+1 by omega];exact OF A T i
theorem TH:∀ (A T:List AN) (i:Nat) (r:AN),CJ (A++T) (A.length+i) r=A++CJ T i r
 | [],T,i,r=>by rw [List.nil_append,List.length_nil,Nat.zero_add,List.nil_append]
 | a::A,T,i,r=>by rw [List.length_cons,show A.length+1+i=(A.length+i)+1 by omega];exact congrArg (a :: ·) (TH A T i r)
theorem Jg:∀ {A:List AN} {i:Nat} {r:AN} (T:List AN),Dq A i=some r→Dq (A++T) i=some r
 | _::_,0,_,_,h=>h
 | _::A,i+1,_,T,h=>Jg (A:=A) (i:=i) T h
theorem LQ:∀ {A:List AN} {i:Nat} {r:AN} (s:AN) (T:List AN),Dq A i=some r→CJ (A++T) i s=CJ A i s++T
 | _::_,0,_,_,_,_=>rfl
 | a::A,i+1,_,s,T,h=>congrArg (a :: ·) (LQ (A:=A) (i:=i) s T h)
end
section
variable {P:Program} {n:Sz} {ops:Array Oper} {Q:Exit→Act→World→Prop} {L:Env} {w w0:World} {O:List AN} {rest:List Oper}
 {d:Nat} {ty:TypeId} {pos:String} {af:Array Edge} {α:Type} [Inhabited α] {N:Nb α} {x y:Operand} {vo:Value} {t e eo:TypeId} {A:List AN} {l:List α} {vs:List Value}
end
section
variable {P:Program} {n:Sz} {ops:Array Oper} {Q:Exit→Act→World→Prop} {L:Env} {w w0:World} {rest:List Oper}
 {d d':Nat} {ty ty':TypeId} {pos pos':String} {af af':Array Edge} {α:Type} {N:Nb α} {x:Operand} {v vo:Value} {t e eo:TypeId} {H:PH} {l:List α} {vs:List Value}
end
section
variable {w w' w0:World} {A T O O':List AN} {α:Type} {N:Nb α} {r:Rp α} {vo:Value} {e eo:TypeId} {H:PH} {l:List α} {vs:List Value}
theorem TI:∀ (A T:List AN) (i:Nat),KF (A++T) (A.length+i)=A++KF T i
 | [],T,i=>by rw [List.nil_append,List.length_nil,Nat.zero_add,List.nil_append]
 | a::A,T,i=>by rw [List.length_cons,show A.length+1+i=(A.length+i)+1 by omega];exact congrArg (a :: ·) (TI A T i)
end
end Go.E
namespace Go.L
def HL{κ β:Type}[DecidableEq κ](d:β)(k:κ):List (κ×β)→β
 | []=>d
 | (a,y)::l=>if k=a then y else HL d k l
def Hk{κ β:Type}[DecidableEq κ](k:κ)(y:β):List (κ×β)→List (κ×β)
 | []=>[(k,y)]
 | (a,z)::l=>if k=a then(a,y)::l else(a,z)::Hk k y l
end Go.L
namespace Go.E
open Go Go.RowKit
def mE{κ:Type}(enc:κ→Value):Nat→List κ→List Value→List MapEntry
 | i,k::l,v::vs=>⟨enc k,v,i⟩::mE enc (i+1) l vs
 | _,_,_=>[]
def mI{κ:Type}[DecidableEq κ](k:κ):List κ→Option Nat
 | []=>none
 | a::l=>if k=a then some 0 else(mI k l).map (· + 1)
section
variable {κ:Type} {enc:κ→Value} {k:κ}
theorem SK{v:Value}:∀ (l:List κ) (vs:List Value) (i:Nat),l.length=vs.length→mE enc i l vs++[⟨enc k,v,i+l.length⟩]=mE enc i (l++[k]) (vs++[v])
 | [],[],i,_=>by simp [mE]
 | a::l,u::vs,i,h=>by
  have:=SK (v:=v) l vs (i+1) (by simpa using h);simp only [mE,List.cons_append,List.length_cons];rw [← this,show i+(l.length+1)=i+1+l.length by omega]
theorem Pw:∀ (l:List κ) (vs:List Value) (i m:Nat) (a:κ),l.length=vs.length→l[m]? = some a→(mE enc i l vs)[m]? = some ⟨enc a,vs.getD m default,i+m⟩
 | b::l,u::vs,i,0,a,_,h=>by simp at h;subst h;simp [mE]
 | b::l,u::vs,i,m+1,a,hl,h=>by
  have:=Pw l vs (i+1) m a (by simpa using hl) (by simpa using h);simp only [mE,List.getElem?_cons_succ,this];simp;omega
theorem Sa{v:Value}:∀ (l:List κ) (vs:List Value) (i m:Nat),l.length=vs.length→l[m]? = some k→(mE enc i l vs).modify m (fun e=>{e with key:=enc k,val:=v})=mE enc i l (vs.set m v)
 | b::l,u::vs,i,0,_,h=>by simp at h;subst h;simp [mE]
 | b::l,u::vs,i,m+1,hl,h=>by
  have:=Sa (v:=v) l vs (i+1) m (by simpa using hl) (by simpa using h);simp only [mE,List.modify_succ_cons,List.set_cons_succ,this]
theorem Px:∀ (l:List κ) (vs:List Value) (i:Nat),l.length=vs.length→(mE enc i l vs).length=l.length
 | [],[],_,_=>rfl
 | a::l,u::vs,i,h=>by simp [mE,Px l vs (i+1) (by simpa using h)]
end
structure MC (P:Program) {κ:Type} [DecidableEq κ] (kt:TypeId) (enc:κ→Value):Prop where
 check:∀ (b:Bool) (k:κ) w,(Instr.checkKey b 10000 kt (enc k)).run P w=.ok () w
 bits:∀ k,Instr.sameBits 10000 (enc k) (enc k)=true
 find:∃ dd,P.underlying kt=some dd∧((∀ a b,Instr.sameNow dd (enc a) (enc b)=some (decide (a=b)))∨
  ((∀ a b,Instr.sameNow dd (enc a) (enc b)=none)∧∀ a b w,(Op.equal kt (enc a) (enc b)).run P w=.ok (decide (a=b)) w))
section
variable {P:Program} {κ:Type} [DecidableEq κ] {kt t et:TypeId} {enc:κ→Value} {k:κ}
theorem Sb:∀ {l:List κ} {m:Nat},mI k l=some m→m<l.length∧l[m]? = some k
 | a::l,m,h=>by
  simp only [mI] at h
  split at h
  ·rename_i e;cases h;subst e;simp
  ·cases b:mI k l with
   | none=>rw [b] at h;cases h
   | some j=>
    rw [b] at h;cases h;have:=Sb b
    simpa using this
theorem QT{dd:TypeDesc}(h:∀ a b,Instr.sameNow dd (enc a) (enc b)=some (decide (a=b))):∀ (l:List κ) (vs:List Value) (i j:Nat),l.length=vs.length→
  Instr.findNow dd (enc k) (mE enc i l vs) j=some ((mI k l).map fun m=>(j+m,vs.getD m default))
 | [],_,_,_,_=>by simp [mE,Instr.findNow,mI]
 | a::l,v::vs,i,j,hl=>by
  simp only [mE,Instr.findNow,h,mI]
  by_cases e:k=a
  ·simp [e]
  ·simp only [e,decide_false];rw [QT h l vs (i+1) (j+1) (by simpa using hl)]
   cases mI k l with
   | none=>simp
   | some m=>simp;omega
theorem Od(h:∀ a b w,(Op.equal kt (enc a) (enc b)).run P w=.ok (decide (a=b)) w)(w:World):∀ (l:List κ) (vs:List Value) (i j:Nat),l.length=vs.length→
  (Instr.findAsking kt (enc k) (mE enc i l vs) j).run P w=.ok ((mI k l).map fun m=>(j+m,vs.getD m default)) w
 | [],_,_,_,_=>by simp [mE,Instr.findAsking,mI]
 | a::l,v::vs,i,j,hl=>by
  simp only [mE,Instr.findAsking,mI,Sem.run_bind,h,Result.andThen]
  by_cases e:k=a
  ·simp [e]
  ·simp only [e,decide_false];rw [if_neg (by simp),Od h w l vs (i+1) (j+1) (by simpa using hl)]
   cases mI k l with
   | none=>simp
   | some m=>simp;omega
theorem Q1(hk:MC P kt enc){l:List κ}{vs:List Value}(hl:l.length=vs.length)(w:World):
  (Instr.findKey kt (enc k) (mE enc 0 l vs)).run P w=.ok ((mI k l).map fun m=>(m,vs.getD m default)) w:=by
 obtain⟨dd,hd,h⟩:=hk.find;unfold Instr.findKey
 rcases h with h | ⟨b,h2⟩
 ·simp [run_underlying hd,QT h l vs 0 0 hl]
 ·cases l with
  | nil=>
   have:vs=[]:=List.eq_nil_of_length_eq_zero (by simpa using hl.symm);subst this;simp [run_underlying hd,mE,Instr.findNow,mI]
  | cons a l=>
   cases vs with
   | nil=>cases hl
   | cons v vs=>
    have e:Instr.findNow dd (enc k) (mE enc 0 (a::l) (v::vs)) 0=none:=by simp only [mE,Instr.findNow,b]
    simp only [Sem.run_bind,run_underlying hd,Result.andThen,e];have:=Od (k:=k) h2 w (a::l) (v::vs) 0 0 hl;rw [this];simp
def Uw(z:Value)(k:κ)(l:List κ)(vs:List Value):Value:=match mI k l with
 | some m=>vs.getD m default
 | none=>z
def Mz(P:Program)(et:TypeId)(z:Value):Prop:=∀ w,(zeroValue et).run P w=.ok z w
theorem QU{w:World}{b n:Nat}{l:List κ}{vs:List Value}{z:Value}(hk:MC P kt enc)(ht:P.underlying t=some (.map kt et))(hz:Mz P et z)(hb:w.heap[b]? = some (.map (mE enc 0 l vs).toArray n))(hl:l.length=vs.length):
  (Instr.lookup t (.map (some b)) (enc k) false).run P w=.ok (Uw z k l vs) w:=by
 have hg:(getObj b).run P w=.ok (.map (mE enc 0 l vs).toArray n) w:=by simp [getObj,Sem.run,hb]
 simp only [Instr.lookup,Sem.run_bind,run_underlying ht,Result.andThen,hg,hk.check];simp only [Sem.run_pure];rw [Q1 hk hl];unfold Uw
 cases mI k l with
 | some m=>simp
 | none=>simp [hz w]
def Z4(k:κ)(l:List κ):List κ:=match mI k l with
 | some _=>l
 | none=>l++[k]
def Ux(k:κ)(v:Value)(l:List κ)(vs:List Value):List Value:=match mI k l with
 | some m=>vs.set m v
 | none=>vs++[v]
theorem ZW{v:Value}{l:List κ}{vs:List Value}(hl:l.length=vs.length):(Z4 k l).length=(Ux k v l vs).length:=by
 unfold Z4 Ux
 cases mI k l <;> simp [hl]
theorem Uy{w:World}{b:Nat}{l:List κ}{vs:List Value}{v:Value}(hk:MC P kt enc)(ht:P.underlying t=some (.map kt et))(hb:w.heap[b]? = some (.map (mE enc 0 l vs).toArray l.length))(hl:l.length=vs.length):
  (Instr.mapUpdate t (.map (some b)) (enc k) v).run P w=.ok () (w.putObj b (.map (mE enc 0 (Z4 k l) (Ux k v l vs)).toArray (Z4 k l).length)):=by
 have hg:(getObj b).run P w=.ok (.map (mE enc 0 l vs).toArray l.length) w:=by simp [getObj,Sem.run,hb]
 have hs:∀ o,(setObj b o).run P w=.ok () (w.putObj b o):=fun o=>by simp [setObj,Sem.run,hb,World.putObj]
 simp only [Instr.mapUpdate,Sem.run_bind,run_underlying ht,Result.andThen,hg,hk.check];rw [Q1 hk hl];unfold Z4 Ux
 cases hm:mI k l with
 | some m=>
  obtain⟨c,h2⟩:=Sb hm;have he:=Pw (enc:=enc) l vs 0 m k hl h2;simp only [Option.map_some,Sem.run_bind,Result.andThen,List.getElem?_toArray,he,Option.getD_some,Instr.keyThatStays,hk.bits,if_true];simp only [Sem.run_pure];have a:(mE enc 0 l vs).toArray.modify m (fun e=>{e with key:=enc k,val:=v})=(mE enc 0 l (vs.set m v)).toArray:=by rw [List.modify_toArray,Sa l vs 0 m hl h2]
  rw [a];exact hs _
 | none=>
  have hp:=SK (enc:=enc) (k:=k) (v:=v) l vs 0 hl;rw [Nat.zero_add] at hp;simp only [Option.map_none,List.push_toArray];rw [hp,hs];simp
end
section
variable {κ β:Type} [DecidableEq κ] {k:κ} {z:Value} {enc:κ→Value} {ev':β→Value}
theorem Q2:∀ {l:List (κ×β)} (d:β),mI k (l.map Prod.fst)=none→Go.L.HL d k l=d
 | [],_,_=>rfl
 | (a,y)::l,d,h=>by
  simp only [List.map_cons,mI] at h
  split at h
  ·cases h
  ·rename_i e;simp only [Go.L.HL,if_neg e];exact Q2 d (by cases b:mI k (l.map Prod.fst) <;> simp_all)
theorem Q3:∀ {l:List (κ×β)} {m:Nat} (d:β),mI k (l.map Prod.fst)=some m→l[m]? = some (k,Go.L.HL d k l)
 | (a,y)::l,m,d,h=>by
  simp only [List.map_cons,mI] at h
  split at h
  ·rename_i e;cases h;subst e;simp [Go.L.HL]
  ·rename_i e
   cases b:mI k (l.map Prod.fst) with
   | none=>rw [b] at h;cases h
   | some j=>
    rw [b] at h;cases h
    simpa [Go.L.HL,if_neg e] using Q3 d b
theorem NC{y:β}:∀ {l:List (κ×β)},mI k (l.map Prod.fst)=none→Go.L.Hk k y l=l++[(k,y)]
 | [],_=>rfl
 | (a,x)::l,h=>by
  simp only [List.map_cons,mI] at h
  split at h
  ·cases h
  ·rename_i e;simp only [Go.L.Hk,if_neg e,List.cons_append];rw [NC (by cases b:mI k (l.map Prod.fst) <;> simp_all)]
theorem ND{y:β}:∀ {l:List (κ×β)} {m:Nat},mI k (l.map Prod.fst)=some m→Go.L.Hk k y l=l.set m (k,y)
 | (a,x)::l,m,h=>by
  simp only [List.map_cons,mI] at h
  split at h
  ·rename_i e;cases h;subst e;simp [Go.L.Hk]
  ·rename_i e
   cases b:mI k (l.map Prod.fst) with
   | none=>rw [b] at h;cases h
   | some j=>
    rw [b] at h;cases h;simp only [Go.L.Hk,if_neg e];rw [ND b]
    rfl
theorem QV{y:β}{l:List (κ×β)}:Z4 k (l.map Prod.fst)=(Go.L.Hk k y l).map Prod.fst:=by
 unfold Z4
 cases h:mI k (l.map Prod.fst) with
 | none=>rw [NC h];simp
 | some m=>
  rw [ND h];obtain⟨b,h2⟩:=Sb h;simp only [List.map_set];obtain⟨h3,a⟩:=List.getElem?_eq_some_iff.1 h2
  conv=>lhs;rw [← List.set_getElem_self h3,a]
end
abbrev Oe{κ β:Type}(enc:κ→Value)(b:Nat)(l:List (κ×β))(vs:List Value):AN:=.obj b (.map (mE enc 0 (l.map Prod.fst) vs).toArray l.length)
section
variable {P:Program} {n:Sz} {ops:Array Oper} {Q:Exit→Act→World→Prop} {L:Env} {w w0:World} {O:List AN} {rest:List Oper} {d:Nat} {ty t kt et:TypeId} {pos:String} {af:Array Edge} {x y x':Operand}
 {κ β:Type} [DecidableEq κ] {enc:κ→Value} {ev':β→Value} {l:List (κ×β)} {k:κ} {H:PH}
omit [DecidableEq κ] in
theorem Sc[Dr](enc:κ→Value)(β:Type)(hn:Nat.blt d n.n=true)(hL:AR w0 O w)
  (h:∀ w' b,AR w0 (Oe enc b ([]:List (κ×β)) []::O) w'→Le (fz w O) (fz w' (Oe enc b ([]:List (κ×β)) []::O))→S P n ops Q rest ((d,.map (some b))::L) w'):S P n ops Q (⟨some d,.makeMap t none,ty,pos,af,none⟩::rest) L w:=by
 have hb:∀ b,(AN.obj w.heap.size (.map (mE enc 0 (([]:List (κ×β)).map Prod.fst) []).toArray ([]:List (κ×β)).length)).block=some b→w.heap.size≤b:=fun b e=>by cases e;exact Nat.le_refl _
 refine Da (v:=.map (some w.heap.size)) (w':=w.alloc (.map #[] 0)) rfl rfl hn (fun ρ hρ=>?_) (h _ _ (hL.new (Cl w _) (World.alloc_heap_new w _) hb) (Ou hL (Cl w (.map #[] 0)) hb));simp [execOp,Instr.makeMap,newObj,Sem.run]
end
section
variable {κ α:Type} (cw:α→List Value) (e:TypeId) (sz:Nat)
def mR(x:List α)(v:Value):AN:=.row v e sz x.length (x.flatMap cw)
def mT:List (κ×List α)→List Value→List AN
 | x::l,v::vs=>mR cw e sz x.2 v::mT l vs
 | _,_=>[]
end
section
variable {κ α:Type} {cw:α→List Value} {e:TypeId} {sz:Nat}
theorem WW:∀ {l:List (κ×List α)} {vs:List Value},l.length=vs.length→∀ {i:Nat} {k:κ} {x:List α},l[i]? = some (k,x)→Dq (mT cw e sz l vs) i=some (mR cw e sz x (vs.getD i default))
 | y::l,v::vs,h,0,k,x,hx=>by simp at hx;subst hx;rfl
 | y::l,v::vs,h,i+1,k,x,hx=>by
  have:=WW (l:=l) (vs:=vs) (by simpa using h) (i:=i) (by simpa using hx)
  simpa [mT,Dq] using this
theorem WX:∀ {l:List (κ×List α)} {vs:List Value},l.length=vs.length→∀ {i:Nat} (k:κ) (x:List α) (v:Value),i<l.length→CJ (mT cw e sz l vs) i (mR cw e sz x v)=mT cw e sz (l.set i (k,x)) (vs.set i v)
 | y::l,u::vs,h,0,k,x,v,_=>rfl
 | y::l,u::vs,h,i+1,k,x,v,hi=>by
  have:=WX (l:=l) (vs:=vs) (by simpa using h) (i:=i) k x v (by simpa using hi);simp [mT,CJ,this]
theorem SL(k:κ)(x:List α)(v:Value):∀ {l:List (κ×List α)} {vs:List Value},l.length=vs.length→mT cw e sz (l++[(k,x)]) (vs++[v])=mT cw e sz l vs++[mR cw e sz x v]
 | [],[],_=>rfl
 | y::l,u::vs,h=>by
  have:=SL k x v (l:=l) (vs:=vs) (by simpa using h);simp [mT,this]
end
section
variable {P:Program} {n:Sz} {ops:Array Oper} {Q:Exit→Act→World→Prop} {L:Env} {w w0:World} {O:List AN} {rest:List Oper} {d:Nat} {ty ty' t mt kt et e:TypeId} {pos pos':String} {af af':Array Edge} {x y x' m':Operand}
 {κ α:Type} [DecidableEq κ] {enc:κ→Value} {cw:α→List Value} {sz:Nat} {l:List (κ×List α)} {vs:List Value} {k:κ} {H:PH} {A:List AN}
def ZX(cw:α→List Value)(e:TypeId)(sz:Nat)(l:List (κ×List α))(vs:List Value)(k:κ)(y:List α)(v:Value)(T:List AN):Prop:=
 v.oneCell'=true∧l.length=vs.length∧T.Perm (mT cw e sz (Go.L.Hk k y l) (Ux k v (l.map Prod.fst) vs))
theorem WY[Dr]{r:Rp α}{bt:Nat}{zz u:Value}{z:α}(hr:∀ G (x:α) c,r.rel G x c↔c=cw x)(hsz:r.sz=sz)(hx:ev L x=some (Uw (.slice none 0 0) k (l.map Prod.fst) vs))(hy:ev L y=some u)(ht:P.underlying t=some (.slice e))(hz:Zr P e zz sz bt)(hzs:zz.cells.size=sz)(g:0<sz)(hn:Nat.blt d n.n=true)
  (hH:Le H (hp w0)) (hL:AR w0 (A++mT cw e sz l vs) w) (hl:l.length=vs.length) (hu:AI r (gz H w0 w (A++mT cw e sz l vs)) u [z]) (hby:JE bt ((Go.L.HL [] k l).length+1))
  (h:∀ v' w' T,ZX cw e sz l vs k (Go.L.HL [] k l++[z]) v' T→AR w0 (A++T) w'→Le (fz w (A++mT cw e sz l vs)) (fz w' (A++T))→S P n ops Q rest ((d,v')::L) w') :
  S P n ops Q (⟨some d,.call ⟨.builtin .append,#[x,y],#[t,t]⟩,ty,pos,af,none⟩::rest) L w:=by
 have hel:∃ news,news=cw z∧Src (hp w) sz u 1 news:=by
  obtain⟨news,b,h2⟩:=hu.elems
  have h3:news=cw z:=by
   cases b with
   | cons hc ht=>cases ht;rw [List.append_nil];exact(hr _ _ _).1 hc
  rw [hsz] at h2;exact⟨news,h3,h2.mono (As hH hL)⟩
 obtain⟨news,rfl,hsrc⟩:=hel;have hone:∀ c∈cw z,c.oneCell'=true:=fun c hc=>r.one (H:=H) ((hr H z (cw z)).2 rfl) c hc
 cases hmi:mI k (l.map Prod.fst) with
 | some m=>
  obtain⟨b,h2⟩:=Sb hmi;have h1':m<l.length:=by simpa using b
  have hg:=Q3 ([]:List α) hmi;have hrow:=WW (cw:=cw) (e:=e) (sz:=sz) hl hg;have hlk:Uw (.slice none 0 0) k (l.map Prod.fst) vs=vs.getD m default:=by unfold Uw;rw [hmi]
  rw [hlk] at hx;have hO:Dq (A++mT cw e sz l vs) (A.length+m)=some (.row (vs.getD m default) e sz (Go.L.HL [] k l).length ((Go.L.HL [] k l).flatMap cw)):=by rw [OF];exact hrow
  refine QJ (A.length+m) hx hy ht hz hzs g hn hL hO hsrc hone hby fun v' w' hL' hle'=>?_;have p:(.row v' e sz ((Go.L.HL [] k l).length+1) ((Go.L.HL [] k l).flatMap cw++cw z):AN)=mR cw e sz (Go.L.HL [] k l++[z]) v':=by simp [mR]
  rw [p,TH,WX hl k _ _ h1'] at hL' hle';have f:Ux k v' (l.map Prod.fst) vs=vs.set m v':=by unfold Ux;rw [hmi]
  refine h v' w' _ ⟨?_,hl,?_⟩ hL' hle'
  ·have j:(l.set m (k,Go.L.HL [] k l++[z])).length=(vs.set m v').length:=by simp [hl]
   have o:(l.set m (k,Go.L.HL [] k l++[z]))[m]? = some (k,Go.L.HL [] k l++[z]):=by simp [h1']
   have a:=WW (cw:=cw) (e:=e) (sz:=sz) j o;have hgv:(vs.set m v').getD m default=v':=by simp [List.getD_eq_getElem?_getD,show m<vs.length by omega]
   rw [hgv] at a;have:=hL'.at (i:=A.length+m) (r:=mR cw e sz (Go.L.HL [] k l++[z]) v') (by rw [OF];exact a);exact row_one this
  ·rw [f,ND hmi]
 | none=>
  have hg:=Q2 ([]:List α) hmi;have hlk:Uw (.slice none 0 0) k (l.map Prod.fst) vs=.slice none 0 0:=by unfold Uw;rw [hmi]
  rw [hlk] at hx;have hnil:=Qy hL e sz;have hby':JE bt (0+1):=by rw [hg] at hby;exact hby
  refine QJ 0 hx hy ht hz hzs g hn hnil.1 rfl hsrc hone hby' fun v' w' hL' hle'=>?_
  have hp:(A++(mT cw e sz l vs++[mR cw e sz [z] v'])).Perm (.row v' e sz (0+1) ([]++cw z)::(A++mT cw e sz l vs)):=by
   rw [← List.append_assoc];have:(mR cw e sz [z] v':AN)=.row v' e sz (0+1) ([]++cw z):=by simp [mR]
   rw [this];exact List.perm_append_singleton _ _
  have f:Ux k v' (l.map Prod.fst) vs=vs++[v']:=by unfold Ux;rw [hmi]
  refine h v' w' (mT cw e sz l vs++[mR cw e sz [z] v']) ⟨row_one (hL'.at (i:=0) rfl),hl,?_⟩ (hL'.perm hp) ?_
  ·rw [f,NC hmi,hg,List.nil_append,SL k [z] v' hl]
  ·rw [HZ hp];exact hnil.2.trans hle'
theorem ZY[Dr](ib:Nat){b:Nat}{v:Value}{yl:List α}{T:List AN}(hpd:ZX cw e sz l vs k yl v T)(hm:ev L m'=some (.map (some b)))(hkx:ev L x'=some (enc k))(hv:ev L x=some v)(hmt:P.underlying mt=some (.map kt et))(hk:MC P kt enc)
  (hL:AR w0 (A++T) w) (hib:Dq A ib=some (Oe enc b l vs))
  (h:∀ vs' w',(Go.L.Hk k yl l).length=vs'.length→AR w0 (CJ A ib (Oe enc b (Go.L.Hk k yl l) vs')++mT cw e sz (Go.L.Hk k yl l) vs') w'→
   Le (fz w (A++T)) (fz w' (CJ A ib (Oe enc b (Go.L.Hk k yl l) vs')++mT cw e sz (Go.L.Hk k yl l) vs'))→S P n ops Q rest L w') :
  S P n ops Q (⟨none,.mapUpdate mt m' x' x,ty,pos,af,none⟩::rest) L w:=by
 obtain⟨_,hl,hpm⟩:=hpd;have hb:w.heap[b]? = some (.map (mE enc 0 (l.map Prod.fst) vs).toArray l.length):=hL.at (Jg T hib);have hur:=Uy (k:=k) (v:=v) (l:=l.map Prod.fst) (vs:=vs) hk hmt (by rw [List.length_map];exact hb) (by simp [hl]);rw [QV (y:=yl),List.length_map] at hur;have hp:=hL.putAt (.map (mE enc 0 ((Go.L.Hk k yl l).map Prod.fst) (Ux k v (l.map Prod.fst) vs)).toArray (Go.L.Hk k yl l).length) (Jg T hib);rw [LQ _ _ hib] at hp;have a:=List.Perm.append_left (CJ A ib (Oe enc b (Go.L.Hk k yl l) (Ux k v (l.map Prod.fst) vs))) hpm.symm;have hlen:=ZW (k:=k) (v:=v) (l:=l.map Prod.fst) (vs:=vs) (by simp [hl]);rw [QV (y:=yl),List.length_map] at hlen;refine LM (w':=_) rfl rfl (fun ρ hρ=>?_) (h (Ux k v (l.map Prod.fst) vs) _ hlen (hp.1.perm a) ?_)
 ·simp [execOp,hρ m' _ hm,hρ x' _ hkx,hρ x _ hv,hur]
 ·rw [HZ a];exact hp.2
end
def RC{κ β:Type}(enc:κ→Value)(r:Rp β)(H:PH)(v:Value)(l:List (κ×β)):Prop:=
 ∃ b vs,v=.map (some b)∧H b=some (.map (mE enc 0 (l.map Prod.fst) vs).toArray l.length)∧l.length=vs.length∧∀ i x,l[i]? = some x→r.rel H x.2 [vs.getD i default]
theorem RC.mono{κ β:Type}{enc:κ→Value}{r:Rp β}{H H':PH}{v:Value}{l:List (κ×β)}(h:RC enc r H v l)(hs:Le H H'):RC enc r H' v l:=by
 obtain⟨b,vs,a,h2,h3,c⟩:=h;exact⟨b,vs,a,hs _ _ h2,h3,fun i x hx=>r.mono hs (c i x hx)⟩
section
variable {P:Program} {L:Env} {w w0:World} {ty t kt et e:TypeId} {x y:Operand} {κ α:Type} [DecidableEq κ] {enc:κ→Value} {cw:α→List Value} {r:Rp α} {sz:Nat} {l:List (κ×List α)} {vs:List Value} {k:κ} {H:PH} {A:List AN}
omit [DecidableEq κ] in
theorem Vh[Dr](hsz:r.sz=sz)(hr:∀ G (x:α) c,r.rel G x c↔c=cw x)(hH:Le H (hp w0)):∀ {l:List (κ×List α)} {vs:List Value},l.length=vs.length→AR w0 (A++mT cw e sz l vs) w→AR w0 A w∧Le (fz w (A++mT cw e sz l vs)) (fz w A)∧∀ i x,l[i]? = some x→AI r (gz H w0 w A) (vs.getD i default) x.2
 | [],[],_,hL=>⟨by simpa [mT] using hL,by simp only [mT,List.append_nil];exact Le.refl _,fun i x hx=>by cases hx⟩
 | y::l,v::vs,hn,hL=>by
  have hi:Dq (A++mT cw e sz (y::l) (v::vs)) (A.length+0)=some (.row v e r.sz y.2.length (y.2.flatMap cw)):=by rw [OF,hsz];rfl
  have hel:AM r (gz H w0 w (A++mT cw e sz (y::l) (v::vs))) y.2 (y.2.flatMap cw):=by
   generalize gz H w0 w (A++mT cw e sz (y::l) (v::vs))=G
   induction y.2 with
   | nil=>exact .nil
   | cons a m ih=>rw [List.flatMap_cons];exact .cons ((hr _ _ _).2 rfl) ih
  have hv:=hL.Ct hH hi hel;have b:=hL.AP hi;have d:=Am (w:=w) hi;rw [TI] at hv b d;obtain⟨f,h2,h3⟩:=Vh hsz hr hH (l:=l) (vs:=vs) (by simpa using hn) b;refine⟨f,d.trans h2,fun i x hx=>?_⟩
  cases i with
  | zero=>simp at hx;subst hx;exact hv.mono (Ab hH h2)
  | succ i=>simpa using h3 i x (by simpa using hx)
 | [],_::_,h,_=>by cases h
 | _::_,[],h,_=>by cases h
omit [DecidableEq κ] in
theorem Vi[Dr](ib:Nat){b:Nat}(hsz:r.sz=sz)(hr:∀ G (x:α) c,r.rel G x c↔c=cw x)(hH:Le H (hp w0))(hl:l.length=vs.length)(hL:AR w0 (A++mT cw e sz l vs) w)(hib:Dq A ib=some (Oe enc b l vs)):
  AR w0 (KF A ib) w∧Le (fz w (A++mT cw e sz l vs)) (fz w (KF A ib))∧RC enc (.vec r) (gz H w0 w (KF A ib)) (.map (some b)) l:=by
 obtain⟨a,h2,h3⟩:=Vh hsz hr hH hl hL;have d:=Am (w:=w) hib;have hb:=a.at hib;refine⟨a.AP hib,h2.trans d,b,vs,rfl,?_,hl,fun i x hx=>⟨_,rfl,(h3 i x hx).mono (Ab hH d)⟩⟩;have hge:=a.own _ ((Df hib).mem_iff.2 (.head _)) b rfl;have f:fz w (KF A ib) b=w.heap[b]?:=QF hib rfl a.Yj;refine OD b _ ?_;unfold nf;rw [if_pos hge,f];exact hb
theorem Aa4[Dr]{v:Value}(hm:RC enc (.vec r) H v l)(hk:MC P kt enc)(ht:P.underlying t=some (.map kt et))(hz:Mz P et (.slice none 0 0))(hx:ev L x=some v)(hy:ev L y=some (enc k))(hs:Le H (hp w)):
  ∃ u,Bt P L w (.lookup t x y false) ty u∧AI r H u (Go.L.HL [] k l):=by
 obtain⟨b,vs,rfl,h2,h3,d⟩:=hm;refine⟨Uw (.slice none 0 0) k (l.map Prod.fst) vs,fun w' hx' ρ hρ dst pos af g=>?_,?_⟩
 ·have:=QU (k:=k) (l:=l.map Prod.fst) (vs:=vs) hk ht hz (hx'.le _ _ (hs _ _ h2)) (by simp [h3]);simp [execOp,hρ x _ hx,hρ y _ hy,this]
 ·unfold Uw
  cases hmi:mI k (l.map Prod.fst) with
  | none=>rw [Q2 [] hmi];exact AI.nil r H
  | some m=>
   obtain⟨u,a,c⟩:=d m _ (Q3 [] hmi);simp only [List.cons.injEq,and_true] at a
   show AI r H (vs.getD m default) _
   rw [a];exact c
end
theorem TJ(a b:List UInt8):((⟨a.toArray⟩:ByteArray)==⟨b.toArray⟩)=decide (a=b):=by
 have:((⟨a.toArray⟩:ByteArray)==⟨b.toArray⟩)=(a.toArray==b.toArray):=rfl;rw [this,Bool.eq_iff_iff];simp
def encS(s:List UInt8):Value:=.string ⟨s.toArray⟩
theorem VD{P:Program}{kt:TypeId}(hd:P.underlying kt=some .string):MC P kt encS:=
 ⟨fun b k w=>by
   obtain⟨d,he⟩:∃ d,10000=d+1:=⟨9999,rfl⟩;rw [he];simp [Instr.checkKey,encS,run_underlying hd],
  fun k=>by simp [Instr.sameBits,encS,TJ],
  ⟨_,hd,.inl fun a b=>by simp only [Instr.sameNow,encS,TJ]⟩⟩
section
variable {P:Program} {n:Sz} {ops:Array Oper} {Q:Exit→Act→World→Prop} {L:Env} {w:World} {rest:List Oper} {d:Nat} {ty t kt et:TypeId} {pos:String} {af:Array Edge} {x y:Operand}
 {κ α:Type} [DecidableEq κ] {enc:κ→Value} {r:Rp α} {l:List (κ×List α)} {k:κ} {H:PH} {v:Value}
theorem Vj[Dr](hx:ev L x=some v)(hy:ev L y=some (enc k))(ht:P.underlying t=some (.map kt et))(hk:MC P kt enc)(hz:Mz P et (.slice none 0 0))(hm:RC enc (.vec r) H v l)(hs:Le H (hp w))(hn:Nat.blt d n.n=true)
  (h:∀ u,AI r H u (Go.L.HL [] k l)→S P n ops Q rest ((d,u)::L) w):S P n ops Q (⟨some d,.lookup t x y false,ty,pos,af,none⟩::rest) L w:=by
 obtain⟨u,a,h2⟩:=Aa4 (ty:=ty) hm hk ht hz hx hy hs;exact Af a hn (h u h2)
end
abbrev VE(h:Int×Int):List Value:=[.int .i64 h.1,.int .i64 h.2]
theorem WZ:∀ (G:PH) (x:Int×Int) (c:List Value),(Rp.pair (.int .i64) (.int .i64)).rel G x c↔c=VE x:=
 fun _ _ _=>⟨fun⟨_,_,h,a,h2⟩=>by subst a;subst h2;exact h,fun h=>⟨_,_,h,rfl,rfl⟩⟩
abbrev cwI(h:Int):List Value:=[.int .i64 h]
theorem Z5:∀ (G:PH) (x:Int) (c:List Value),(Rp.int .i64).rel G x c↔c=cwI x:=fun _ _ _=>Iff.rfl
end Go.E
namespace Go.E
open Go Go.RowKit
def QW(ops:Array Oper)(j:Nat):Bool:=match ops[j]? with
 | some oj=>(List.range ops.size).all fun k=>k==j||oj.after.any fun e=>Region.binds .any e&&e.on==k
 | none=>false
theorem VF{ops:Array Oper}{i j:Nat}{oj:Oper}(hj:ops[j]? = some oj)(hi:i<ops.size)(hne:i≠j)(hnot:∀ e∈oj.after,Region.binds .any e=true→e.on≠i):QW ops j=false:=by
 unfold QW;rw [hj];simp only
 cases h:(List.range ops.size).all (fun k=>k==j||oj.after.any fun e=>Region.binds .any e&&e.on==k) with
 | false=>rfl
 | true=>
  have a:=List.all_eq_true.1 h i (List.mem_range.2 hi);simp only [Bool.or_eq_true,beq_iff_eq,hne,false_or] at a;obtain⟨e,he,hb⟩:=Array.any_eq_true'.1 a;simp only [Bool.and_eq_true,beq_iff_eq] at hb;exact absurd hb.2 (hnot e he hb.1)
def Yl(ops:Array Oper)(j k:Nat):Bool:=match ops[j]? with
 | some oj=>oj.after.any fun e=>Region.binds .any e&&e.on==k
 | none=>false
def Vk(ops:Array Oper)(j:Nat):List Nat→Bool
 | []=>true
 | x::r=>(Yl ops j x||r.any fun y=>Yl ops y x)&&Vk ops j r
def Sd(ops:Array Oper)(j:Nat)(c:List Nat):Bool:=Vk ops j c&&(List.range ops.size).all fun k=>k==j||c.contains k||Yl ops k j
def ClP(ops:Array Oper)(listed:Array Bool):Prop:=∀ k x,Yl ops k x=true→listed.getD k true=true→listed.getD x true=true
def ClB(ops:Array Oper)(listed:Array Bool):Bool:=Nat.ble listed.size ops.size&&(List.range ops.size).all fun k=>!(listed.getD k true)||(List.range ops.size).all fun x=>!(Yl ops k x)||listed.getD x true
theorem Xa{ops:Array Oper}{listed:Array Bool}(h:ClB ops listed=true):ClP ops listed:=fun k x hd hk=>by
 simp only [ClB,Bool.and_eq_true,List.all_eq_true,List.mem_range,Bool.or_eq_true,Bool.not_eq_true'] at h
 have hk':k<ops.size:=by
  rcases Nat.lt_or_ge k ops.size with a | a
  ·exact a
  ·simp [Yl,Array.getElem?_eq_none a] at hd
 rcases Nat.lt_or_ge x ops.size with hx | hx
 ·rcases h.2 k hk' with a | a
  ·rw [a] at hk;cases hk
  ·rcases a x hx with h2 | h2
   ·rw [h2] at hd;cases hd
   ·exact h2
 ·have:=Nat.le_of_ble_eq_true h.1;rw [Array.getD_eq_getD_getElem?,Array.getElem?_eq_none (by omega)];rfl
theorem Vl{l:Array Bool}{k:Nat}(h:l.getD k false=true):l.getD k true=true:=by
 rw [Array.getD_eq_getD_getElem?] at *
 cases hq:l[k]? with
 | none=>rfl
 | some b=>rw [hq] at h;exact h
theorem PO{ops:Array Oper}{listed:Array Bool}{j:Nat}(hc:ClP ops listed)(hj:∀ x,Yl ops j x=true→listed.getD x true=true):∀ (c:List Nat),Vk ops j c=true→∀ x∈c,listed.getD x true=true
 | [],_,x,hx=>by cases hx
 | y::r,h,x,hx=>by
  simp only [Vk,Bool.and_eq_true,Bool.or_eq_true,List.any_eq_true] at h;have ih:=PO hc hj r h.2
  rcases List.mem_cons.1 hx with rfl | hx
  ·rcases h.1 with a | ⟨z,hz,a⟩
   ·exact hj _ a
   ·exact hc z _ a (ih z hz)
  ·exact ih x hx
section
variable (Inv:World→Prop) (P:Program) (ops:Array Oper) (Q:Exit→Act→World→Prop)
def L9:Nat→Array Bool→Act→World→Prop
 | 0,listed,a,w=>Region.ready .any ops listed=[]∧Q .normal a w
 | m+1,listed,a,w=>(Region.ready .any ops listed=[]→Q .normal a w)∧
  ∀ i∈Region.ready .any ops listed,wpOp P ops Q i (fun a' w'=>(QW ops i=true∨(∃ c,Sd ops i c=true)∨Inv w')∧L9 m (listed.setIfInBounds i true) a' w') a w
def Jv(o:Oper)(v:Value)(a:Act):Prop:=
 (Region.wanted o (yielded ops a.tmps)=true∧∀ w,Inv w→(execOp a.eval o).run P w=.ok (.value v) w)∨
 (Region.wanted o (yielded ops a.tmps)=false∧v=undef)
end
section
variable {Inv:World→Prop} {P:Program} {ops:Array Oper} {Q:Exit→Act→World→Prop}
theorem QX:∀ (m:Nat) (listed:Array Bool) (a:Act) (w:World),L9 Inv P ops Q m listed a w→wpAny P .any ops Q m listed a w
 | 0,_,_,_,h=>h
 | m+1,_listed,_a,_w,h=>⟨h.1,fun i hi=>wpOp_mono (fun _a' _w' k=>QX m _ _ _ k.2) (h.2 i hi)⟩
theorem Jv.same{o:Oper}{v:Value}{a a':Act}(hy:Jv Inv P ops o v a)(he:execOp a'.eval o=execOp a.eval o)(hw:Region.wanted o (yielded ops a'.tmps)=Region.wanted o (yielded ops a.tmps)):Jv Inv P ops o v a':=by
 unfold Jv at *;rw [he,hw];exact hy
theorem Jv.op{i:Nat}{o:Oper}{v:Value}{a:Act}{w:World}(hi:ops[i]? = some o)(hy:Jv Inv P ops o v a)(hw:Inv w){K:Act→World→Prop}(h:K (a.put o.dst v) w):wpOp P ops Q i K a w:=by
 unfold wpOp;simp only [hi]
 rcases hy with ⟨b,hv⟩ | ⟨b,rfl⟩
 ·simp only [b,if_true,Oper.wp,hv w hw,Oper.upon];exact .inl h
 ·simp only [b,Bool.false_eq_true,if_false];exact h
theorem YA{j:Nat}{oi oj:Oper}{v:Value}(hj:ops[j]? = some oj)(hap:oi.apart ops oj=true)(hsi:∀ cs b,oi.op≠.select cs b)(hsj:∀ cs b,oj.op≠.select cs b)
  (hQ:∀ c a w,Q (.panic c) (a.put oi.dst v) w→Q (.panic c) a w) {K:Act→World→Prop} {a:Act} {w:World} (hy:Jv Inv P ops oi v a) (h:wpOp P ops Q j K (a.put oi.dst v) w) :
  wpOp P ops Q j (fun a' w'=>Jv Inv P ops oi v a'∧K (a'.put oi.dst v) w') a w:=by
 obtain⟨g,h2,h3⟩:=Oper.apart_spec hap;have keep:∀ a,Jv Inv P ops oi v a→∀ u,Jv Inv P ops oi v (a.put oj.dst u):=fun a hy u=>hy.same (execOp_put oi hsi a oj.dst u h3) (wanted_put oi a oj.dst u h3);unfold wpOp at *;simp only [hj] at *;rw [wanted_put oj a oi.dst v g] at h
 split
 ·rename_i hw;simp only [hw,if_true] at h
  rcases h with h | ⟨ha,hl⟩
  case inr=>exact .inr ⟨by unfold Oper.asks at *;rw [execOp_put oj hsj a oi.dst v g] at ha;exact ha,hl⟩
  refine .inl ?_;unfold Oper.wp at *;rw [execOp_put oj hsj a oi.dst v g] at h;generalize (execOp a.eval oj).run P w=r at *
  cases r with
  | ok x w'=>
   cases x <;> simp only [Oper.upon] at h ⊢
   case value u=>exact⟨keep a hy u,by rw [← Act.put_comm a v u h2];exact h⟩
   case skip=>exact⟨keep a hy _,by rw [← Act.put_comm a v undef h2];exact h⟩
   case defer d=>
    refine⟨keep {a with defers:=d::a.defers} (hy.same rfl rfl) _,?_⟩;rw [← Act.put_comm _ v undef h2,← Act.put_defers];exact h
   case enter f args=>
    refine h.mono fun e w'' he=>?_
    cases e with
    | returned u=>exact⟨keep a hy u,by rw [← Act.put_comm a v u h2];exact he⟩
    | panicked c=>exact hQ _ _ _ he
    | outgrown=>exact he
   case row row args=>exact Rows.mono h fun u w'' he=>⟨keep a hy u,by rw [← Act.put_comm a v u h2];exact he⟩
  | halt x w'=>
   cases x <;> simp only [Oper.upon] at h ⊢
   case panic u=>exact hQ _ _ _ h
 ·rename_i hw;simp only [hw] at h;exact⟨keep a hy _,by rw [← Act.put_comm a v undef h2];exact h⟩
theorem Ox{i:Nat}{oi:Oper}{v:Value}(hi:ops[i]? = some oi)(hsel:∀ (j:Nat) (o:Oper) cs b,ops[j]? = some o→o.op≠.select cs b)(hQ:∀ c a w,Q (.panic c) (a.put oi.dst v) w→Q (.panic c) a w):
  ∀
   (m:Nat) (listed:Array Bool) (a:Act) (w:World),
   (∀ j oj,ops[j]? = some oj→j≠i→listed.getD j true=false→(∀ e∈oj.after,Region.binds .any e=true→e.on≠i)→oi.apart ops oj=true)→
   i∈Region.ready .any ops listed→ClP ops listed→Inv w→Jv Inv P ops oi v a→L9 Inv P ops Q m (listed.setIfInBounds i true) (a.put oi.dst v) w→L9 Inv P ops Q (m+1) listed a w:=by
 intro m
 induction m with
 | zero=>
  intro listed a w _ hr _ hw hy H;refine⟨fun h=>(by rw [h] at hr;cases hr),fun j hj=>?_⟩
  by_cases hji:j=i
  ·subst hji;exact hy.op hi hw ⟨.inr (.inr hw),H⟩
  ·have:=ready_mono hj hji;rw [H.1] at this
   cases this
 | succ m ih=>
  intro listed a w hfree hr hcl hw hy H;refine⟨fun h=>(by rw [h] at hr;cases hr),fun j hj=>?_⟩
  by_cases hji:j=i
  ·subst hji;exact hy.op hi hw ⟨.inr (.inr hw),H⟩
  ·have d:=H.2 j (ready_mono hj hji);obtain⟨hjun,oj,hoj,hall⟩:=mem_ready.1 hj
   have hnot:∀ e∈oj.after,Region.binds .any e=true→e.on≠i:=fun e he hb heq=>by
    have d:=hall e he hb;have f:=(mem_ready.1 hr).1;rw [heq] at d
    rcases Nat.lt_or_ge i listed.size with h' | h'
    ·simp [h'] at f d;rw [f] at d;cases d
    ·simp [Array.getElem?_eq_none h'] at d
   have h2:=YA hoj (hfree j oj hoj hji hjun hnot) (fun cs b=>hsel i oi cs b hi) (fun cs b=>hsel j oj cs b hoj) hQ hy d
   have hfree':∀ k ok,ops[k]? = some ok→k≠i→(listed.setIfInBounds j true).getD k true=false→
     (∀ e∈ok.after,Region.binds .any e=true→e.on≠i)→oi.apart ops ok=true:=fun k ok hk hki hun hno=>by
    refine hfree k ok hk hki ?_ hno
    by_cases hjk:j=k
    ·subst hjk;exact hjun
    ·rw [getD_set_ne true hjk] at hun;exact hun
   have hri:i∈Region.ready .any ops (listed.setIfInBounds j true):=ready_mono hr (Ne.symm hji);refine wpOp_mono (fun a' w' ⟨hy',hI,hk⟩=>?_) h2
   have hset:L9 Inv P ops Q m ((listed.setIfInBounds j true).setIfInBounds i true) (a'.put oi.dst v) w':=by
    rw [Array.setIfInBounds_comm _ _ hji];exact hk
   have hi':=(Array.getElem?_eq_some_iff.1 hi).1
   have hjd:∀ x,Yl ops j x=true→listed.getD x true=true:=fun x hx=>by
    simp only [Yl,hoj] at hx;obtain⟨e,he,hb⟩:=Array.any_eq_true'.1 hx;simp only [Bool.and_eq_true,beq_iff_eq] at hb;rw [← hb.2];exact Vl (hall e he hb.1)
   have hiun:=(mem_ready.1 hr).1
   have hI':Inv w':=by
    rcases hI.resolve_left (by rw [VF hoj hi' (Ne.symm hji) hnot];simp) with ⟨c,hc⟩ | hI
    ·exfalso
     simp only [Sd,Bool.and_eq_true,List.all_eq_true,List.mem_range,Bool.or_eq_true,beq_iff_eq] at hc
     rcases hc.2 i hi' with (h3 | h3) | h3
     ·exact hji h3.symm
     ·have g:=PO hcl hjd c hc.1 i (by simpa using h3);rw [hiun] at g;cases g
     ·obtain⟨_,oi',hoi',hall'⟩:=mem_ready.1 hr;simp only [Yl,hoi'] at h3;obtain⟨e,he,hb⟩:=Array.any_eq_true'.1 h3;simp only [Bool.and_eq_true,beq_iff_eq] at hb;have l:=Vl (hall' e he hb.1);rw [hb.2,hjun] at l;cases l
    ·exact hI
   have hcl':ClP ops (listed.setIfInBounds j true):=fun k x hd hk=>by
    by_cases hxj:x=j
    ·subst hxj;rw [Array.getD_eq_getD_getElem?,Array.getElem?_setIfInBounds]
     by_cases hs:x<listed.size
     ·simp [hs]
     ·simp [Array.getElem?_eq_none (Nat.le_of_not_lt hs),hs]
    ·rw [getD_set_ne true (Ne.symm hxj)]
     by_cases hkj:k=j
     ·subst hkj;exact hjd x hd
     ·rw [getD_set_ne true (Ne.symm hkj)] at hk;exact hcl k x hd hk
   exact⟨.inr (.inr hI'),ih _ a' w' hfree' hri hcl' hI' hy' hset⟩
end
def Xb(Inv:World→Prop)(P:Program)(l:List Oper)(Q:Exit→Act→World→Prop)(fuel i:Nat)(listed:Array Bool):Exit→Act→World→Prop:=Exit.then (fun a w=>(QW l.toArray i=true∨(∃ c,Sd l.toArray i c=true)∨Inv w)∧L9 Inv P l.toArray Q fuel listed a w) Q
def Nw(Inv:World→Prop)(P:Program)(n:Sz)(l:List Oper)(Q:Exit→Act→World→Prop)(fuel:Nat)(listed:Array Bool)(L:Env)(w:World):Prop:=∀ a,Fr n a L→L9 Inv P l.toArray Q fuel listed a w
section
variable {Inv:World→Prop} {P:Program} {n:Sz} {l:List Oper} {Q:Exit→Act→World→Prop} {L:Env} {w:World} {y:Code} {fuel:Nat} {m:Nat} {done:List Nat}
theorem Xc[Dr]{id:Nat}(Inv:World→World→Prop)(hm:P.follows .mixedOrders=true)(hl:l.length=m)(h:∀ w',Ext w w'→Nw (Inv w') P n l Q m (MA m []) L w'):W P n (.region id l.toArray true) Q L w:=fun a fr=>by
 refine wp_region_any hm ?_;have:=QX _ _ _ _ (h _ Kb a fr);subst hl
 simpa [MA] using this
theorem Se{i:Nat}{o:Oper}(ho:Hz l i=some o)(h:S P n l.toArray (Xb Inv P l Q fuel i (MA m (i::done))) [o] L w):
  ∀ a,Fr n a L→wpOp P l.toArray Q i (fun a' w'=>(QW l.toArray i=true∨(∃ c,Sd l.toArray i c=true)∨Inv w')∧L9 Inv P l.toArray Q fuel ((MA m done).setIfInBounds i true) a' w') a w:=
 fun a fr=>V9 ho (h a fr) (fun e a w hne he=>by cases e <;> first | exact absurd rfl hne | exact he)
theorem QY{rs:List Nat}{listed:Array Bool}{a:Act}(hr:Region.ready .any l.toArray listed=rs)(hne:rs≠[])
  (h:∀ i∈rs,wpOp P l.toArray Q i (fun a' w'=>(QW l.toArray i=true∨(∃ c,Sd l.toArray i c=true)∨Inv w')∧L9 Inv P l.toArray Q fuel (listed.setIfInBounds i true) a' w') a w):L9 Inv P l.toArray Q (fuel+1) listed a w:=
 ⟨fun e=>by rw [hr] at e;exact absurd e hne,fun i hi=>h i (by rw [← hr];exact hi)⟩
theorem Ea{i:Nat}{o:Oper}(hr:Region.ready .any l.toArray (MA m done)=[i])(ho:Hz l i=some o)(h:S P n l.toArray (Xb Inv P l Q fuel i (MA m (i::done))) [o] L w):Nw Inv P n l Q (fuel+1) (MA m done) L w:=
 fun a fr=>QY hr (by simp) fun k hk=>by
  obtain rfl:k=i:=by simpa using hk
  exact Se ho h a fr
theorem Xd{i j:Nat}{o p:Oper}(hr:Region.ready .any l.toArray (MA m done)=[i,j])(ho:Hz l i=some o)(hp:Hz l j=some p)(h:S P n l.toArray (Xb Inv P l Q fuel i (MA m (i::done))) [o] L w)(h':S P n l.toArray (Xb Inv P l Q fuel j (MA m (j::done))) [p] L w):Nw Inv P n l Q (fuel+1) (MA m done) L w:=
 fun a fr=>QY hr (by simp) fun k hk=>by
  have hk':k=i∨k=j:=by simpa using hk
  rcases hk' with rfl | rfl
  ·exact Se ho h a fr
  ·exact Se hp h' a fr
theorem NI3{i j s:Nat}{o p q:Oper}(hr:Region.ready .any l.toArray (MA m done)=[i,j,s])(ho:Hz l i=some o)(hp:Hz l j=some p)(hq:Hz l s=some q)(h:S P n l.toArray (Xb Inv P l Q fuel i (MA m (i::done))) [o] L w)(h':S P n l.toArray (Xb Inv P l Q fuel j (MA m (j::done))) [p] L w)(h'':S P n l.toArray (Xb Inv P l Q fuel s (MA m (s::done))) [q] L w):Nw Inv P n l Q (fuel+1) (MA m done) L w:=
 fun a fr=>QY hr (by simp) fun k hk=>by
  have hk':k=i∨k=j∨k=s:=by simpa using hk
  rcases hk' with rfl | rfl | rfl
  ·exact Se ho h a fr
  ·exact Se hp h' a fr
  ·exact Se hq h'' a fr
theorem ZZ{i:Nat}(hI:Inv w)(h:Nw Inv P n l Q fuel (MA m done) L w):S P n l.toArray (Xb Inv P l Q fuel i (MA m done)) [] L w:=fun a fr=>⟨.inr (.inr hI),h a fr⟩
theorem Ex{i:Nat}(hl:QW l.toArray i=true)(h:Nw Inv P n l Q fuel (MA m done) L w):S P n l.toArray (Xb Inv P l Q fuel i (MA m done)) [] L w:=fun a fr=>⟨.inl hl,h a fr⟩
theorem Cs{i:Nat}(c:List Nat)(hl:Sd l.toArray i c=true)(h:Nw Inv P n l Q fuel (MA m done) L w):S P n l.toArray (Xb Inv P l Q fuel i (MA m done)) [] L w:=fun a fr=>⟨.inr (.inl ⟨c,hl⟩),h a fr⟩
theorem Dz(hr:Region.ready .any l.toArray (MA m done)=[])(h:At n Q .normal L w):Nw Inv P n l Q 0 (MA m done) L w:=fun a fr=>⟨hr,h a fr⟩
theorem LR{s:Nat}{b:Bool}{listed:Array Bool}(_hb:gt L s=some (.bool b))(a:b=true→Nw Inv P n l Q fuel listed L w)(h2:b=false→Nw Inv P n l Q fuel listed L w):Nw Inv P n l Q fuel listed L w:=by
 cases b
 ·exact h2 rfl
 ·exact a rfl
variable {d:Nat} {op:Op} {ty:TypeId} {pos:String} {af:Array Edge}
theorem AG[Dr](i:Nat){v:Value}(hq:H8 Q)(hI:Inv w)(hc:(Pr l m done i&&ClB l.toArray (MA m done))=true)(ho:Hz l i=some ⟨some d,op,ty,pos,af,none⟩)(hr:∀ w,Inv w→Bt P L w op ty v)(hn:Nat.blt d n.n=true)
  (h:Nw Inv P n l Q fuel (MA m (i::done)) ((d,v)::L) w):Nw Inv P n l Q (fuel+1) (MA m done) L w:=fun a fr=>by
 simp only [Pr,Bool.and_eq_true] at hc;obtain⟨⟨⟨b,h2⟩,h3⟩,e⟩:=hc;have ho':l.toArray[i]? = some ⟨some d,op,ty,pos,af,none⟩:=by rw [EP] at ho;simpa using ho
 exact Ox (v:=v) ho' (Region.noSelect_spec b) (fun c a w k=>hq c a _ _ w k) _ _ a w (Region.free_spec ho' h2) (by simpa using h3) (Xa e) hI
  (.inl ⟨by simp [Region.wanted],fun w' hw'=>hr w' hw' w' (Ext.refl _) _ fr.Qa _ _ _ _⟩) (h _ (fr.put hn))
theorem G4[Dr](i:Nat){v:Value}{j s:Nat}{want b:Bool}{oj:Oper}(hq:H8 Q)(hI:Inv w)(hc:(Pr l m done i&&ClB l.toArray (MA m done))=true)(ho:Hz l i=some ⟨some d,op,ty,pos,af,some (j,want)⟩)(hj:Hz l j=some oj)(hd:oj.dst=some s)(hb:gt L s=some (.bool b))(hw:b=want)(hr:∀ w,Inv w→Bt P L w op ty v)(hn:Nat.blt d n.n=true)
  (h:Nw Inv P n l Q fuel (MA m (i::done)) ((d,v)::L) w):Nw Inv P n l Q (fuel+1) (MA m done) L w:=fun a fr=>by
 simp only [Pr,Bool.and_eq_true] at hc;obtain⟨⟨⟨f,h2⟩,h3⟩,g⟩:=hc;have ho':l.toArray[i]? = some ⟨some d,op,ty,pos,af,some (j,want)⟩:=by rw [EP] at ho;simpa using ho
 have hj':l.toArray[j]? = some oj:=by rw [EP] at hj;simpa using hj
 have hy:yielded l.toArray a.tmps j=some b:=by simp only [yielded,hj',Option.bind_some,hd,fr.get s _ hb]
 refine Ox (v:=v) ho' (Region.noSelect_spec f) (fun c a w k=>hq c a _ _ w k) _ _ a w (Region.free_spec ho' h2) (by simpa using h3) (Xa g) hI
  (.inl ⟨by simp [Region.wanted,hy,hw],fun w' hw'=>?_⟩) (h _ (fr.put hn))
 have e:execOp a.eval ⟨some d,op,ty,pos,af,some (j,want)⟩=execOp a.eval ⟨some d,op,ty,pos,af,none⟩:=rfl;rw [e];exact hr w' hw' w' (Ext.refl _) _ fr.Qa _ _ _ _
theorem BS(i:Nat){j s:Nat}{want b:Bool}{oj:Oper}(hq:H8 Q)(hI:Inv w)(hc:(Pr l m done i&&ClB l.toArray (MA m done))=true)(ho:Hz l i=some ⟨some d,op,ty,pos,af,some (j,want)⟩)(hj:Hz l j=some oj)(hd:oj.dst=some s)(hb:gt L s=some (.bool b))(hw:b = !want)(hn:Nat.blt d n.n=true)
  (h:Nw Inv P n l Q fuel (MA m (i::done)) ((d,undef)::L) w):Nw Inv P n l Q (fuel+1) (MA m done) L w:=fun a fr=>by
 simp only [Pr,Bool.and_eq_true] at hc;obtain⟨⟨⟨e,h2⟩,h3⟩,f⟩:=hc;have ho':l.toArray[i]? = some ⟨some d,op,ty,pos,af,some (j,want)⟩:=by rw [EP] at ho;simpa using ho
 have hj':l.toArray[j]? = some oj:=by rw [EP] at hj;simpa using hj
 have hy:yielded l.toArray a.tmps j=some b:=by simp only [yielded,hj',Option.bind_some,hd,fr.get s _ hb]
 exact Ox (v:=undef) ho' (Region.noSelect_spec e) (fun c a w k=>hq c a _ _ w k) _ _ a w (Region.free_spec ho' h2) (by simpa using h3) (Xa f) hI
  (.inr ⟨by simp [Region.wanted,hy,hw],rfl⟩) (h _ (fr.put hn))
theorem Uz{w:World}{b:Nat}{cs:List Value}{t:TypeId}(h:w.heap[b]? = some (.cells cs.toArray t (0,0))):GM (hp w) ⟨b,0,none⟩ cs:=
 ⟨rfl,fun j u hu=>by
  show Gn (hp w) (Addr.add ⟨b,0,none⟩ j)=some u
  simp only [Addr.add_lit,Gn,hp,h]
  simpa using hu⟩
theorem IB[Dr]{b off:Nat}{cs:List Value}{t t':TypeId}{x:Operand}{u:Value}{dd:TypeDesc}(hx:ev L x=some (.pointer (some ⟨b,off,none⟩)))(ht:P.underlying t=some dd)(hd:Pn dd=true)(h:w.heap[b]? = some (.cells cs.toArray t' (0,0)))(hu:nth cs off=some u):Bt P L w (.load t x) ty u:=by
 have a:=(Uz h).add off;obtain⟨c,hc⟩:=QH cs off u hu;rw [hc] at a;simp only [Addr.add_lit,Nat.zero_add] at a;exact Bh hx ht hd a (Le.refl _)
theorem KK[Dr]{b:Nat}{cs:List Value}{t t':TypeId}{x:Operand}{dd:TypeDesc}{zz:Value}{bt:Nat}(hx:ev L x=some (.pointer (some ⟨b,0,none⟩)))(ht:P.underlying t=some dd)(hd:T6 dd=true)(hz:Zr P t zz cs.length bt)(h:w.heap[b]? = some (.cells cs.toArray t' (0,0))):Bt P L w (.load t x) ty (.agg cs.toArray):=
 Cd hx ht hd hz (Uz h) (Le.refl _)
theorem YB[Dr]{κ:Type}[DecidableEq κ]{enc:κ→Value}{l:List κ}{vs:List Value}{k:κ}{b m:Nat}{t kt et:TypeId}{x y:Operand}{z:Value}(hx:ev L x=some (.map (some b)))(hy:ev L y=some (enc k))(ht:P.underlying t=some (.map kt et))(hk:MC P kt enc)(hz:Mz P et z)
  (h:w.heap[b]? = some (.map (mE enc 0 l vs).toArray m)) (hl:l.length=vs.length):Bt P L w (.lookup t x y false) ty (Uw z k l vs):=fun w' hx' ρ hρ dst pos af g=>by
 have hb:=hx'.le b _ h;have:=QU (k:=k) hk ht hz hb hl;simp [execOp,hρ x _ hx,hρ y _ hy,this]
end
end Go.E
namespace Go.E
open Go Go.RowKit
section
variable {P:Program} {L:Env} {w w0:World} {O:List AN} {x y:Operand} {ty t t' e src dst u T:TypeId} {b:Nat} {cs:List Value}
end
def BAd(b:Nat)(v:Value):Prop:=v=.pointer none∨v=.pointer (some ⟨b,0,none⟩)
theorem BAd.one{b:Nat}{v:Value}(h:BAd b v):v.oneCell'=true:=by rcases h with rfl | rfl <;> rfl
section
variable {P:Program} {n:Sz} {ops:Array Oper} {Q:Exit→Act→World→Prop} {L:Env} {w w0:World} {O:List AN} {rest:List Oper} {d:Nat} {ty pt it e:TypeId} {pos:String} {af:Array Edge} {x y:Operand} {H:PH}
end
end Go.E
end
noncomputable section
namespace Go.L
inductive Pv where
 | mk (kind number:Int) (bytes:List UInt8) (names:List (List UInt8)) (parts:List Pv)
instance:Inhabited Pv:=⟨.mk 0 0 [] [] []⟩
abbrev PvF:Type:=Int×Int×List UInt8×List (List UInt8)×List Pv
def Pv.f:Pv→PvF
 | .mk k n b ns ps=>(k,n,b,ns,ps)
end Go.L
namespace Go.E
open Go Go.L
variable {α β:Type}
def Rp.via(r:Rp β)(f:α→β):Rp α:=⟨r.sz,fun H x c=>r.rel H (f x) c,fun h=>r.len h,fun hs h=>r.mono hs h,fun h=>r.one h⟩
def Rp.no(α:Type)(n:Nat):Rp α:=⟨n,fun _ _ _=>False,fun h=>h.elim,fun _ h=>h,fun h=>h.elim⟩
theorem AI.Xe{r s:Rp α}{H:PH}{v:Value}{l:List α}(hz:r.sz=s.sz)(h:AI r H v l)(hrel:∀ x∈l,∀ c,r.rel H x c→s.rel H x c):AI s H v l:=by
 obtain⟨a,cap,b,h2,h3,d,e⟩:=h.ex;refine⟨a,cap,b,h2,h3,d,fun A hA hl=>?_⟩;obtain⟨f,g⟩:=e A hA hl;refine⟨f,fun i x hx=>?_⟩;obtain⟨c,hc,hcell⟩:=g i x hx;exact⟨c,hrel x (List.mem_of_getElem? hx) c hc,fun j u hu=>by rw [← hz];exact hcell j u hu⟩
def Rp.fields(r:Rp Pv):Rp PvF:=.pair (.int .i64) (.pair (.int .i64) (.pair (.vec .byte) (.pair (.vec .st) (.vec r))))
def Rp.KL:Nat→Rp Pv
 | 0=>.no Pv 5
 | d+1=>(Rp.fields (Rp.KL d)).via Pv.f
theorem Rp.Nf:∀ d,(Rp.KL d).sz=5
 | 0=>rfl
 | _+1=>rfl
theorem Rp.Sf{r s:Rp Pv}{H:PH}{x:PvF}{c:List Value}(hz:r.sz=s.sz)(hrel:∀ y∈x.2.2.2.2,∀ c,r.rel H y c→s.rel H y c)(h:(Rp.fields r).rel H x c):(Rp.fields s).rel H x c:=by
 obtain⟨c1,c2,a,b,c3,c4,d,h2,c5,c6,e,h3,c7,c8,f,g,v,i,j⟩:=h;exact⟨c1,c2,a,b,c3,c4,d,h2,c5,c6,e,h3,c7,c8,f,g,v,i,j.Xe hz hrel⟩
theorem Rp.QZ{H:PH}:∀ (d:Nat) (x:Pv) (c:List Value),(Rp.KL d).rel H x c→(Rp.KL (d+1)).rel H x c
 | 0,_,_,h=>h.elim
 | d+1,x,c,h=>Rp.Sf (r:=Rp.KL d) (s:=Rp.KL (d+1)) (by rw [Rp.Nf,Rp.Nf]) (fun y _ c h=>Rp.QZ d y c h) h
theorem Rp.TK{H:PH}{d e:Nat}(h:d≤e){x:Pv}{c:List Value}(hx:(Rp.KL d).rel H x c):(Rp.KL e).rel H x c:=by
 induction h with
 | refl=>exact hx
 | step _ ih=>exact Rp.QZ _ _ _ ih
def Rp.tree:Rp Pv:=⟨5,fun H x c=>∃ d,(Rp.KL d).rel H x c,fun h=>by obtain⟨d,h⟩:=h;rw [(Rp.KL d).len h,Rp.Nf],fun hs h=>by obtain⟨d,h⟩:=h;exact⟨d,(Rp.KL d).mono hs h⟩,fun h=>by obtain⟨d,h⟩:=h;exact(Rp.KL d).one h⟩
theorem Rp.NF{H:PH}{x:Pv}{c:List Value}(h:Rp.tree.rel H x c):(Rp.fields Rp.tree).rel H x.f c:=by
 obtain⟨d,h⟩:=h
 cases d with
 | zero=>exact h.elim
 | succ d=>exact Rp.Sf (r:=Rp.KL d) (s:=Rp.tree) (Rp.Nf d) (fun y _ c h=>⟨d,h⟩) h
theorem AI.bound{H:PH}{v:Value}{l:List Pv}(h:AI Rp.tree H v l):∃ d,AI (Rp.KL d) H v l:=by
 obtain⟨a,cap,b,h2,h3,f,g⟩:=h.ex
 cases a with
 | none=>exact⟨0,none,cap,b,h2,h3,f,fun A hA=>by cases hA⟩
 | some A=>
  have key:∀ n,∃ d,∀ i x,i<n→l≠[]→l[i]? = some x→∃ c,(Rp.KL d).rel H x c∧∀ j u,c[j]? = some u→Gn H (A.add (i * 5+j))=some u:=by
   intro n
   induction n with
   | zero=>exact⟨0,fun i x hi=>absurd hi (Nat.not_lt_zero i)⟩
   | succ n ih=>
    obtain⟨d,hd⟩:=ih
    by_cases hl:l=[]
    ·exact⟨0,fun i x _ hn=>absurd hl hn⟩
    cases hx:l[n]? with
    | none=>
     refine⟨d,fun i x hi hn he=>?_⟩
     rcases Nat.lt_succ_iff_lt_or_eq.1 hi with hi | rfl
     ·exact hd i x hi hn he
     ·rw [hx] at he
      cases he
    | some y=>
     obtain⟨c,⟨e,hc⟩,hcell⟩:=(g A rfl hl).2 n y hx;refine⟨max d e,fun i x hi hn he=>?_⟩
     rcases Nat.lt_succ_iff_lt_or_eq.1 hi with hi | rfl
     ·obtain⟨c',k,m⟩:=hd i x hi hn he;exact⟨c',Rp.TK (Nat.le_max_left ..) k,m⟩
     ·rw [hx] at he
      cases he
      exact⟨c,Rp.TK (Nat.le_max_right ..) hc,hcell⟩
  obtain⟨d,hd⟩:=key l.length;refine⟨d,some A,cap,b,h2,h3,f,fun B hB hl=>?_⟩
  cases hB
  refine⟨(g A rfl hl).1,fun i x hx=>?_⟩;rw [Rp.Nf];exact hd i x (List.getElem?_eq_some_iff.1 hx).1 hl hx
theorem Rp.D0{H:PH}{x:Pv}{c:List Value}(h:(Rp.fields Rp.tree).rel H x.f c):Rp.tree.rel H x c:=by
 obtain⟨c1,c2,a,b,c3,c4,e,h2,c5,c6,g,h3,c7,c8,i,j,v,k,l⟩:=h;obtain⟨d,hd⟩:=l.bound;exact⟨d+1,c1,c2,a,b,c3,c4,e,h2,c5,c6,g,h3,c7,c8,i,j,v,k,hd⟩
end Go.E
namespace Go.E
open Go Go.RowKit
def Jh(h:List UInt8×Int×Int×List UInt8):Value:=.agg #[.string ⟨h.1.toArray⟩,.int .i64 h.2.1,.int .i64 h.2.2.1,.string ⟨h.2.2.2.toArray⟩]
theorem Xf{P:Program}{kt:TypeId}{fs:Array Field}(hd:P.underlying kt=some (.struct fs))(hc:∀ (b:Bool) (s m:List UInt8) (x y:Int) w,(Instr.checkKey b 10000 kt (.agg #[.string ⟨s.toArray⟩,.int .i64 x,.int .i64 y,.string ⟨m.toArray⟩])).run P w=.ok () w)
  (he:∀ (s s' m m':List UInt8) (x x' y y':Int) w,(Op.equalIn 10000 kt (.agg #[.string ⟨s.toArray⟩,.int .i64 x,.int .i64 y,.string ⟨m.toArray⟩]) (.agg #[.string ⟨s'.toArray⟩,.int .i64 x',.int .i64 y',.string ⟨m'.toArray⟩])).run P w=.ok (decide (s=s'∧x=x'∧y=y'∧m=m')) w):MC P kt Jh:=
 ⟨fun b k w=>hc b k.1 k.2.2.2 k.2.1 k.2.2.1 w,
  fun k=>by
   obtain⟨d,he⟩:∃ d,10000=d+1:=⟨9999,rfl⟩;rw [he]
   cases d <;> simp [Instr.sameBits,Jh,TJ],
  ⟨_,hd,.inr ⟨fun a b=>rfl,fun a b w=>by
   obtain⟨a1,a2,a3,a4⟩:=a;obtain⟨c,e,f,g⟩:=b;have:=he a1 c a4 g a2 e a3 f w;unfold Op.equal;rw [show Op.maxDepth=10000 from rfl];simp only [Jh];rw [this]
   congr 1
   rw [Bool.eq_iff_iff];simp⟩⟩⟩
section
variable {P:Program} {L:Env} {w:World} {t t' ty:TypeId} {x y:Operand}
theorem SM{v:Nat}(h:v<2 ^ 64):IntKind.u64.wrap (v:Int)=(v:Int):=by
 simp only [IntKind.wrap];simp [IntKind.bits,IntKind.signed] <;> omega
theorem Aaa[Dr]{op:BinOp}{c:Nat}{p q:Int}(hx:ev L x=some (.int .u64 p))(hy:ev L y=some (.int .u64 q))(ho:W9 op p.toNat q.toNat=some c)(h:(0≤p∧p<2 ^ 64)∧(0≤q∧q<2 ^ 64)):Bt P L w (.binOp op t x y t') ty (.int .u64 (c:Int)):=by
 intro w' _ ρ hρ dst pos af g;obtain⟨a,rfl⟩:=Int.eq_ofNat_of_zero_le h.1.1;obtain⟨b,rfl⟩:=Int.eq_ofNat_of_zero_le h.2.1;rw [Int.toNat_natCast,Int.toNat_natCast] at ho;have ha:a<2 ^ 64:=by omega
 have hb:b<2 ^ 64:=by omega
 have ea:(BitVec.ofInt 64 (a:Int)).toNat=a:=by simp;omega
 have eb:(BitVec.ofInt 64 (b:Int)).toNat=b:=by simp;omega
 cases op <;> simp only [W9,Option.some.injEq,reduceCtorEq] at ho <;> subst ho
 ·have e:(Op.intBits .and .u64 (a:Int) (b:Int)).run P w'=.ok (.int .u64 ((a &&& b:Nat):Int)) w':=by
   show Result.ok (Value.int .u64 (IntKind.u64.wrap ((BitVec.ofInt 64 (a:Int) &&& BitVec.ofInt 64 (b:Int)).toNat:Int))) w'=_
   rw [BitVec.toNat_and,ea,eb,SM (Nat.and_lt_two_pow _ hb)]
  simp only [execOp,hρ x _ hx,hρ y _ hy,eqGuard,binOp,Sem.run_bind,ne_eq,not_true_eq_false,if_false,Bool.not_false,if_true,Sem.run_pure,Result.andThen_ok,e]
 ·have e:(Op.intBits .or .u64 (a:Int) (b:Int)).run P w'=.ok (.int .u64 ((a ||| b:Nat):Int)) w':=by
   show Result.ok (Value.int .u64 (IntKind.u64.wrap ((BitVec.ofInt 64 (a:Int) ||| BitVec.ofInt 64 (b:Int)).toNat:Int))) w'=_
   rw [BitVec.toNat_or,ea,eb,SM (Nat.or_lt_two_pow ha hb)]
  simp only [execOp,hρ x _ hx,hρ y _ hy,eqGuard,binOp,Sem.run_bind,ne_eq,not_true_eq_false,if_false,Bool.not_false,if_true,Sem.run_pure,Result.andThen_ok,e]
 ·have e:(Op.intBits .xor .u64 (a:Int) (b:Int)).run P w'=.ok (.int .u64 ((a ^^^ b:Nat):Int)) w':=by
   show Result.ok (Value.int .u64 (IntKind.u64.wrap ((BitVec.ofInt 64 (a:Int) ^^^ BitVec.ofInt 64 (b:Int)).toNat:Int))) w'=_
   rw [BitVec.toNat_xor,ea,eb,SM (Nat.xor_lt_two_pow ha hb)]
  simp only [execOp,hρ x _ hx,hρ y _ hy,eqGuard,binOp,Sem.run_bind,ne_eq,not_true_eq_false,if_false,Bool.not_false,if_true,Sem.run_pure,Result.andThen_ok,e]
end
end Go.E
end
noncomputable section
namespace Go.E
open Go Go.RowKit
section
variable {P:Program} {L:Env} {w:World} {t ty:TypeId} {x a b:Operand} {l:List UInt8} {k k':IntKind} {i j:Int}
theorem Mn(l:List UInt8)(a b:Nat):(⟨l.toArray⟩:ByteArray).extract a b=⟨((l.drop a).take (b - a)).toArray⟩:=by
 apply ByteArray.ext;rw [ByteArray.data_extract];simp [List.extract_eq_take_drop]
theorem Xg[Dr]{lo hi:Option Operand}(hx:ev L x=some (.string ⟨l.toArray⟩))(ht:P.underlying t=some .string)(a b:Nat)(ha:loB L lo a)(hb:Zv L hi b l.length)(d:a≤b)(h2:b≤l.length):
  Bt P L w (.slice t x lo hi none) ty (.string ⟨((l.drop a).take (b - a)).toArray⟩):=by
 intro w' _ ρ hρ dst pos af g;have hs:(ByteArray.mk l.toArray).size=l.length:=by simp [ByteArray.size]
 have i:(a:Int)≤(b:Int):=by omega
 have j:(b:Int)≤(l.length:Int):=by omega
 have k:(a:Int)≤(l.length:Int):=by omega
 cases lo with
 | none=>
  simp only [loB] at ha;subst ha
  cases hi with
  | none=>
   simp only [Zv] at hb;subst hb;simp [execOp,hρ x _ hx,Instr.sliceAt,run_underlying ht,Instr.slice,Instr.sliceBounds,hs,Mn]
  | some c=>
   obtain⟨f,hb⟩:=hb;simp [execOp,hρ x _ hx,hρ c _ hb,Instr.sliceAt,run_underlying ht,Instr.slice,Instr.sliceBounds,Instr.sliceBound,asIntOf,hs,h2,Mn]
 | some e=>
  obtain⟨m,ha⟩:=ha
  cases hi with
  | none=>
   simp only [Zv] at hb;subst hb;simp [execOp,hρ x _ hx,hρ e _ ha,Instr.sliceAt,run_underlying ht,Instr.slice,Instr.sliceBounds,Instr.sliceBound,asIntOf,hs,d,Mn]
  | some c=>
   obtain⟨f,hb⟩:=hb;simp [execOp,hρ x _ hx,hρ e _ ha,hρ c _ hb,Instr.sliceAt,run_underlying ht,Instr.slice,Instr.sliceBounds,Instr.sliceBound,asIntOf,hs,d,h2,Mn]
theorem Xh[Dr](hx:ev L x=some (.string ⟨l.toArray⟩))(ha:ev L a=some (.int k i))(hb:ev L b=some (.int k' j))(ht:P.underlying t=some .string)(hc:0≤i∧i≤j∧j≤(l.length:Int)):
  Bt P L w (.slice t x (some a) (some b) none) ty (.string ⟨((l.drop i.toNat).take (j.toNat - i.toNat)).toArray⟩):=
 Xg hx ht i.toNat j.toNat ⟨k,by rw [Int.toNat_of_nonneg (by omega)];exact ha⟩ ⟨k',by rw [Int.toNat_of_nonneg (by omega)];exact hb⟩ (by omega) (by omega)
theorem Py[Dr](hx:ev L x=some (.string ⟨l.toArray⟩))(ha:ev L a=some (.int k i))(ht:P.underlying t=some .string)(hc:0≤i∧i≤(l.length:Int)):
  Bt P L w (.slice t x (some a) none none) ty (.string ⟨(l.drop i.toNat).toArray⟩):=by
 have:=Xg (P:=P) (w:=w) (ty:=ty) hx ht i.toNat l.length (lo:=some a) (hi:=none) ⟨k,by rw [Int.toNat_of_nonneg (by omega)];exact ha⟩ rfl (by omega) (by omega)
 rwa [List.take_of_length_le (by simp)] at this
theorem U0[Dr](hx:ev L x=some (.string ⟨l.toArray⟩))(hb:ev L b=some (.int k' j))(ht:P.underlying t=some .string)(hc:0≤j∧j≤(l.length:Int)):
  Bt P L w (.slice t x none (some b) none) ty (.string ⟨(l.take j.toNat).toArray⟩):=by
 have:=Xg (P:=P) (w:=w) (ty:=ty) hx ht 0 j.toNat (lo:=none) (hi:=some b) rfl ⟨k',by rw [Int.toNat_of_nonneg (by omega)];exact hb⟩ (by omega) (by omega)
 simpa using this
end
section
variable {P:Program} {n:Sz} {Q:Exit→Act→World→Prop} {L:Env} {w w0:World} {O:List AN} {lop:List Oper} {ix:Nat} {tr:Tr}
 {d:Nat} {ty:TypeId} {pos:String} {af:Array Edge} {α:Type} {r:Rp α} {x a b:Operand} {v:Value} {t t' e:TypeId} {H:PH} {l:List α} {k k':IntKind} {i j:Int} {zz:Value} {bt:Nat} {jg sg:Nat} {want bb:Bool} {oj:Oper}
theorem Ra[Dr]{l:List UInt8}{u:TypeDesc}(ho:Hz lop ix=some ⟨some d,.convert t' t x,ty,pos,af,none⟩)(hx:ev L x=some (.string ⟨l.toArray⟩))(ht:P.underlying t'=some u)(ht':P.underlying t=some (.slice e))(he:P.underlying e=some (.int .u8))(hn:Nat.blt d n.n=true)(hL:AR w0 O w)(hl:l.length≤9223372036854775807)
  (h:∀ v w',Ext w w'→AR w0 O w'→Le (fz w O) (fz w' O)→AI .byte (gz H w0 w' O) v l→D P n lop Q tr ((d,v)::L) w'):D P n lop Q (.h ix tr) L w:=by
 have hs:(ByteArray.mk l.toArray).size=l.length:=by simp [ByteArray.size]
 refine UU (R:=fun a u w'=>u=.slice (some ⟨a.heap.size,0,none⟩) l.length (grownCap a l.length 0 e)∧w'=Lib.bytesWorld a e ⟨l.toArray⟩) ho hn (fun a b ρ hρ=>?_) (fun a u w' b j hR=>?_)
 ·have:=Lib.run_convert_string_bytes (P:=P) a t' t e ⟨l.toArray⟩ ht ht' he;rw [hs] at this;exact⟨_,_,by simp [execOp,hρ x _ hx,this],(Ps a e hl).1,rfl,rfl⟩
 ·obtain⟨rfl,rfl⟩:=hR;obtain⟨g,h2⟩:=Ps a e hl;have c:=hL.call b;exact h _ _ (b.trans g) (c.call g) ((AX hL b).trans (AX c g)) (h2.mono (QM c))
end
section
variable {P:Program} {n:Sz} {ops:Array Oper} {Q:Exit→Act→World→Prop} {L:Env} {w w0:World} {O:List AN} {l:List Oper} {i:Nat} {t:Tr} {rest:List Oper}
 {d:Nat} {ty:TypeId} {pos:String} {af:Array Edge} {f:FuncId} {args:List Operand} {vs:List Value} {at_:Array TypeId} {fo:Operand}
theorem Rb[Dr]{R:Value→World→Prop}(hf:ev L fo=some (.func (.func f) #[] #[]))(ha:Pg L args=some vs)(hn:Nat.blt d n.n=true)(hL:AR w0 O w)(hok:Ok P f vs w (fun v w'=>Ext w w'∧R v w'))
  (h:∀ v w',R v w'→Ext w w'→AR w0 O w'→Le (fz w O) (fz w' O)→S P n ops Q rest ((d,v)::L) w'):S P n ops Q (⟨some d,.call ⟨.value fo,args.toArray,at_⟩,ty,pos,af,none⟩::rest) L w:=
 DZ (cap:=[]) (R:=fun v w'=>Ext w w'∧R v w') hf ha hn (by rw [List.append_nil];exact hok) fun v w' hh=>h v w' hh.2 hh.1 (hL.call hh.1) (AX hL hh.1)
end
end Go.E
namespace Go.E
open Go
theorem Rc(place:Nat→Option (Nat×Nat)):∀ (l m:List (Nat×Value)) (cells:Array Value),l.map (fun p=>(p.1,p.2.cells))=m.map (fun p=>(p.1,p.2.cells))→Instr.fill place cells l=Instr.fill place cells m
 | [],[],_,_=>rfl
 | [],_::_,_,h=>by cases h
 | _::_,[],_,h=>by cases h
 | (i,v)::l,(j,u)::m,cells,h=>by
  simp only [List.map_cons,List.cons.injEq,Prod.mk.injEq] at h;obtain⟨⟨rfl,a⟩,h2⟩:=h;unfold Instr.fill;rw [a]
  split
  ·rfl
  ·split
   ·rfl
   ·exact Rc place l m _ h2
theorem Re{P:Program}{t:TypeId}{n:Nat}{ps qs:Array (Nat×Value)}{w:World}(h:ps.toList.map (fun p=>(p.1,p.2.cells))=qs.toList.map (fun p=>(p.1,p.2.cells))):(Instr.buildSlice t n ps).run P w=(Instr.buildSlice t n qs).run P w:=by
 unfold Instr.buildSlice;simp only [Rc _ _ _ _ h]
theorem Ic{v:Value}(h:v.oneCell'=true):v.cells=(Value.agg #[v]).cells:=by
 cases v <;> first | rfl | cases h
end Go.E
namespace Go.E
open Go
theorem Aa6 {P : Program} {t : TypeId} {f0 f1 f2 f3 : Field} {d f : IntKind} (ht : P.underlying t = some (.struct (P.fieldsOf t))) (hp : P.stoodInHeld t = false) (hf : (P.fieldsOf t).toList = [f0, f1, f2, f3]) (i : f0.name ≠ "_" ∧ f0.offset = 0) (j : f1.name ≠ "_" ∧ f1.offset = 1) (h2 : f2.name ≠ "_" ∧ f2.offset = 2) (h3 : f3.name ≠ "_" ∧ f3.offset = 3)
  (k:P.underlying f0.type=some .string) (l:P.underlying f1.type=some (.int d)) (o:P.underlying f2.type=some (.int f)) (p:P.underlying f3.type=some .string) (s m:List UInt8) (a b:Int) (g h:List UInt8) (c e:Int) (w:World) :
  (Op.equalIn 10000 t (.agg #[.string ⟨s.toArray⟩,.int d a,.int f b,.string ⟨m.toArray⟩]) (.agg #[.string ⟨g.toArray⟩,.int d c,.int f e,.string ⟨h.toArray⟩])).run P w=.ok (decide (s=g∧a=c∧b=e∧m=h)) w:=by
 rw [run_equalIn_struct w 9999 t _ _ ht hp,hf]
 have hs:∀ (dd:Nat) (s m:List UInt8),(Op.equalIn (dd+1) f0.type (.string ⟨s.toArray⟩) (.string ⟨m.toArray⟩)).run P w=.ok (decide (s=m)) w:=fun dd s m=>by
  simp [Op.equalIn,run_underlying k,TJ]
 have q:∀ (dd:Nat) (s m:List UInt8),(Op.equalIn (dd+1) f3.type (.string ⟨s.toArray⟩) (.string ⟨m.toArray⟩)).run P w=.ok (decide (s=m)) w:=fun dd s m=>by
  simp [Op.equalIn,run_underlying p,TJ]
 have key:∀ dd:Nat,(Op.eqFields (dd+1) #[.string ⟨s.toArray⟩,.int d a,.int f b,.string ⟨m.toArray⟩] #[.string ⟨g.toArray⟩,.int d c,.int f e,.string ⟨h.toArray⟩] [f0,f1,f2,f3]).run P w=.ok (decide (s=g∧a=c∧b=e∧m=h)) w:=by
  intro dd
  by_cases z:s=g <;> by_cases e1:a=c <;> by_cases e2:b=e <;> by_cases e3:m=h <;>
   simp [Op.eqFields,i.1,j.1,h2.1,h3.1,i.2,j.2,h2.2,h3.2,part,isAgg,run_underlying k,run_underlying l,run_underlying o,run_underlying p,hs,q,run_equalIn_int w dd _ _ _ _ _ l,run_equalIn_int w dd _ _ _ _ _ o,z,e1,e2,e3]
 exact key 9998
end Go.E
namespace Go.E
open Go Go.RowKit
section
variable {P:Program} {n:Sz} {ops:Array Oper} {Q:Exit→Act→World→Prop} {L:Env} {w w0:World} {O:List AN} {rest:List Oper}
 {ty:TypeId} {pos:String} {af:Array Edge} {α:Type} {r:Rp α} {x y:Operand} {u v:Value} {t e:TypeId} {H:PH}
end
end Go.E
end
noncomputable section
namespace Go.Proofs.YtekmbcbgknmhiaaGreatDoor
open Go Go.E Go.RowKit
theorem mixed:Tryz.prog.follows .mixedOrders=true:=by kernel_rfl
theorem BG:Zr Tryz.prog 3 (.int .i64 0) 1 8:=by unfold Zr;kernel_rfl
theorem YC:Zr Tryz.prog 4 (.bool false) 1 1:=by unfold Zr;kernel_rfl
theorem Lj:Zr Tryz.prog 5 (.int .u8 0) 1 1:=by unfold Zr;kernel_rfl
theorem Fo:Zr Tryz.prog 9 (.string .empty) 1 16:=by unfold Zr;kernel_rfl
theorem Jn:Zr Tryz.prog 22 (.slice none 0 0) 1 24:=by unfold Zr;kernel_rfl
theorem Fs:Zr Tryz.prog 23 (.slice none 0 0) 1 24:=by unfold Zr;kernel_rfl
theorem DS:Zr Tryz.prog 24 (.slice none 0 0) 1 24:=by unfold Zr;kernel_rfl
theorem Bc:Zr Tryz.prog 26 (.agg #[.int .i64 0,.slice none 0 0,.string .empty,.slice none 0 0,.int .i64 0,.int .i64 0,.slice none 0 0]) 7 112:=by unfold Zr;kernel_rfl
theorem AT:Zr Tryz.prog 28 (.agg #[.int .i64 0,.int .i64 0]) 2 16:=by unfold Zr;kernel_rfl
theorem U1:Zr Tryz.prog 44 (.slice none 0 0) 1 24:=by unfold Zr;kernel_rfl
theorem Oy:Zr Tryz.prog 46 (.agg #[.int .i64 0,.slice none 0 0]) 2 32:=by unfold Zr;kernel_rfl
theorem YD:Zr Tryz.prog 47 (.slice none 0 0) 1 24:=by unfold Zr;kernel_rfl
theorem Qd:Zr Tryz.prog 49 (.agg #[.int .i64 0,.slice none 0 0]) 2 32:=by unfold Zr;kernel_rfl
theorem Jo:Zr Tryz.prog 50 (.slice none 0 0) 1 24:=by unfold Zr;kernel_rfl
theorem MJ:Zr Tryz.prog 52 (.agg #[.int .i64 0,.slice none 0 0,.int .i64 0,.slice none 0 0,.slice none 0 0]) 5 88:=by unfold Zr;kernel_rfl
theorem RD:Zr Tryz.prog 58 (.slice none 0 0) 1 24:=by unfold Zr;kernel_rfl
theorem VG:Zr Tryz.prog 62 (.slice none 0 0) 1 24:=by unfold Zr;kernel_rfl
theorem GL:Zr Tryz.prog 64 (.agg #[.int .i64 0,.int .i64 0,.slice none 0 0,.slice none 0 0,.slice none 0 0]) 5 88:=by unfold Zr;kernel_rfl
theorem YE:Zr Tryz.prog 66 (.agg #[.slice none 0 0,.int .i64 0,.int .i64 0,.slice none 0 0,.slice none 0 0,.slice none 0 0]) 6 112:=by unfold Zr;kernel_rfl
theorem YF:Zr Tryz.prog 82 (.agg #[]) 0 0:=by unfold Zr;kernel_rfl
theorem Aab:Zr Tryz.prog 96 (.agg #[.slice none 0 0]) 1 24:=by unfold Zr;kernel_rfl
theorem FQ:Zr Tryz.prog 98 (.agg #[.slice none 0 0,.slice none 0 0,.slice none 0 0]) 3 72:=by unfold Zr;kernel_rfl
theorem Xi:Zr Tryz.prog 109 (.slice none 0 0) 1 24:=by unfold Zr;kernel_rfl
theorem Aa7:Zr Tryz.prog 131 (.slice none 0 0) 1 24:=by unfold Zr;kernel_rfl
theorem KM:Zr Tryz.prog 135 (.agg #[.string .empty,.int .i64 0,.int .i64 0]) 3 32:=by unfold Zr;kernel_rfl
theorem Kx:Zr Tryz.prog 137 (.agg #[.int .i64 0,.int .i64 0]) 2 16:=by unfold Zr;kernel_rfl
theorem Z6:Zr Tryz.prog 139 (.map none) 1 8:=by unfold Zr;kernel_rfl
theorem KN:Zr Tryz.prog 142 (.agg #[.string .empty,.int .i64 0,.int .i64 0,.string .empty]) 4 48:=by unfold Zr;kernel_rfl
theorem Vm:Zr Tryz.prog 173 (.agg #[.int .i64 0,.int .i64 0,.int .i64 0,.int .i64 0,.int .i64 0,.int .i64 0,.int .i64 0,.int .i64 0,.int .i64 0,.int .i64 0,.int .i64 0]) 11 88:=by unfold Zr;kernel_rfl
theorem Of:Zr Tryz.prog 192 (.agg #[.string .empty,.slice none 0 0]) 2 40:=by unfold Zr;kernel_rfl
theorem Sg:Zr Tryz.prog 203 (.agg #[.string .empty,.int .i64 0,.int .i64 0,.string .empty,.slice none 0 0]) 5 72:=by unfold Zr;kernel_rfl
theorem Lp(w:World):(Instr.build 26 #[]).run Tryz.prog w=.ok (.agg #[.int .i64 0,.slice none 0 0,.string .empty,.slice none 0 0,.int .i64 0,.int .i64 0,.slice none 0 0]) w:=by kernel_rfl
theorem Vn(a:Int)(w:World):(Instr.build 26 #[(0,.int .i64 a)]).run Tryz.prog w=.ok (.agg #[.int .i64 a,.slice none 0 0,.string .empty,.slice none 0 0,.int .i64 0,.int .i64 0,.slice none 0 0]) w:=by kernel_rfl
theorem Pz(b:Int)(a:Value)(c:a.oneCell'=true)(w:World):(Instr.build 26 #[(0,.int .i64 b),(1,a)]).run Tryz.prog w=.ok (.agg #[.int .i64 b,a,.string .empty,.slice none 0 0,.int .i64 0,.int .i64 0,.slice none 0 0]) w:=by cases a <;> first | (simp [Value.oneCell'] at c;done) | kernel_rfl
theorem TL(c:Int)(a:Value)(d:a.oneCell'=true)(b:Value)(e:b.oneCell'=true)(w:World):(Instr.build 26 #[(0,.int .i64 c),(1,a),(6,b)]).run Tryz.prog w=.ok (.agg #[.int .i64 c,a,.string .empty,.slice none 0 0,.int .i64 0,.int .i64 0,b]) w:=by cases a <;> first | (simp [Value.oneCell'] at d;done) | cases b <;> first | (simp [Value.oneCell'] at e;done) | kernel_rfl
theorem VH(b:Int)(a:Value)(h2:a.oneCell'=true)(w:World):(Instr.build 26 #[(0,.int .i64 b),(2,a)]).run Tryz.prog w=.ok (.agg #[.int .i64 b,.slice none 0 0,a,.slice none 0 0,.int .i64 0,.int .i64 0,.slice none 0 0]) w:=by cases a <;> first | (simp [Value.oneCell'] at h2;done) | kernel_rfl
theorem VI(b:Int)(a:Value)(h3:a.oneCell'=true)(w:World):(Instr.build 26 #[(0,.int .i64 b),(3,a)]).run Tryz.prog w=.ok (.agg #[.int .i64 b,.slice none 0 0,.string .empty,a,.int .i64 0,.int .i64 0,.slice none 0 0]) w:=by cases a <;> first | (simp [Value.oneCell'] at h3;done) | kernel_rfl
theorem VJ(a:Int)(b:Int)(w:World):(Instr.build 26 #[(0,.int .i64 a),(4,.int .i64 b)]).run Tryz.prog w=.ok (.agg #[.int .i64 a,.slice none 0 0,.string .empty,.slice none 0 0,.int .i64 b,.int .i64 0,.slice none 0 0]) w:=by kernel_rfl
theorem KC(b:Int)(a:Value)(c:a.oneCell'=true)(w:World):(Instr.build 26 #[(0,.int .i64 b),(6,a)]).run Tryz.prog w=.ok (.agg #[.int .i64 b,.slice none 0 0,.string .empty,.slice none 0 0,.int .i64 0,.int .i64 0,a]) w:=by cases a <;> first | (simp [Value.oneCell'] at c;done) | kernel_rfl
theorem BL(w:World):(Instr.build 28 #[]).run Tryz.prog w=.ok (.agg #[.int .i64 0,.int .i64 0]) w:=by kernel_rfl
theorem NG(a:Int)(b:Int)(w:World):(Instr.build 28 #[(0,.int .i64 a),(1,.int .i64 b)]).run Tryz.prog w=.ok (.agg #[.int .i64 a,.int .i64 b]) w:=by kernel_rfl
theorem YG(a:Int)(w:World):(Instr.build 46 #[(0,.int .i64 a)]).run Tryz.prog w=.ok (.agg #[.int .i64 a,.slice none 0 0]) w:=by kernel_rfl
theorem YH(a:Int)(w:World):(Instr.build 49 #[(0,.int .i64 a)]).run Tryz.prog w=.ok (.agg #[.int .i64 a,.slice none 0 0]) w:=by kernel_rfl
theorem VK(a:Int)(b:Int)(w:World):(Instr.build 64 #[(0,.int .i64 a),(1,.int .i64 b)]).run Tryz.prog w=.ok (.agg #[.int .i64 a,.int .i64 b,.slice none 0 0,.slice none 0 0,.slice none 0 0]) w:=by kernel_rfl
theorem Sh(f:Value)(g:f.oneCell'=true)(a b c d e:Value)(w:World):(Instr.build 66 #[(0,f),(1,.agg #[a,b,c,d,e])]).run Tryz.prog w=.ok (.agg #[f,a,b,c,d,e]) w:=by cases f <;> first | (simp [Value.oneCell'] at g;done) | kernel_rfl
theorem NH(w:World):(Instr.build 82 #[]).run Tryz.prog w=.ok (.agg #[]) w:=by kernel_rfl
theorem YI(a:Value)(b:a.oneCell'=true)(w:World):(Instr.build 86 #[(0,a)]).run Tryz.prog w=.ok (.agg #[a,.int .i64 0]) w:=by cases a <;> first | (simp [Value.oneCell'] at b;done) | kernel_rfl
theorem YJ(a:Value)(b:a.oneCell'=true)(w:World):(Instr.build 96 #[(0,a)]).run Tryz.prog w=.ok (.agg #[a]) w:=by cases a <;> first | (simp [Value.oneCell'] at b;done) | kernel_rfl
theorem Ji(a:Value)(b:Value)(d:b.oneCell'=true)(c:Value)(h2:c.oneCell'=true)(w:World):(Instr.build 98 #[(0,.agg #[a]),(1,b),(2,c)]).run Tryz.prog w=.ok (.agg #[a,b,c]) w:=by cases b <;> first | (simp [Value.oneCell'] at d;done) | cases c <;> first | (simp [Value.oneCell'] at h2;done) | kernel_rfl
theorem SN(a:Value)(d:a.oneCell'=true)(b:Int)(c:Int)(w:World):(Instr.build 135 #[(0,a),(1,.int .i64 b),(2,.int .i64 c)]).run Tryz.prog w=.ok (.agg #[a,.int .i64 b,.int .i64 c]) w:=by cases a <;> first | (simp [Value.oneCell'] at d;done) | kernel_rfl
theorem Xj(a:Int)(w:World):(Instr.build 135 #[(1,.int .i64 a)]).run Tryz.prog w=.ok (.agg #[.string .empty,.int .i64 a,.int .i64 0]) w:=by kernel_rfl
theorem U2(a:Int)(b:Int)(w:World):(Instr.build 137 #[(0,.int .i64 a),(1,.int .i64 b)]).run Tryz.prog w=.ok (.agg #[.int .i64 a,.int .i64 b]) w:=by kernel_rfl
theorem Xk(a:Int)(w:World):(Instr.build 137 #[(1,.int .i64 a)]).run Tryz.prog w=.ok (.agg #[.int .i64 0,.int .i64 a]) w:=by kernel_rfl
theorem Rf(a:Value)(e:a.oneCell'=true)(c:Int)(d:Int)(b:Value)(h3:b.oneCell'=true)(w:World):(Instr.build 142 #[(0,a),(1,.int .i64 c),(2,.int .i64 d),(3,b)]).run Tryz.prog w=.ok (.agg #[a,.int .i64 c,.int .i64 d,b]) w:=by cases a <;> first | (simp [Value.oneCell'] at e;done) | cases b <;> first | (simp [Value.oneCell'] at h3;done) | kernel_rfl
theorem GN(b c d e f g h i j k a:Int)(w:World):(Instr.build 173 #[(0,.int .i64 b),(1,.int .i64 c),(2,.int .i64 d),(3,.int .i64 e),(4,.int .i64 f),(5,.int .i64 g),(6,.int .i64 h),(7,.int .i64 i),(8,.int .i64 j),(9,.int .i64 k),(10,.int .i64 a)]).run Tryz.prog w=.ok (.agg #[.int .i64 b,.int .i64 c,.int .i64 d,.int .i64 e,.int .i64 f,.int .i64 g,.int .i64 h,.int .i64 i,.int .i64 j,.int .i64 k,.int .i64 a]) w:=by kernel_rfl
theorem U3(a:Value)(c:a.oneCell'=true)(b:Value)(d:b.oneCell'=true)(w:World):(Instr.build 192 #[(0,a),(1,b)]).run Tryz.prog w=.ok (.agg #[a,b]) w:=by cases a <;> first | (simp [Value.oneCell'] at c;done) | cases b <;> first | (simp [Value.oneCell'] at d;done) | kernel_rfl
theorem U4(a b c d:Value)(e:Value)(f:e.oneCell'=true)(w:World):(Instr.build 203 #[(0,.agg #[a,b,c,d]),(1,e)]).run Tryz.prog w=.ok (.agg #[a,b,c,d,e]) w:=by cases e <;> first | (simp [Value.oneCell'] at f;done) | kernel_rfl
theorem YK(w:World):(Instr.buildSlice 22 0 #[]).run Tryz.prog w=.ok (.slice (some ⟨w.heap.size,0,none⟩) 0 0) (w.alloc (.cells #[] 9)):=by kernel_rfl
theorem OG(a:Value)(b:a.oneCell'=true)(w:World):(Instr.buildSlice 22 1 #[(0,a)]).run Tryz.prog w=.ok (.slice (some ⟨w.heap.size,0,none⟩) 1 1) (w.alloc (.cells #[a] 9)):=by cases a <;> first | (simp [Value.oneCell'] at b;done) | kernel_rfl
theorem YL(a:Value)(c:a.oneCell'=true)(b:Value)(d:b.oneCell'=true)(w:World):(Instr.buildSlice 22 2 #[(0,a),(1,b)]).run Tryz.prog w=.ok (.slice (some ⟨w.heap.size,0,none⟩) 2 2) (w.alloc (.cells #[a,b] 9)):=
 (Re (qs:=#[(0,.agg #[a]),(1,.agg #[b])]) (by show([(0,a.cells),(1,b.cells)]:List (Nat×Array Value))=[(0,(Value.agg #[a]).cells),(1,(Value.agg #[b]).cells)];rw [Ic c,Ic d])).trans (by kernel_rfl)
theorem YM(w:World):(Instr.buildSlice 23 0 #[]).run Tryz.prog w=.ok (.slice (some ⟨w.heap.size,0,none⟩) 0 0) (w.alloc (.cells #[] 5)):=by kernel_rfl
theorem Ie(a:Int)(w:World):(Instr.buildSlice 23 1 #[(0,.int .u8 a)]).run Tryz.prog w=.ok (.slice (some ⟨w.heap.size,0,none⟩) 1 1) (w.alloc (.cells #[.int .u8 a] 5)):=by kernel_rfl
theorem Vo(a:Int)(b:Int)(w:World):(Instr.buildSlice 23 2 #[(0,.int .u8 a),(1,.int .u8 b)]).run Tryz.prog w=.ok (.slice (some ⟨w.heap.size,0,none⟩) 2 2) (w.alloc (.cells #[.int .u8 a,.int .u8 b] 5)):=by kernel_rfl
theorem SO(a:Int)(b:Int)(c:Int)(w:World):(Instr.buildSlice 23 3 #[(0,.int .u8 a),(1,.int .u8 b),(2,.int .u8 c)]).run Tryz.prog w=.ok (.slice (some ⟨w.heap.size,0,none⟩) 3 3) (w.alloc (.cells #[.int .u8 a,.int .u8 b,.int .u8 c] 5)):=by kernel_rfl
theorem Jw(a b c d e f g:Value)(w:World):(Instr.buildSlice 24 1 #[(0,.agg #[a,b,c,d,e,f,g])]).run Tryz.prog w=.ok (.slice (some ⟨w.heap.size,0,none⟩) 1 1) (w.alloc (.cells #[a,b,c,d,e,f,g] 26)):=by kernel_rfl
theorem YN(a b c d e f:Value)(g h i j k l:Value)(w:World):(Instr.buildSlice 42 2 #[(0,.agg #[a,b,c,d,e,f]),(1,.agg #[g,h,i,j,k,l])]).run Tryz.prog w=.ok (.slice (some ⟨w.heap.size,0,none⟩) 2 2) (w.alloc (.cells #[a,b,c,d,e,f,g,h,i,j,k,l] 66)):=by kernel_rfl
theorem Q4(a:Bool)(b:Bool)(w:World):(Instr.buildSlice 43 2 #[(0,.bool a),(1,.bool b)]).run Tryz.prog w=.ok (.slice (some ⟨w.heap.size,0,none⟩) 2 2) (w.alloc (.cells #[.bool a,.bool b] 4)):=by kernel_rfl
theorem YO(a b:Value)(w:World):(Instr.buildSlice 44 1 #[(0,.agg #[a,b])]).run Tryz.prog w=.ok (.slice (some ⟨w.heap.size,0,none⟩) 1 1) (w.alloc (.cells #[a,b] 192)):=by kernel_rfl
theorem YP(a b c d e:Value)(w:World):(Instr.buildSlice 47 1 #[(0,.agg #[a,b,c,d,e])]).run Tryz.prog w=.ok (.slice (some ⟨w.heap.size,0,none⟩) 1 1) (w.alloc (.cells #[a,b,c,d,e] 203)):=by kernel_rfl
theorem OH(a b c:Value)(w:World):(Instr.buildSlice 50 1 #[(0,.agg #[a,b,c])]).run Tryz.prog w=.ok (.slice (some ⟨w.heap.size,0,none⟩) 1 1) (w.alloc (.cells #[a,b,c] 98)):=by kernel_rfl
theorem YQ(w:World):(Instr.buildSlice 58 0 #[]).run Tryz.prog w=.ok (.slice (some ⟨w.heap.size,0,none⟩) 0 0) (w.alloc (.cells #[] 3)):=by kernel_rfl
theorem Ig(a:Int)(w:World):(Instr.buildSlice 58 1 #[(0,.int .i64 a)]).run Tryz.prog w=.ok (.slice (some ⟨w.heap.size,0,none⟩) 1 1) (w.alloc (.cells #[.int .i64 a] 3)):=by kernel_rfl
theorem Vp(a:Int)(b:Int)(w:World):(Instr.buildSlice 58 2 #[(0,.int .i64 a),(1,.int .i64 b)]).run Tryz.prog w=.ok (.slice (some ⟨w.heap.size,0,none⟩) 2 2) (w.alloc (.cells #[.int .i64 a,.int .i64 b] 3)):=by kernel_rfl
theorem Vr(a:Int)(b:Int)(c:Int)(d:Int)(w:World):(Instr.buildSlice 58 4 #[(0,.int .i64 a),(1,.int .i64 b),(2,.int .i64 c),(3,.int .i64 d)]).run Tryz.prog w=.ok (.slice (some ⟨w.heap.size,0,none⟩) 4 4) (w.alloc (.cells #[.int .i64 a,.int .i64 b,.int .i64 c,.int .i64 d] 3)):=by kernel_rfl
theorem IK(a b c d e:Value)(w:World):(Instr.buildSlice 62 1 #[(0,.agg #[a,b,c,d,e])]).run Tryz.prog w=.ok (.slice (some ⟨w.heap.size,0,none⟩) 1 1) (w.alloc (.cells #[a,b,c,d,e] 64)):=by kernel_rfl
theorem K1(a:Value)(b:a.oneCell'=true)(w:World):(Instr.buildSlice 94 1 #[(0,a)]).run Tryz.prog w=.ok (.slice (some ⟨w.heap.size,0,none⟩) 1 1) (w.alloc (.cells #[a] 23)):=by cases a <;> first | (simp [Value.oneCell'] at b;done) | kernel_rfl
theorem OI(a:Value)(f:a.oneCell'=true)(b:Value)(g:b.oneCell'=true)(c:Value)(h2:c.oneCell'=true)(d:Value)(h3:d.oneCell'=true)(e:Value)(h:e.oneCell'=true)(w:World):(Instr.buildSlice 94 5 #[(0,a),(1,b),(2,c),(3,d),(4,e)]).run Tryz.prog w=.ok (.slice (some ⟨w.heap.size,0,none⟩) 5 5) (w.alloc (.cells #[a,b,c,d,e] 23)):=
 (Re (qs:=#[(0,.agg #[a]),(1,.agg #[b]),(2,.agg #[c]),(3,.agg #[d]),(4,.agg #[e])]) (by show([(0,a.cells),(1,b.cells),(2,c.cells),(3,d.cells),(4,e.cells)]:List (Nat×Array Value))=[(0,(Value.agg #[a]).cells),(1,(Value.agg #[b]).cells),(2,(Value.agg #[c]).cells),(3,(Value.agg #[d]).cells),(4,(Value.agg #[e]).cells)];rw [Ic f,Ic g,Ic h2,Ic h3,Ic h])).trans (by kernel_rfl)
theorem Xl(w:World):(Instr.buildSlice 109 0 #[]).run Tryz.prog w=.ok (.slice (some ⟨w.heap.size,0,none⟩) 0 0) (w.alloc (.cells #[] 137)):=by kernel_rfl
theorem Xm(a b:Value)(w:World):(Instr.buildSlice 109 1 #[(0,.agg #[a,b])]).run Tryz.prog w=.ok (.slice (some ⟨w.heap.size,0,none⟩) 1 1) (w.alloc (.cells #[a,b] 137)):=by kernel_rfl
theorem TM(a b c:Value)(w:World):(Instr.buildSlice 131 1 #[(0,.agg #[a,b,c])]).run Tryz.prog w=.ok (.slice (some ⟨w.heap.size,0,none⟩) 1 1) (w.alloc (.cells #[a,b,c] 135)):=by kernel_rfl
theorem Xn(a:Value)(c:a.oneCell'=true)(b:Value)(d:b.oneCell'=true)(w:World):(Instr.buildSlice 180 2 #[(0,a),(1,b)]).run Tryz.prog w=.ok (.slice (some ⟨w.heap.size,0,none⟩) 2 2) (w.alloc (.cells #[a,b] 58)):=
 (Re (qs:=#[(0,.agg #[a]),(1,.agg #[b])]) (by show([(0,a.cells),(1,b.cells)]:List (Nat×Array Value))=[(0,(Value.agg #[a]).cells),(1,(Value.agg #[b]).cells)];rw [Ic c,Ic d])).trans (by kernel_rfl)
theorem Xo(a b c d:Value)(w:World):(Instr.buildSlice 196 1 #[(0,.agg #[a,b,c,d])]).run Tryz.prog w=.ok (.slice (some ⟨w.heap.size,0,none⟩) 1 1) (w.alloc (.cells #[a,b,c,d] 142)):=by kernel_rfl
theorem IC:Tryz.prog.eqGuardType Tryz.prog.depth 28=false:=by kernel_rfl
theorem LA(a b c e:Int)(w:World):(Op.equalIn 10000 28 (.agg #[.int .i64 a,.int .i64 b]) (.agg #[.int .i64 c,.int .i64 e])).run Tryz.prog w=.ok (decide (a=c∧b=e)) w:=
 ZN (by kernel_rfl) (by kernel_rfl) (by kernel_rfl : (Tryz.prog.fieldsOf 28).toList = [{ name := "Code", type := 3, offset := 0, embedded := false, tag := "", pkgPath := "", byteOffset := 0 }, { name := "Index", type := 3, offset := 1, embedded := false, tag := "", pkgPath := "", byteOffset := 8 }]) ⟨by decide, rfl⟩ ⟨by decide, rfl⟩ Tryz.underlying3 Tryz.underlying3 a b c e w
theorem Aa8(s m:List UInt8)(x y:Int)(a b:List UInt8)(c y2:Int)(w:World):(Op.equalIn 10000 142 (.agg #[.string ⟨s.toArray⟩,.int .i64 x,.int .i64 y,.string ⟨m.toArray⟩]) (.agg #[.string ⟨a.toArray⟩,.int .i64 c,.int .i64 y2,.string ⟨b.toArray⟩])).run Tryz.prog w=.ok (decide (s=a∧x=c∧y=y2∧m=b)) w:=
 Aa6 (by kernel_rfl) (by kernel_rfl) (by kernel_rfl : (Tryz.prog.fieldsOf 142).toList = [{ name := "path", type := 9, offset := 0, embedded := false, tag := "", pkgPath := "scriptorium/shapes", byteOffset := 0 }, { name := "kind", type := 3, offset := 1, embedded := false, tag := "", pkgPath := "scriptorium/shapes", byteOffset := 16 }, { name := "number", type := 3, offset := 2, embedded := false, tag := "", pkgPath := "scriptorium/shapes", byteOffset := 24 }, { name := "text", type := 9, offset := 3, embedded := false, tag := "", pkgPath := "scriptorium/shapes", byteOffset := 32 }]) ⟨by decide, rfl⟩ ⟨by decide, rfl⟩ ⟨by decide, rfl⟩ ⟨by decide, rfl⟩ Tryz.underlying9 Tryz.underlying3 Tryz.underlying3 Tryz.underlying9 s m x y a b c y2 w
theorem Aac:MC Tryz.prog 9 encS:=VD Tryz.underlying9
theorem Xp:MC Tryz.prog 142 Jh:=Xf Tryz.underlying142 (fun _ _ _ _ _ _=>by kernel_rfl) (fun s a m b x c y y2 w=>Aa8 s m x y a b c y2 w)
end Go.Proofs.YtekmbcbgknmhiaaGreatDoor
end
noncomputable section
namespace Go.L
def Ej(r:Int):List UInt8:=(Go.Utf8.encode r).data.toList
def P0(l:List UInt8)(p:Nat):Nat×Nat:=Go.Utf8.decode ⟨l.toArray⟩ p
def De{κ α:Type}[DecidableEq κ](k:κ)(l:List (κ×List α)):List (κ×List α):=Hk k (HL [] k l) l
end Go.L
namespace Go.E
open Go Go.RowKit
section
variable {P:Program} {n:Sz} {ops:Array Oper} {Q:Exit→Act→World→Prop} {L:Env} {w w0:World} {O:List AN} {rest:List Oper} {d:Nat} {ty t t':TypeId} {pos:String} {af:Array Edge} {x y x':Operand} {l:List UInt8}
theorem Aa9[Dr]{a:Int}(hx:ev L x=some (.int .i32 a))(ht:P.underlying t=some (.int .i32))(ht':P.underlying t'=some .string):Bt P L w (.convert t t' x) ty (.string ⟨(Go.L.Ej a).toArray⟩):=by
 intro w' _ ρ hρ dst pos af g;have e:(⟨(Go.L.Ej a).toArray⟩:ByteArray)=Utf8.encode a:=by unfold Go.L.Ej;rw [Array.toArray_toList]
 rw [e];simp [execOp,hρ x _ hx,convert,run_underlying ht,run_underlying ht',Conv.intToString]
theorem TN[Dr](hx:ev L x=some (.string ⟨l.toArray⟩))(ht:P.underlying t=some .string)(hn:Nat.blt d n.n=true)(hL:AR w0 O w)
  (h:∀ w' b,AR w0 (.obj b (.stringIter ⟨l.toArray⟩ 0)::O) w'→Le (fz w O) (fz w' (.obj b (.stringIter ⟨l.toArray⟩ 0)::O))→S P n ops Q rest ((d,.pointer (some ⟨b,0,none⟩))::L) w'):S P n ops Q (⟨some d,.range t x,ty,pos,af,none⟩::rest) L w:=by
 have hb:∀ b,(AN.obj w.heap.size (.stringIter ⟨l.toArray⟩ 0)).block=some b→w.heap.size≤b:=fun b e=>by cases e;exact Nat.le_refl _
 refine Da (v:=.pointer (some ⟨w.heap.size,0,none⟩)) (w':=w.alloc (.stringIter ⟨l.toArray⟩ 0)) rfl rfl hn (fun ρ hρ=>?_) (h _ _ (hL.new (Cl w _) (World.alloc_heap_new w _) hb) (Ou hL (Cl w _) hb));simp [execOp,Instr.range,run_underlying ht,hρ x _ hx,newObj,Sem.run]
theorem Vs[Dr](i:Nat){b p:Nat}(hx:ev L x=some (.pointer (some ⟨b,0,none⟩)))(hn:Nat.blt d n.n=true)(hL:AR w0 O w)(hi:Dq O i=some (.obj b (.stringIter ⟨l.toArray⟩ p)))
  (a:p<l.length→∀ w',AR w0 (CJ O i (.obj b (.stringIter ⟨l.toArray⟩ (p+(Go.L.P0 l p).2)))) w'→Le (fz w O) (fz w' (CJ O i (.obj b (.stringIter ⟨l.toArray⟩ (p+(Go.L.P0 l p).2)))))→S P n ops Q rest ((d,.tuple #[.bool true,.int .i64 (p:Int),.int .i32 ((Go.L.P0 l p).1:Int)])::L) w')
  (h2 : ¬ p<l.length→S P n ops Q rest ((d,.tuple #[.bool false])::L) w):S P n ops Q (⟨some d,.next x true,ty,pos,af,none⟩::rest) L w:=by
 have hb:w.heap[b]? = some (.stringIter ⟨l.toArray⟩ p):=hL.at hi;have hs:(ByteArray.mk l.toArray).size=l.length:=by simp [ByteArray.size]
 by_cases hp:p<l.length
 ·have hr:=Lib.run_next_any_at (P:=P) w b ⟨l.toArray⟩ p ty hb (by rw [hs];exact hp);have hput:=hL.putAt (.stringIter ⟨l.toArray⟩ (p+(Go.L.P0 l p).2)) hi;refine Da (v:=.tuple #[.bool true,.int .i64 (p:Int),.int .i32 ((Go.L.P0 l p).1:Int)]) (w':=_) rfl rfl hn (fun ρ hρ=>?_) (a hp _ hput.1 hput.2);have e:w.iterAt b ⟨l.toArray⟩ (p+(Utf8.decode ⟨l.toArray⟩ p).2)=w.putObj b (.stringIter ⟨l.toArray⟩ (p+(Go.L.P0 l p).2)):=rfl;rw [e] at hr;simp [execOp,hρ x _ hx,hr,Go.L.P0]
 ·have hr:=Lib.run_next_end_at (P:=P) w b ⟨l.toArray⟩ p ty hb (by rw [hs];exact hp);refine Da (v:=.tuple #[.bool false]) (w':=w) rfl rfl hn (fun ρ hρ=>?_) (h2 hp);simp [execOp,hρ x _ hx,hr]
end
section
variable {κ:Type} {enc:κ→Value} {k:κ}
theorem Vt:∀ (l:List κ) (vs:List Value) (i m:Nat),l.length=vs.length→l[m]? = some k→(mE enc i l vs).modify m (fun e=>{e with key:=enc k})=mE enc i l vs
 | b::l,u::vs,i,0,_,h=>by simp at h;subst h;simp [mE]
 | b::l,u::vs,i,m+1,hl,h=>by
  have:=Vt l vs (i+1) m (by simpa using hl) (by simpa using h);simp only [mE,List.modify_succ_cons,this]
theorem Vu{v:Value}:∀ (l:List κ) (vs:List Value) (i m:Nat),l.length=vs.length→(mE enc i l vs).modify m (fun e=>{e with val:=v})=mE enc i l (vs.set m v)
 | [],[],_,_,_=>by simp [mE]
 | b::l,u::vs,i,0,_=>by simp [mE]
 | b::l,u::vs,i,m+1,hl=>by
  have:=Vu (v:=v) l vs (i+1) m (by simpa using hl);simp only [mE,List.modify_succ_cons,List.set_cons_succ,this]
theorem NI:∀ (l:List κ) (vs:List Value) (i m:Nat),l.length=vs.length→m<l.length→(mE enc i l vs).findIdx? (fun e=>(e.born:Int)==((i+m:Nat):Int))=some m
 | b::l,u::vs,i,0,_,_=>by simp [mE,List.findIdx?_cons]
 | b::l,u::vs,i,m+1,hl,h=>by
  have:=NI l vs (i+1) m (by simpa using hl) (by simpa using h);rw [show i+(m+1)=i+1+m by omega];have hne:((i:Int)==((i+1+m:Nat):Int))=false:=by simp;omega
  simp only [mE,List.findIdx?_cons,hne,Bool.false_eq_true,if_false,this,Option.map_some]
end
section
variable {κ α:Type} [DecidableEq κ] {k:κ} {l:List (κ×List α)}
theorem Mo{m:Nat}(h:mI k (l.map Prod.fst)=some m):Go.L.De k l=l:=by
 unfold Go.L.De;rw [ND h];have:=Q3 ([]:List α) h;obtain⟨a,h2⟩:=List.getElem?_eq_some_iff.1 this
 conv=>lhs;rw [← h2]
 exact List.set_getElem_self a
theorem Mp(h:mI k (l.map Prod.fst)=none):Go.L.De k l=l++[(k,[])]:=by
 unfold Go.L.De;rw [NC h,Q2 [] h]
theorem Rg:Go.L.HL [] k (Go.L.De k l)=Go.L.HL [] k l:=by
 cases h:mI k (l.map Prod.fst) with
 | some m=>rw [Mo h]
 | none=>
  rw [Mp h];clear h
  induction l with
  | nil=>simp [Go.L.HL]
  | cons a l ih=>
   obtain⟨a,y⟩:=a;simp only [List.cons_append,Go.L.HL]
   split
   ·rfl
   ·exact ih
theorem Xq:∃ m,mI k ((Go.L.De k l).map Prod.fst)=some m:=by
 cases h:mI k (l.map Prod.fst) with
 | some m=>rw [Mo h];exact⟨m,h⟩
 | none=>
  rw [Mp h];clear h
  induction l with
  | nil=>exact⟨0,by simp [mI]⟩
  | cons a l ih=>
   obtain⟨a,y⟩:=a;obtain⟨m,hm⟩:=ih;simp only [List.cons_append,List.map_cons,mI]
   split
   ·exact⟨_,rfl⟩
   ·rw [hm];exact⟨_,rfl⟩
theorem TO{y z:List α}:∀ {l:List (κ×List α)},mI k (l.map Prod.fst)=none→Go.L.Hk k y (l++[(k,z)])=Go.L.Hk k y l
 | [],_=>by simp [Go.L.Hk]
 | (a,x)::l,h=>by
  simp only [List.map_cons,mI] at h
  split at h
  ·cases h
  ·rename_i e;simp only [List.cons_append,Go.L.Hk,if_neg e];rw [TO (by cases b:mI k (l.map Prod.fst) <;> simp_all)]
theorem Rh{y:List α}:Go.L.Hk k y (Go.L.De k l)=Go.L.Hk k y l:=by
 cases h:mI k (l.map Prod.fst) with
 | some m=>rw [Mo h]
 | none=>rw [Mp h,TO h]
def Ng(k:κ)(l:List κ):Int:=match mI k l with | some m=>(m:Int) | none=>0
end
section
variable {P:Program} {n:Sz} {ops:Array Oper} {Q:Exit→Act→World→Prop} {L:Env} {w w0:World} {O:List AN} {rest:List Oper} {d:Nat} {ty ty' t mt kt et e:TypeId} {pos pos':String} {af af':Array Edge} {x y x' m':Operand}
 {κ α:Type} [DecidableEq κ] {enc:κ→Value} {cw:α→List Value} {sz:Nat} {l:List (κ×List α)} {vs:List Value} {k:κ} {H:PH} {A:List AN}
theorem U5[Dr](ib:Nat){b:Nat}(hx:ev L x=some (.map (some b)))(hy:ev L y=some (enc k))(ht:P.underlying t=some (.map kt et))(hk:MC P kt enc)(hz:Mz P et (.slice none 0 0))(hn:Nat.blt d n.n=true)(hL:AR w0 (A++mT cw e sz l vs) w)
  (hib:Dq A ib=some (Oe enc b l vs)) (hl:l.length=vs.length)
  (h:∀ vs' w',(Go.L.De k l).length=vs'.length→AR w0 (CJ A ib (Oe enc b (Go.L.De k l) vs')++mT cw e sz (Go.L.De k l) vs') w'→
   Le (fz w (A++mT cw e sz l vs)) (fz w' (CJ A ib (Oe enc b (Go.L.De k l) vs')++mT cw e sz (Go.L.De k l) vs'))→
   S P n ops Q rest ((d,.tuple #[Uw (.slice none 0 0) k ((Go.L.De k l).map Prod.fst) vs',.int .i64 (Ng k ((Go.L.De k l).map Prod.fst))])::L) w') :
  S P n ops Q (⟨some d,.mapEntry t x y,ty,pos,af,none⟩::rest) L w:=by
 have hb:w.heap[b]? = some (.map (mE enc 0 (l.map Prod.fst) vs).toArray l.length):=hL.at (Jg _ hib);have hg:(getObj b).run P w=.ok (.map (mE enc 0 (l.map Prod.fst) vs).toArray l.length) w:=by simp [getObj,Sem.run,hb]
 have hs:∀ o,(setObj b o).run P w=.ok () (w.putObj b o):=fun o=>by simp [setObj,Sem.run,hb,World.putObj]
 have hll:(l.map Prod.fst).length=vs.length:=by rw [List.length_map];exact hl
 cases hm:mI k (l.map Prod.fst) with
 | some m=>
  obtain⟨f,h2⟩:=Sb hm;have he:=Pw (enc:=enc) (l.map Prod.fst) vs 0 m k hll h2;have hp:=hL.putAt (.map (mE enc 0 (l.map Prod.fst) vs).toArray l.length) (Jg _ hib);rw [LQ _ _ hib] at hp;have h':=h vs (w.putObj b (.map (mE enc 0 (l.map Prod.fst) vs).toArray l.length));rw [Mo hm] at h';have g:(mE enc 0 (l.map Prod.fst) vs).toArray.modify m (fun e=>{e with key:=enc k})=(mE enc 0 (l.map Prod.fst) vs).toArray:=by rw [List.modify_toArray,Vt _ vs 0 m hll h2]
  refine Da (v:=_) (w':=_) rfl rfl hn (fun ρ hρ=>?_) (h' hl hp.1 hp.2)
  have hr:(Instr.mapEntry t (.map (some b)) (enc k)).run P w=.ok (.tuple #[Uw (.slice none 0 0) k (l.map Prod.fst) vs,.int .i64 (Ng k (l.map Prod.fst))]) (w.putObj b (.map (mE enc 0 (l.map Prod.fst) vs).toArray l.length)):=by
   simp only [Instr.mapEntry,Sem.run_bind,run_underlying ht,Result.andThen,hg,hk.check];rw [Q1 hk hll,hm];simp only [Option.map_some,Sem.run_bind,Result.andThen,List.getElem?_toArray,he,Option.getD_some,Instr.keyThatStays,hk.bits,if_true];simp only [Sem.run_pure,Nat.zero_add];rw [g,hs];simp [Uw,Ng,hm,goInt]
  simp [execOp,hρ x _ hx,hρ y _ hy,hr]
 | none=>
  have hp:=hL.putAt (.map (mE enc 0 (l.map Prod.fst++[k]) (vs++[.slice none 0 0])).toArray (l.length+1)) (Jg _ hib);rw [LQ _ _ hib] at hp;have hnil:=Qy hp.1 e sz;have h':=h (vs++[.slice none 0 0]) (w.putObj b (.map (mE enc 0 (l.map Prod.fst++[k]) (vs++[.slice none 0 0])).toArray (l.length+1)));rw [Mp hm] at h';have hpush:=SK (enc:=enc) (k:=k) (v:=.slice none 0 0) (l.map Prod.fst) vs 0 hll;rw [Nat.zero_add] at hpush;have c:(l++[(k,([]:List α))]).map Prod.fst=l.map Prod.fst++[k]:=by simp
  have i:(l++[(k,([]:List α))]).length=l.length+1:=by simp
  have hB:(.obj b (.map (mE enc 0 (l.map Prod.fst++[k]) (vs++[.slice none 0 0])).toArray (l.length+1)):AN)=Oe enc b (l++[(k,([]:List α))]) (vs++[.slice none 0 0]):=by unfold Oe;rw [c,i]
  rw [hB] at hp hnil
  have hperm:(CJ A ib (Oe enc b (l++[(k,([]:List α))]) (vs++[.slice none 0 0]))++mT cw e sz (l++[(k,([]:List α))]) (vs++[.slice none 0 0])).Perm (.row (.slice none 0 0) e sz 0 []::(CJ A ib (Oe enc b (l++[(k,([]:List α))]) (vs++[.slice none 0 0]))++mT cw e sz l vs)):=by
   rw [SL k [] (.slice none 0 0) hl,← List.append_assoc];exact List.perm_append_singleton _ _
  have hmm:mI k (l.map Prod.fst++[k])=some l.length:=by
   have hmk:∀ (ks:List κ),mI k ks=none→mI k (ks++[k])=some ks.length:=by
    intro ks
    induction ks with
    | nil=>intro _;simp [mI]
    | cons a ks ih=>
     intro hh;simp only [mI] at hh
     split at hh
     ·cases hh
     ·rename_i ee;simp only [List.cons_append,mI,if_neg ee];rw [ih (by cases f:mI k ks <;> simp_all)];simp
   have:=hmk _ hm
   rwa [List.length_map] at this
  refine Da (v:=_) (w':=_) rfl rfl hn (fun ρ hρ=>?_) (h' (by simp [hl]) (hnil.1.perm hperm) (by rw [HZ hperm];exact hp.2.trans hnil.2))
  have hr:(Instr.mapEntry t (.map (some b)) (enc k)).run P w=.ok (.tuple #[Uw (.slice none 0 0) k ((l++[(k,([]:List α))]).map Prod.fst) (vs++[.slice none 0 0]),.int .i64 (Ng k ((l++[(k,([]:List α))]).map Prod.fst))]) (w.putObj b (.map (mE enc 0 (l.map Prod.fst++[k]) (vs++[.slice none 0 0])).toArray (l.length+1))):=by
   rw [c];simp only [Instr.mapEntry,Sem.run_bind,run_underlying ht,Result.andThen,hg,hk.check];rw [Q1 hk hll,hm];have hz':(zeroValue et).run P w=.ok (.slice none 0 0) w:=hz w;simp only [Option.map_none,Sem.run_bind,Result.andThen,hz',List.push_toArray];rw [List.length_map] at hpush;rw [hpush,hs];simp [Uw,Ng,hmm,goInt,hl]
  simp [execOp,hρ x _ hx,hρ y _ hy,hr]
theorem Aad[Dr](ib:Nat){b:Nat}{v:Value}{yl:List α}{T:List AN}(hpd:ZX cw e sz (Go.L.De k l) vs k yl v T)(hm:ev L m'=some (.map (some b)))(hkx:ev L x'=some (.int .i64 (Ng k ((Go.L.De k l).map Prod.fst))))(hv:ev L x=some v)
  (hL:AR w0 (A++T) w) (hib:Dq A ib=some (Oe enc b (Go.L.De k l) vs))
  (h:∀ vs' w',(Go.L.Hk k yl l).length=vs'.length→AR w0 (CJ A ib (Oe enc b (Go.L.Hk k yl l) vs')++mT cw e sz (Go.L.Hk k yl l) vs') w'→
   Le (fz w (A++T)) (fz w' (CJ A ib (Oe enc b (Go.L.Hk k yl l) vs')++mT cw e sz (Go.L.Hk k yl l) vs'))→S P n ops Q rest L w') :
  S P n ops Q (⟨none,.entryStore mt m' x' x,ty,pos,af,none⟩::rest) L w:=by
 obtain⟨_,hl,hpm⟩:=hpd;obtain⟨m,hmi⟩:=Xq (k:=k) (l:=l);rw [Rh] at hpm;have hll:((Go.L.De k l).map Prod.fst).length=vs.length:=by rw [List.length_map];exact hl
 obtain⟨c,h2⟩:=Sb hmi;have hb:w.heap[b]? = some (.map (mE enc 0 ((Go.L.De k l).map Prod.fst) vs).toArray (Go.L.De k l).length):=hL.at (Jg T hib);have hg:(getObj b).run P w=.ok (.map (mE enc 0 ((Go.L.De k l).map Prod.fst) vs).toArray (Go.L.De k l).length) w:=by simp [getObj,Sem.run,hb]
 have hs:∀ o,(setObj b o).run P w=.ok () (w.putObj b o):=fun o=>by simp [setObj,Sem.run,hb,World.putObj]
 have hU:Ux k v ((Go.L.De k l).map Prod.fst) vs=vs.set m v:=by unfold Ux;rw [hmi]
 have hK:(Go.L.Hk k yl l).map Prod.fst=(Go.L.De k l).map Prod.fst:=by
  have:=QV (k:=k) (y:=yl) (l:=Go.L.De k l);rw [Rh] at this;rw [← this];unfold Z4;rw [hmi]
 have hlen:(Go.L.Hk k yl l).length=(Go.L.De k l).length:=by have:=congrArg List.length hK;simpa using this
 have hf:=NI (enc:=enc) _ vs 0 m hll c;rw [Nat.zero_add] at hf;have hp:=hL.putAt (.map (mE enc 0 ((Go.L.Hk k yl l).map Prod.fst) (vs.set m v)).toArray (Go.L.Hk k yl l).length) (Jg T hib);rw [LQ _ _ hib] at hp;have a:=List.Perm.append_left (CJ A ib (Oe enc b (Go.L.Hk k yl l) (Ux k v ((Go.L.De k l).map Prod.fst) vs))) hpm.symm;rw [hU] at a
 have hr:(Instr.entryStore mt (.map (some b)) (.int .i64 (Ng k ((Go.L.De k l).map Prod.fst))) v).run P w=.ok () (w.putObj b (.map (mE enc 0 ((Go.L.Hk k yl l).map Prod.fst) (vs.set m v)).toArray (Go.L.Hk k yl l).length)):=by
  simp only [Instr.entryStore,Sem.run_bind,Result.andThen,hg,Ng,hmi,asInt,asIntOf];simp only [Sem.run_bind,Sem.run_pure,Result.andThen,List.findIdx?_toArray,hf,List.modify_toArray];rw [Vu _ vs 0 m hll,hs,hK,hlen]
 refine LM (w':=_) rfl rfl (fun ρ hρ=>?_) (h (vs.set m v) _ (by rw [hlen,List.length_set];exact hl) (hp.1.perm a) ?_)
 ·simp [execOp,hρ m' _ hm,hρ x' _ hkx,hρ x _ hv,hr]
 ·rw [HZ a];exact hp.2
end
end Go.E
end
noncomputable section
namespace Go.E
open Go Go.RowKit
def AaA(v v':Value)(lo:Nat):Prop:=∃ a m cap,v=.slice a m cap∧lo≤m∧m≤cap∧v'=.slice (if cap=lo then a else a.map (·.add lo)) (m - lo) (cap - lo)
theorem AaA.vec{α:Type}{r:Rp α}{H:PH}{v v':Value}{lo:Nat}{l:List α}(h:AaA v v' lo)(hv:AI r H v l)(hr:r.sz=1):AI r H v' (l.drop lo):=by
 obtain⟨a,m,cap,rfl,c,h2,rfl⟩:=h;obtain⟨a',cap',he⟩:=hv.header;have hm:m=l.length:=by cases he;rfl
 subst hm;obtain⟨a2,f,g,hs⟩:=hv.sub lo l.length c (Nat.le_refl _)
 cases g
 rw [hr,Nat.mul_one,List.take_of_length_le (by simp)] at hs;exact hs
section
variable {P:Program} {n:Sz} {ops:Array Oper} {Q:Exit→Act→World→Prop} {L:Env} {w w0:World} {O:List AN} {rest:List Oper} {d:Nat}
 {ty:TypeId} {pos:String} {af:Array Edge} {α:Type} {r:Rp α} {x a b:Operand} {v:Value} {t e:TypeId} {H:PH} {k:IntKind} {lo:Int} {m:Nat} {zz:Value} {bt:Nat} {xs:List Value}
end
end Go.E
end
noncomputable section
namespace Go
abbrev No:Int→Value:=Value.int .i64
abbrev Aak:Value:=.slice none 0 0
abbrev Aam(b:Nat):Value:=.pointer (some ⟨b,0,none⟩)
abbrev Aar(l:List UInt8):Value:=.string ⟨l.toArray⟩
abbrev Aas:=List UInt8
end Go
namespace Go.Proofs.YtekmbcbgknmhiaaGreatDoor
open Go Go.E Go.RowKit Go.L
set_option maxHeartbeats 1000000
set_option maxRecDepth 10000
open _root_.Go.Proofs.Tryz
def CB(a0:Aas)(a1:Aas):Option (Int):=
 some ((Lib.compareBytes a0 a1))
theorem Jp[Dr](w:World)(H:PH)(_hH:Le H (hp w)){a0:Aas}{a1:Aas}{r:Int}(h:CB a0 a1=some r):
  Ok Tryz.prog 238 [Aar a0,Aar a1] w (fun v w'=>Ext w w'∧v=No r):=by
 refine A5 (n:=8) [(0,(Aar a0)),(1,(Aar a1))] func238 rfl rfl rfl rfl rfl ?_;have hL:=AR.start w;refine AD 1 rfl<|Bl 2 rfl<|Af (ZS func304 rfl rfl (by kernel_rfl) (by kernel_rfl) rfl rfl) rfl<|AB 1 rfl<|Az ?_;obtain rfl:=Option.some.inj h;refine An rfl rfl ?_;exact⟨hL.ext,rfl⟩
def strings_Compare(a0:Aas)(a1:Aas):Option (Int):=
 Option.bind (CB a0 a1) (fun a=>some (a))
theorem Jb[Dr](w:World)(H:PH)(hH:Le H (hp w)){a0:Aas}{a1:Aas}{r:Int}(h:strings_Compare a0 a1=some r):
  Ok Tryz.prog 188 [Aar a0,Aar a1] w (fun v w'=>Ext w w'∧v=No r):=by
 refine A5 (n:=8) [(0,(Aar a0)),(1,(Aar a1))] func188 rfl rfl rfl rfl rfl ?_;have hL:=AR.start w;refine AD 1 rfl<|Bl 2 rfl ?_;obtain⟨e,a,h⟩:=Go.L.bind_some h;refine Ax rfl rfl hL (Jp _ _ (As hH hL) a) ?_;rintro _ f rfl d b c;refine AB 1 rfl<|Az ?_;obtain rfl:=Option.some.inj h;refine An rfl rfl ?_;exact⟨b.ext,rfl⟩
def cmp_isNaN_int(a0:Int):Option (Bool):=
 some (!decide (a0=a0))
theorem LS[Dr](w:World)(H:PH)(_hH:Le H (hp w)){a0:Int}{r:Bool}(h:cmp_isNaN_int a0=some r):
  Ok Tryz.prog 239 [No a0] w (fun v w'=>Ext w w'∧v=.bool r):=by
 refine A5 (n:=6) [(0,No a0)] func239 rfl rfl rfl rfl rfl ?_;have hL:=AR.start w;refine AD 1 rfl<|AD 4 rfl<|Az ?_;obtain rfl:=Option.some.inj h;refine An rfl rfl ?_;exact⟨hL.ext,rfl⟩
def Hl(a0:Int)(a1:Int):Option (Int):=
 Option.bind (cmp_isNaN_int a0) (fun b=>Option.bind (cmp_isNaN_int a1) (fun a=>if b then(if a then some ((0:Int)) else some ((-1:Int))) else(if a then some ((1:Int)) else(if a0<a1 then some ((-1:Int)) else(if a1<a0 then some ((1:Int)) else some ((0:Int)))))))
theorem KO[Dr](w:World)(H:PH)(hH:Le H (hp w)){a0:Int}{a1:Int}{r:Int}(h:Hl a0 a1=some r):
  Ok Tryz.prog 189 [No a0,No a1] w (fun v w'=>Ext w w'∧v=No r):=by
 refine A5 (n:=20) [(0,No a0),(1,No a1)] func189 rfl rfl rfl rfl rfl ?_;have hL:=AR.start w;refine AD 1 rfl<|Bl 1 rfl ?_;obtain⟨p,i,h⟩:=Go.L.bind_some h;refine Ax rfl rfl hL (LS _ _ (As hH hL) i) ?_;rintro _ q rfl m g k;refine AB 1 rfl<|Bl 1 rfl ?_;obtain⟨s,j,h⟩:=Go.L.bind_some h;refine Ax rfl rfl g (LS _ _ (As hH g) j) ?_;rintro _ t rfl o a l;refine AB 1 rfl<|A8<|AD 1 rfl<|By rfl (fun e=>?_) (fun e=>?_)
 ·have h:=Bv e h;refine A8<|AD 1 rfl<|By rfl (fun f=>?_) (fun f=>?_)
  ·have h:=Bv f h;refine AD 1 rfl<|Az ?_
   iterate 2 refine Au ?_
   obtain rfl:=Option.some.inj h;refine An rfl rfl ?_;exact⟨a.ext,rfl⟩
  have h:=Bw f h;refine Av<|Ao<|AD 1 rfl<|Az<|Au ?_;obtain rfl:=Option.some.inj h;refine An rfl rfl ?_;exact⟨a.ext,rfl⟩
 have h:=Bw e h;refine Av<|Ao<|A8<|AD 1 rfl<|By rfl (fun b=>?_) (fun b=>?_)
 ·have h:=Bv b h;refine AD 1 rfl<|Az<|Au ?_;obtain rfl:=Option.some.inj h;refine An rfl rfl ?_;exact⟨a.ext,rfl⟩
 have h:=Bw b h;refine Av<|Ao<|A8<|AD 3 rfl<|Bg rfl (fun c=>?_) (fun c=>?_)
 ·have h:=A1 c h;refine AD 1 rfl<|Az<|Au ?_;obtain rfl:=Option.some.inj h;refine An rfl rfl ?_;exact⟨a.ext,rfl⟩
 have h:=A2 c h;refine Av<|Ao<|A8<|AD 3 rfl<|Bg rfl (fun d=>?_) (fun d=>?_)
 ·have h:=A1 d h;refine AD 1 rfl<|Az<|Au ?_;obtain rfl:=Option.some.inj h;refine An rfl rfl ?_;exact⟨a.ext,rfl⟩
 have h:=A2 d h;refine Av<|Ao<|AD 1 rfl<|Az ?_;obtain rfl:=Option.some.inj h;refine An rfl rfl ?_;exact⟨a.ext,rfl⟩
def Og:Option (Int):=
 some ((0:Int))
def Ek(a0:List Int):Int→Option ((Int) ⊕ (Int)):=fun a=>
 if a<(a0.length:Int) then AY (0≤a∧a<(a0.length:Int)) (if a0.getD a.toNat default=(0:Int) then AY (BJ (a+(1:Int))) (some (Sum.inl (a+(1:Int)))) else Option.map Sum.inr (some (a0.getD a.toNat default))) else Option.map Sum.inr (Og)
def Oh(a0:List Int)(s:Int):Option (Int):=Go.L.run (Ek a0) s
def Mq(a0:List Int):Option (Int):=
 (Oh a0) (0:Int)
theorem RE[Dr](w:World)(H:PH)(hH:Le H (hp w)){a0:List Int}{b:Value}(g:AI (.int .i64) H b (a0)){r:Int}(h:Mq a0=some r):
  Ok Tryz.prog 187 [b] w (fun v w'=>Ext w w'∧v=No r):=by
 refine A5 (n:=18) [(0,b)] func187 rfl rfl rfl rfl rfl ?_;have hL:=AR.start w;refine AD 1 rfl<|AD 1 rfl<|Bm (σ:=Unit) (fun(_:Unit)=>[(3,No (0:Int))]) (fun(_:Unit) wr=>AR w [] wr∧Og=some r) ?_ ?_
 ·refine Bl 1 rfl<|Af (Bn rfl Aat g) rfl<|AB 1 rfl<|A4 ?_;obtain⟨i,h⟩:=Bb h;refine Bu (σ:=Int×Nat) (fun⟨a,n⟩=>[(3,No (0:Int)),(6,b),(7,No (a0.length:Int)),(8,No a)]) (fun⟨a,n⟩ wr=>AR w [] wr∧FM (Ek a0) n a=some r) (fun⟨a,n⟩=>n) ((0:Int),i) (.cons rfl (.cons rfl (.cons rfl (.cons rfl (Sub.nil _))))) ⟨hL,h⟩ ?_;rintro⟨a,nn36⟩ o ⟨c,h⟩;obtain⟨i,q,rfl,h,d⟩:=Ba h;refine AD 1 rfl<|A8<|Bg rfl (fun e=>?_) (fun e=>?_)
  ·have h:=A1 e h;refine Av<|Ao<|A8<|A4<|Al ?_;obtain⟨j,h⟩:=Ac h;refine Be rfl rfl Aat BG g a.toNat (Int.toNat_of_nonneg j.1).symm (AZ j) rfl ?_;rintro s _ rfl k;refine Af (Bh rfl Aau rfl k (hH.trans c.arg)) rfl<|AB 1 rfl<|AD 3 rfl<|C9 rfl (fun f=>?_) (fun f=>?_)
   ·have h:=A2 f h;refine AD 2 rfl<|Az<|Ay<|Au<|BB ?_;have h:=BF.out h d;refine Ay<|Bs ?_;obtain rfl:=Option.some.inj h;refine An rfl rfl ?_;exact⟨c.ext,rfl⟩
   have h:=A1 f h;refine Av<|AA<|Ao<|Aq ?_;obtain⟨l,h⟩:=Ac h;refine Af (AK rfl rfl rfl l) rfl<|Ar 1 rfl<|AL ?_;have h:=BF.again h d;refine AO ((a+(1:Int)),i) (.cons rfl (.cons rfl (.cons rfl (.cons rfl (Sub.nil _))))) ⟨c,h⟩ (Nat.lt_succ_self _)
  have h:=A2 e h;refine Bq<|AH<|A6 ?_;have h:=BF.out h d;refine Bf<|A9 () (.cons rfl (Sub.nil _)) ⟨c,h⟩
 rintro _ p ⟨m,h⟩;refine AD 2 rfl<|Az ?_;obtain rfl:=Option.some.inj h;refine An rfl rfl ?_;exact⟨m.ext,rfl⟩
def I5(a0:Aas×Int×Int×Aas)(a1:Aas×Int×Int×Aas):Option (Int):=
 Option.bind (strings_Compare a0.1 a1.1) (fun c=>Option.bind (Hl a0.2.1 a1.2.1) (fun d=>Option.bind (Hl a0.2.2.1 a1.2.2.1) (fun e=>Option.bind (strings_Compare a0.2.2.2 a1.2.2.2) (fun a=>Option.bind (Mq ([c,d,e,a])) (fun b=>some (b))))))
theorem Mr[Dr](w:World)(H:PH)(hH:Le H (hp w)){a0:Aas×Int×Int×Aas}{a1:Aas×Int×Int×Aas}{r:Int}(h:I5 a0 a1=some r):
  Ok Tryz.prog 137 [.agg #[Aar a0.1,No a0.2.1,No a0.2.2.1,Aar a0.2.2.2],.agg #[Aar a1.1,No a1.2.1,No a1.2.2.1,Aar a1.2.2.2]] w (fun v w'=>Ext w w'∧v=No r):=by
 refine A5 (n:=27) [(0,.agg #[Aar a0.1,No a0.2.1,No a0.2.2.1,Aar a0.2.2.2]),(1,.agg #[Aar a1.1,No a1.2.1,No a1.2.2.1,Aar a1.2.2.2])] func137 rfl rfl rfl rfl rfl ?_;have hL:=AR.start w;refine Al<|Cv (t:=142) rfl rfl rfl hL fun w1 b1 j y _=>Cv (t:=142) rfl rfl rfl j fun w2 b2 k z _=>AB 1 rfl<|EI (.q 0 (.q 1 (.q 2 (.q 3 (.q 4 (.q 5 (.q 6 (.q 7 (.q 8 (.q 9 (.q 10 (.q 11 (.q 12 (.q 13 (.q 14 (.q 15 (.q 16 (.q 17 (.q 18 (.q 19 (.h 20 (.q 21 (.q 22 (.tail 23)))))))))))))))))))))))) mixed (by kernel_rfl) (fun w3 m=>?_);have a:=k.call m;refine BE (Ag rfl Aa5 rfl Fo (by decide)) rfl rfl<|BE (Ah 1 rfl AaG rfl a rfl rfl) rfl rfl<|BE (Ag rfl Aa5 rfl Fo (by decide)) rfl rfl<|BE (Ah 0 rfl AaG rfl a rfl rfl) rfl rfl ?_;obtain⟨x5,o,h⟩:=Go.L.bind_some h;refine ER rfl rfl rfl (fun w6 ag=>Jb _ _ (Le.refl _) o)<|BE (Ag rfl Aa5 rfl BG (by decide)) rfl rfl<|BE (Ah 1 rfl Aau rfl a rfl rfl) rfl rfl<|BE (Ag rfl Aa5 rfl BG (by decide)) rfl rfl<|BE (Ah 0 rfl Aau rfl a rfl rfl) rfl rfl ?_;obtain⟨x7,p,h⟩:=Go.L.bind_some h
 refine ER rfl rfl rfl (fun w8 ah=>KO _ _ (Le.refl _) p)<|BE (Ag rfl Aa5 rfl BG (by decide)) rfl rfl<|BE (Ah 1 rfl Aau rfl a rfl rfl) rfl rfl<|BE (Ag rfl Aa5 rfl BG (by decide)) rfl rfl<|BE (Ah 0 rfl Aau rfl a rfl rfl) rfl rfl ?_;obtain⟨x9,s,h⟩:=Go.L.bind_some h;refine ER rfl rfl rfl (fun ai ad=>KO _ _ (Le.refl _) s)<|BE (Ag rfl Aa5 rfl Fo (by decide)) rfl rfl<|BE (Ah 1 rfl AaG rfl a rfl rfl) rfl rfl<|BE (Ag rfl Aa5 rfl Fo (by decide)) rfl rfl<|BE (Ah 0 rfl AaG rfl a rfl rfl) rfl rfl ?_;obtain⟨u,c,h⟩:=Go.L.bind_some h;refine ER rfl rfl rfl (fun aj ae=>Jb _ _ (Le.refl _) c)<|Mk (r:=(.int .i64)) (l:=[x5,x7,x9,u]) rfl rfl (fun _=>Vr _ _ _ _ _) rfl (show 4≤9223372036854775807 by decide) hH a (.c1 rfl (.c1 rfl (.c1 rfl (.c1 rfl .nil)))) ?_;intro ak al af b x d;obtain⟨am,e,h⟩:=Go.L.bind_some h;refine ER rfl rfl rfl (fun an f=>RE _ _ (Le.refl _) ((d.mono (As hH b)).mono f.le) e)<|Ds 1 rfl<|BW (fun ao g=>?_);have i:=b.call g;refine Ad<|Az ?_;obtain rfl:=Option.some.inj h;refine An rfl rfl ?_;exact⟨i.ext,rfl⟩
def LB(a0:Aas)(a1:Aas):Option (Int):=
 some ((Lib.compareBytes a0 a1))
theorem P1[Dr](w:World)(H:PH)(hH:Le H (hp w)){a0:Aas}{a1:Aas}{a:Value}{b:Value}(c:AI .byte H a (a0))(d:AI .byte H b (a1)){r:Int}(h:LB a0 a1=some r):
  Ok Tryz.prog 175 [a,b] w (fun v w'=>Ext w w'∧v=No r):=by
 refine A5 (n:=8) [(0,a),(1,b)] func175 rfl rfl rfl rfl rfl ?_;have hL:=AR.start w;refine AD 1 rfl<|Bl 2 rfl<|Af (ZR func227 rfl rfl (by kernel_rfl) (by kernel_rfl) rfl rfl c (hH.trans hL.arg) d (hH.trans hL.arg)) rfl<|AB 1 rfl<|Az ?_;obtain rfl:=Option.some.inj h;refine An rfl rfl ?_;exact⟨hL.ext,rfl⟩
def KP(a0:Int)(a1:Int)(a:Aas):Option (Int):=
 AY (0≤a0∧a0≤(a.length:Int)) (AY (0≤a1∧a1≤(a.length:Int)) (Option.bind (LB (a.drop a0.toNat) (a.drop a1.toNat)) (fun b=>some (b))))
theorem OJ[Dr](w:World)(H:PH)(hH:Le H (hp w)){a0:Int}{a1:Int}{i:Aas}{b:Value}{f:Addr}(c:AI .byte H b (i))(d:GM H f [b]){r:Int}(h:KP a0 a1 i=some r):
  Ok Tryz.prog 174 [No a0,No a1,.pointer (some f)] w (fun v w'=>Ext w w'∧v=No r):=by
 refine A5 (n:=13) [(0,No a0),(1,No a1),(2,.pointer (some f))] func174 rfl rfl rfl rfl rfl ?_;have hL:=AR.start w;refine AD 1 rfl<|EI (.q 0 (.q 1 (.q 2 (.q 3 (.q 4 (.q 5 (.q 6 (.q 7 (.tail 8))))))))) mixed (by kernel_rfl) (fun t j=>?_);have a:=hL.call j;refine BE (Bh rfl AaQ rfl d (hH.trans a.arg)) rfl rfl<|Ds 1 rfl ?_;obtain⟨k,h⟩:=Ac h;refine TF rfl rfl rfl AaQ Lj c k rfl fun u l=>BE (Bh rfl AaQ rfl d (hH.trans a.arg)) rfl rfl<|Ds 1 rfl ?_;obtain⟨m,h⟩:=Ac h;refine TF rfl rfl rfl AaQ Lj c m rfl ?_;intro x o;obtain⟨y,p,h⟩:=Go.L.bind_some h;refine ER rfl rfl rfl (fun z e=>P1 _ _ (Le.refl _) ((l.mono (hH.trans a.arg)).mono e.le) ((o.mono (hH.trans a.arg)).mono e.le) p)<|Ds 1 rfl<|BW (fun w9 s=>?_);have g:=a.call s;refine Ad<|Az ?_;obtain rfl:=Option.some.inj h;refine An rfl rfl ?_;exact⟨g.ext,rfl⟩
end Go.Proofs.YtekmbcbgknmhiaaGreatDoor
end
noncomputable section
namespace Go.E
open Go Go.RowKit
instance Abj:Dr:=⟨false⟩
theorem Ext.off{w w':World}(h:Below w.heap.size w w'):Ext w w':=⟨h,fun o=>absurd o (by decide)⟩
structure Cb (P:Program) (a:World) (H:PH) (f:FuncId) (cap:List Value) {σ:Type} (J:σ→List AN→PH→Prop) (step:σ→List UInt8×Int×Int×List UInt8→Option σ):Prop where
 mono:∀ {s:σ} {R:List AN} {G G':PH},Le G G'→J s R G→J s R G'
 ok:∀ {w:World} {O R:List AN} {s s':σ} {x:List UInt8×Int×Int×List UInt8},AR a (HAppend.hAppend O R) w→J s R (gz H a w (HAppend.hAppend O R))→step s x=some s'→
  Ok P f (Jh x::cap) w (fun v w'=>v=.tuple #[]∧∃ R':List AN,AR a (HAppend.hAppend O R') w'∧Le (fz w (HAppend.hAppend O R)) (fz w' (HAppend.hAppend O R'))∧J s' R' (gz H a w' (HAppend.hAppend O R')))
section
variable {P:Program} {n:Sz} {ops:Array Oper} {Q:Exit→Act→World→Prop} {L:Env} {w w0:World} {O:List AN} {rest:List Oper} {d:Nat} {ty t t':TypeId} {pos:String} {af:Array Edge} {x y:Operand} {v:Value} {e:TypeId} {pv:Value}
theorem U6{a b:Int}(c : -9223372036854775808≤a∧a≤9223372036854775807∧0<b): -9223372036854775808≤a.tdiv b∧a.tdiv b≤9223372036854775807:=by
 obtain⟨c,h2,h3⟩:=c;have e:(a.tdiv b).natAbs≤a.natAbs:=by rw [Int.natAbs_tdiv];exact Nat.div_le_self _ _
 rcases Int.le_total 0 a with h | h
 ·have d:0≤a.tdiv b:=Int.tdiv_nonneg h (by omega);omega
 ·have d:0≤(-a).tdiv b:=Int.tdiv_nonneg (by omega) (by omega);rw [Int.neg_tdiv] at d;omega
theorem Aae{a b:Int}(hx:ev L x=some (.int .i64 a))(hy:ev L y=some (.int .i64 b))(c : -9223372036854775808≤a∧a≤9223372036854775807∧0<b):Bt P L w (.binOp .quo t x y t') ty (.int .i64 (a.tdiv b)):=by
 intro w' _ ρ hρ dst pos af g;have hb:b≠0:=by omega
 have⟨d,e⟩:=U6 c;simp [execOp,hρ x _ hx,hρ y _ hy,eqGuard,binOp,Op.intDiv,hb,wrap64 (x:=a.tdiv b) (by omega) (by omega)]
theorem Aaf{a b:Int}{k:IntKind}(hx:ev L x=some (.int k a))(hy:ev L y=some (.int k b))(c : -9223372036854775808≤a∧a≤9223372036854775807∧0<b):Bt P L w (.binOp .rem t x y t') ty (.int k (a.tmod b)):=by
 intro w' _ ρ hρ dst pos af g;have hb:b≠0:=by omega
 simp [execOp,hρ x _ hx,hρ y _ hy,eqGuard,binOp,Op.intDiv,hb]
theorem Si(i off:Nat){b:Nat}{cs vs ns:List Value}{a:TypeId}{zz:Value}{bt:Nat}(hx:ev L x=some (.pointer (some ⟨b,off,none⟩)))(hy:ev L y=some v)(hc:v.cells.toList=vs)(hz:Zr P t zz vs.length bt)(hL:AR w0 O w)(hi:Dq O i=some (.box b cs a))(hlen:Nat.ble (off+vs.length) cs.length=true)(hns:cs.take off++vs++cs.drop (off+vs.length)=ns)(c:∀ u∈vs,u.oneCell'=true)
  (h:∀ w',AR w0 (CJ O i (.box b ns a)) w'→Le (fz w O) (fz w' (CJ O i (.box b ns a)))→S P n ops Q rest L w'):S P n ops Q (⟨none,.store t x y,ty,pos,af,none⟩::rest) L w:=by
 subst hc;have hlen':=Nat.le_of_ble_eq_true hlen;obtain⟨inf,d,g,f,j⟩:=hz.parts;have hb:w.heap[b]? = some (.cells cs.toArray a (0,0)):=hL.at hi;have hst:=run_storeCells_at P b off a v.cells.toList 0 cs.toArray w hb (by simp at hlen' ⊢;omega) c;simp only [Nat.add_zero,List.toList_toArray] at hst;rw [hns] at hst;have hsz:v.cells.size=inf.size:=by rw [f];simp
 refine LM (w':=w.setRow b ns.toArray) rfl rfl (fun ρ hρ=>by
  simp [execOp,hρ x _ hx,hρ y _ hy,Instr.storeAt,Instr.sureAddr,storeVar,sizeOf,typeInfo,d,hsz,hst]) ?_
 have hg:=Na w b ns.toArray
 have hnl:ns.length=cs.length:=by
  rw [← hns];simp only [List.length_append,List.length_take,List.length_drop];omega
 have hok:AN.ok (w.setRow b ns.toArray) (.box b ns a):=by
  show(w.setRow b ns.toArray).heap[b]? = _
  exact LO w b cs.toArray ns.toArray a hb
 exact h _ (hL.L7 hi (Nat.le_refl _) hg hok (fun b' e=>.inl e)) (Hs hL hi hg (fun b' e=>.inl e))
theorem Aag{α:Type}{r:Rp α}{l:List α}{H:PH}{b c:Operand}{k k':IntKind}{zz:Value}{bt:Nat}(hx:ev L x=some v)(hb:ev L b=some (.int k (l.length:Int)))(hc:ev L c=some (.int k' (l.length:Int)))(ht:P.underlying t=some (.slice e))(he:Zr P e zz r.sz bt)(hv:AI r H v l)(hn:Nat.blt d n.n=true)
  (h:∀ v',AI r H v' l→S P n ops Q rest ((d,v')::L) w):S P n ops Q (⟨some d,.slice t x none (some b) (some c),ty,pos,af,none⟩::rest) L w:=by
 obtain⟨inf,i,q,s,u⟩:=he.parts;obtain⟨A,cap,j,o,p,a,f⟩:=hv.ex;subst j
 have hr:∀ w,Bt P L w (.slice t x none (some b) (some c)) ty (.slice A l.length l.length):=fun w w' _ ρ hρ dst pos af g=>by
  have m:(l.length:Int)≤(cap:Int):=by omega
  simp [execOp,hρ x _ hx,hρ b _ hb,hρ c _ hc,Instr.sliceAt,run_underlying ht,Instr.slice,Instr.sliceBounds,Instr.sliceBound,asIntOf,sizeOf,typeInfo,i,m]
  cases A <;> simp [Addr.add_zero'] <;> (intro h;omega)
 exact Af (hr w) hn (h _ ⟨A,l.length,rfl,Nat.le_refl _,by omega,fun hA=>by have:=a hA;omega,f⟩)
theorem TP{b m e:Nat}{a:Int}{k:IntKind}{zz:Value}{bt len:Nat}(hx:ev L x=some (.pointer (some ⟨b,0,none⟩)))(hy:ev L y=some (.int k a))(ht:P.underlying t=some (.array len e))(he:Zr P e zz 1 bt)(hl:Nat.blt 1 len=true)(hm:0≤a∧a<(len:Int))(hmm:a.toNat=m):Bt P L w (.indexAddr t x y) ty (.pointer (some ⟨b,m,none⟩)):=by
 intro w' _ ρ hρ dst pos af g;obtain⟨inf,c,f,d,i⟩:=he.parts;have hl' : ¬ len≤1:=by simp only [Nat.blt_eq] at hl;omega
 have i3':inf.size=1:=by rw [d]
 simp [execOp,hρ x _ hx,hρ y _ hy,Instr.indexAt,asIntOf,run_underlying ht,Instr.sureAddr,sizeOf,typeInfo,c,i3',hm,hmm,Addr.add];intro h;exact h.symm
theorem Vv(i m:Nat){b:Nat}{l:List Int}{cs:List Value}{c:TypeId}{k:IntKind}(hx:ev L x=some (.pointer (some ⟨b,m,none⟩)))(ht:P.underlying t=some (.int k))(hL:AR w0 O w)(hi:Dq O i=some (.box b cs c))(hcs:l.map (Value.int k)=cs)(hm:m<l.length):Bt P L w (.load t x) ty (.int k (l.getD m default)):=by
 subst hcs;have a:=(AS hL hi).add m;rw [Addr.add_lit,Nat.zero_add] at a
 have h2:(l.map (Value.int k)).drop m=.int k (l.getD m default)::(l.map (Value.int k)).drop (m+1):=by
  rw [List.drop_eq_getElem_cons (by simpa using hm)];simp [hm]
 rw [h2] at a;exact Bh hx ht rfl a (Le.refl _)
theorem Xr(m:Nat){b off:Nat}{cs c:List Value}{d:TypeId}{dd:TypeDesc}{zz:Value}{bt:Nat}(hx:ev L x=some (.pointer (some ⟨b,off,none⟩)))(ht:P.underlying t=some dd)(hd:T6 dd=true)(hz:Zr P t zz c.length bt)(h:w.heap[b]? = some (.cells cs.toArray d (0,0)))(hc:(cs.drop off).take m=c):Bt P L w (.load t x) ty (.agg c.toArray):=by
 have a:=((Uz h).add off).part m;rw [hc,Addr.add_lit,Nat.zero_add] at a;exact Cd hx ht hd hz a (Le.refl _)
theorem Xs{u:Value}{dd:TypeDesc}(hx:ev L x=some (.iface t' u))(ht:P.underlying t'=some dd)(hd:Vf dd=true):Bt P L w (.typeAssert x t t' true) ty (.tuple #[u,.bool true]):=fun w' _ ρ hρ dst pos af g=>by
 cases dd <;> simp [Vf] at hd <;> simp [execOp,hρ x _ hx,Instr.typeAssert,run_underlying ht]
theorem VL{p:Prop}(b:Bool)(a:b=true→p)(h2:b=false→p):p:=by
 cases b
 ·exact h2 rfl
 ·exact a rfl
theorem Sj{f:FuncId}{args:List Operand}{vs:List Value}{at_:Array TypeId}{dst:Option Tmp}{fst cap:List Value}{fo:Operand}(hc:HN P f)(hf:ev L fo=some (.func (.func f) fst.toArray cap.toArray))(ha:Pg L args=some vs)(ρ:Operand→Value)(hρ:Up L ρ):
  (execOp ρ ⟨dst,.call ⟨.value fo,args.toArray,at_⟩,ty,pos,af,none⟩).run P w=.ok (.enter f (fst++vs++cap).toArray) w:=by
 obtain ⟨fn, c, a, h2, h3⟩ := hc;have b := hρ.map _ _ ha;have h2' : ¬ fn.name = "runtime.NumGoroutine" := by simpa using h2
 simp [execOp,resolve,hρ fo _ hf,Deferred.ofValue,b,invoke,callFunc,a,h2',h3]
theorem YR{f:FuncId}{args:List Operand}{vs:List Value}{at_:Array TypeId}(fst cap:List Value){fo:Operand}{R:Value→World→Prop}(hf:ev L fo=some (.func (.func f) fst.toArray cap.toArray))(ha:Pg L args=some vs)(hn:Nat.blt d n.n=true)(hok:Ok P f (fst++vs++cap) w R)
  (h:∀ v w',R v w'→S P n ops Q rest ((d,v)::L) w'):S P n ops Q (⟨some d,.call ⟨.value fo,args.toArray,at_⟩,ty,pos,af,none⟩::rest) L w:=
 Pk rfl fun a fr=>by
  unfold Oper.wp;rw [Sj hok.1 hf ha _ fr.Qa];refine hok.2.mono fun e w' ⟨v,he,hv⟩=>?_;subst he;exact h v w' hv _ (fr.put hn)
theorem Xt{f:FuncId}{args:List Operand}{vs:List Value}{at_:Array TypeId}(fst cap:List Value){fo:Operand}{R:Value→World→Prop}(hf:ev L fo=some (.func (.func f) fst.toArray cap.toArray))(ha:Pg L args=some vs)(hn:Nat.blt d n.n=true)(hL:AR w0 O w)(hok:Ok P f (fst++vs++cap) w (fun v w'=>Ext w w'∧R v w'))
  (h:∀ v w',R v w'→Ext w w'→AR w0 O w'→Le (fz w O) (fz w' O)→S P n ops Q rest ((d,v)::L) w'):S P n ops Q (⟨some d,.call ⟨.value fo,args.toArray,at_⟩,ty,pos,af,none⟩::rest) L w:=
 YR fst cap hf ha hn hok fun v w' hh=>h v w' hh.2 hh.1 (hL.call hh.1) (AX hL hh.1)
theorem OK{α:Type}{r:Option α}{f:FuncId}{args:List Operand}{vs:List Value}{at_:Array TypeId}(fst cap:List Value){fo:Operand}{R:World→α→Value→Prop}{N:World→Prop}(hf:ev L fo=some (.func (.func f) fst.toArray cap.toArray))(ha:Pg L args=some vs)(hn:Nat.blt d n.n=true)
  (hok:QP P f (fst++vs++cap) w pv (fun v w'=>RX r v (R w') (N w'))) (b:r=none→∀ w',N w'→At n Q (.panic (Wt pv)) L w')
  (h:∀ y,r=some y→∀ v w',R w' y v→S P n ops Q rest ((d,v)::L) w'):S P n ops Q (⟨some d,.call ⟨.value fo,args.toArray,at_⟩,ty,pos,af,none⟩::rest) L w:=
 Pk rfl fun a fr=>by
  unfold Oper.wp;rw [Sj hok.1 hf ha _ fr.Qa];refine hok.2.mono fun e w' k=>?_
  cases e with
  | returned v=>
   cases r with
   | none=>exact k.elim
   | some y=>exact h y rfl v w' k _ (fr.put hn)
  | panicked c=>
   obtain⟨rfl,k⟩:=k
   cases r with
   | none=>exact b rfl w' k a fr
   | some y=>exact k.elim
  | outgrown=>exact k.elim
theorem Aah{σ:Type}{c:Code}(I:σ→Env)(R:σ→World→Prop)(hx:W P n c (Tv n I R Q) L w)(hy:∀ s w',R s w'→At n Q .normal (I s) w'):W P n c Q L w:=fun a fr=>
 wp_mono (hx a fr) fun e a' w' q=>by
  cases e with
  | normal=>obtain⟨s,b,h2⟩:=q;exact hy s w' h2 a' b
  | _=>exact q
theorem Jj{id:Nat}{l:List Oper}{m:Nat}(hq:H8 Q)(Inv:World→World→Prop)(hm:P.follows .mixedOrders=true)(hl:l.length=m)(h:H8 Q→∀ w',Ext w w'→Nw (Inv w') P n l Q m (MA m []) L w'):W P n (.region id l.toArray true) Q L w:=Xc Inv hm hl (h hq)
theorem Lq{Inv:World→Prop}{l:List Oper}{fuel:Nat}{listed:Array Bool}(hI:Inv w)(h:Inv w→Nw Inv P n l Q fuel listed L w):Nw Inv P n l Q fuel listed L w:=h hI
theorem Bd{Inv:World→Prop}{l:List Oper}{fuel i m:Nat}{done:List Nat}(hI:Inv w)(h:Inv w→Nw Inv P n l Q fuel (MA m done) L w):S P n l.toArray (Xb Inv P l Q fuel i (MA m done)) [] L w:=ZZ hI (h hI)
def Ri(K L:Env):Bool:=K.all fun x=>(gt L x.1).isNone
theorem Xu{L:Env}{s:Nat}{u:Value}(hu:gt L s=some u):∀ K:Env,Ri K L=true→gt (K++L) s=some u
 | [],_=>hu
 | (a,z)::K,h=>by
  simp only [Ri,List.all_cons,Bool.and_eq_true] at h;have ih:=Xu hu K h.2
  have hne:Nat.beq a s=false:=by
   cases hb:Nat.beq a s with
   | false=>rfl
   | true=>
    have:=Nat.eq_of_beq_eq_true hb;rw [this,hu] at h;exact absurd h.1 (by simp)
  show(bif Nat.beq a s then some z else gt (K++L) s)=some u
  rw [hne];exact ih
theorem Fr.strip{a:Act}{L':Env}{v':Value}(k:Nat)(fr:Fr n a ((d,v')::L'))(hv:v=v')(hl:L'.drop k=L)(hk:Ri (L'.take k) L=true):Fr n a ((d,v)::L):=by
 subst hv;refine⟨fr.size,fr.defers,fun s u hs=>fr.get s u ?_⟩;have e:L'=L'.take k++L:=by rw [← hl,List.take_append_drop]
 rw [e];have hs':(bif Nat.beq d s then some v else gt L s)=some u:=hs
 show(bif Nat.beq d s then some v else gt (L'.take k++L) s)=some u
 cases hb:Nat.beq d s with
 | true=>rw [hb] at hs';exact hs'
 | false=>rw [hb] at hs';exact Xu hs' _ hk
theorem G5{l:List Oper}(m d:Nat)(v:Value)(hb:S P n ops Q (l.drop m) ((d,v)::L) w→S P n ops Q l L w)(h:S P n ops Q (l.drop m) ((d,v)::L) w):S P n ops Q l L w:=hb h
theorem S.to{l:List Oper}{L':Env}{v':Value}(hm:S P n ops Q l ((d,v)::L) w)(k:Nat)(hv:v=v')(hl:L'.drop k=L)(hk:Ri (L'.take k) L=true):S P n ops Q l ((d,v')::L') w:=fun a fr=>hm a (fr.strip k hv hl hk)
def trq:Nat→Tr→Tr
 | 0,t=>t
 | m+1,.q _ t=>trq m t
 | _+1,t=>t
theorem TQ{l:List Oper}{t:Tr}(m d:Nat)(v:Value)(hb:D P n l Q (trq m t) ((d,v)::L) w→D P n l Q t L w)(h:D P n l Q (trq m t) ((d,v)::L) w):D P n l Q t L w:=hb h
theorem D.to{l:List Oper}{t:Tr}{L':Env}{v':Value}(hm:D P n l Q t ((d,v)::L) w)(k:Nat)(hv:v=v')(hl:L'.drop k=L)(hk:Ri (L'.take k) L=true):D P n l Q t ((d,v')::L') w:=fun a fr=>hm a (fr.strip k hv hl hk)
section
variable {b c e:Bool}
theorem Kc(h:b=true):Value.bool (b&&c)=.bool c:=by rw [h];rfl
theorem Kd(h:b=false):Value.bool (b&&c)=.bool false:=by rw [h];rfl
theorem O0(h:b=true):Value.bool (b||c)=.bool true:=by rw [h];rfl
theorem O1(h:b=false):Value.bool (b||c)=.bool c:=by rw [h];rfl
end
end
end Go.E
end
noncomputable section
namespace Go.L
inductive Qv where
 | mk (kind:Int) (words:List (List UInt8)) (pattern data:List UInt8) (low high:Int) (subs:List Qv)
instance:Inhabited Qv:=⟨.mk 0 [] [] [] 0 0 []⟩
abbrev QvF:Type:=Int×List (List UInt8)×List UInt8×List UInt8×Int×Int×List Qv
def Qv.f:Qv→QvF
 | .mk k ws p d l h ss=>(k,ws,p,d,l,h,ss)
end Go.L
namespace Go.E
open Go Go.L
variable {α β:Type}
def Rp.OL(r:Rp Qv):Rp QvF:=.pair (.int .i64) (.pair (.vec .st) (.pair .st (.pair (.vec .byte) (.pair (.int .i64) (.pair (.int .i64) (.vec r))))))
def Rp.Jc:Nat→Rp Qv
 | 0=>.no Qv 7
 | d+1=>(Rp.OL (Rp.Jc d)).via Qv.f
theorem Rp.LU:∀ d,(Rp.Jc d).sz=7
 | 0=>rfl
 | _+1=>rfl
theorem Rp.Rj{r s:Rp Qv}{H:PH}{x:QvF}{c:List Value}(hz:r.sz=s.sz)(hrel:∀ y∈x.2.2.2.2.2.2,∀ c,r.rel H y c→s.rel H y c)(h:(Rp.OL r).rel H x c):(Rp.OL s).rel H x c:=by
 obtain⟨c1,c2,e,f,c3,c4,g,h2,c5,c6,i,h3,c7,c8,j,k,l,a,m,n,b,d,o,p,v,q,t⟩:=h;exact⟨c1,c2,e,f,c3,c4,g,h2,c5,c6,i,h3,c7,c8,j,k,l,a,m,n,b,d,o,p,v,q,t.Xe hz hrel⟩
theorem Rp.PQ{H:PH}:∀ (d:Nat) (x:Qv) (c:List Value),(Rp.Jc d).rel H x c→(Rp.Jc (d+1)).rel H x c
 | 0,_,_,h=>h.elim
 | d+1,x,c,h=>Rp.Rj (r:=Rp.Jc d) (s:=Rp.Jc (d+1)) (by rw [Rp.LU,Rp.LU]) (fun y _ c h=>Rp.PQ d y c h) h
theorem Rp.Sk{H:PH}{d e:Nat}(h:d≤e){x:Qv}{c:List Value}(hx:(Rp.Jc d).rel H x c):(Rp.Jc e).rel H x c:=by
 induction h with
 | refl=>exact hx
 | step _ ih=>exact Rp.PQ _ _ _ ih
def Rp.AV:Rp Qv:=⟨7,fun H x c=>∃ d,(Rp.Jc d).rel H x c,fun h=>by obtain⟨d,h⟩:=h;rw [(Rp.Jc d).len h,Rp.LU],fun hs h=>by obtain⟨d,h⟩:=h;exact⟨d,(Rp.Jc d).mono hs h⟩,fun h=>by obtain⟨d,h⟩:=h;exact(Rp.Jc d).one h⟩
theorem Rp.Cn{H:PH}{x:Qv}{c:List Value}(h:Rp.AV.rel H x c):(Rp.OL Rp.AV).rel H x.f c:=by
 obtain⟨d,h⟩:=h
 cases d with
 | zero=>exact h.elim
 | succ d=>exact Rp.Rj (r:=Rp.Jc d) (s:=Rp.AV) (Rp.LU d) (fun y _ c h=>⟨d,h⟩) h
theorem AI.Aai{H:PH}{v:Value}{l:List Qv}(h:AI Rp.AV H v l):∃ d,AI (Rp.Jc d) H v l:=by
 obtain⟨a,cap,b,h2,h3,f,g⟩:=h.ex
 cases a with
 | none=>exact⟨0,none,cap,b,h2,h3,f,fun A hA=>by cases hA⟩
 | some A=>
  have key:∀ n,∃ d,∀ i x,i<n→l≠[]→l[i]? = some x→∃ c,(Rp.Jc d).rel H x c∧∀ j u,c[j]? = some u→Gn H (A.add (i * 7+j))=some u:=by
   intro n
   induction n with
   | zero=>exact⟨0,fun i x hi=>absurd hi (Nat.not_lt_zero i)⟩
   | succ n ih=>
    obtain⟨d,hd⟩:=ih
    by_cases hl:l=[]
    ·exact⟨0,fun i x _ hn=>absurd hl hn⟩
    cases hx:l[n]? with
    | none=>
     refine⟨d,fun i x hi hn he=>?_⟩
     rcases Nat.lt_succ_iff_lt_or_eq.1 hi with hi | rfl
     ·exact hd i x hi hn he
     ·rw [hx] at he
      cases he
    | some y=>
     obtain⟨c,⟨e,hc⟩,hcell⟩:=(g A rfl hl).2 n y hx;refine⟨max d e,fun i x hi hn he=>?_⟩
     rcases Nat.lt_succ_iff_lt_or_eq.1 hi with hi | rfl
     ·obtain⟨c',k,m⟩:=hd i x hi hn he;exact⟨c',Rp.Sk (Nat.le_max_left ..) k,m⟩
     ·rw [hx] at he
      cases he
      exact⟨c,Rp.Sk (Nat.le_max_right ..) hc,hcell⟩
  obtain⟨d,hd⟩:=key l.length;refine⟨d,some A,cap,b,h2,h3,f,fun B hB hl=>?_⟩
  cases hB
  refine⟨(g A rfl hl).1,fun i x hx=>?_⟩;rw [Rp.LU];exact hd i x (List.getElem?_eq_some_iff.1 hx).1 hl hx
theorem Rp.DH{H:PH}{x:Qv}{c:List Value}(h:(Rp.OL Rp.AV).rel H x.f c):Rp.AV.rel H x c:=by
 obtain⟨c1,c2,g,i,c3,c4,j,h2,c5,c6,k,h3,c7,c8,l,m,n,a,o,p,b,e,q,r,v,s,t⟩:=h;obtain⟨d,hd⟩:=t.Aai;exact⟨d+1,c1,c2,g,i,c3,c4,j,h2,c5,c6,k,h3,c7,c8,l,m,n,a,o,p,b,e,q,r,v,s,hd⟩
end Go.E
end
noncomputable section
namespace Go.Proofs.YtekmbcbgknmhiaaGreatDoor
open Go Go.E Go.RowKit Go.L
set_option maxHeartbeats 1000000
set_option maxRecDepth 10000
open _root_.Go.Proofs.Tryz
def Ey(a0:Int)(a1:Int)(a2:Int):Option (Bool):=
 some (decide ((a1≤a0)∧(a0≤a2)))
theorem D1(w:World)(H:PH)(_hH:Le H (hp w)){a0:Int}{a1:Int}{a2:Int}{r:Bool}(h:Ey a0 a1 a2=some r):
  Ok Tryz.prog 30 [No a0,No a1,No a2] w (fun v w'=>Ext w w'∧v=.bool r):=by
 refine A5 (n:=15) [(0,No a0),(1,No a1),(2,No a2)] func30 rfl rfl rfl rfl rfl ?_;have hL:=AR.start w;refine AD 1 rfl<|Bl 4 rfl<|MU 3 3 rfl rfl rfl rfl rfl rfl<|AB 1 rfl<|Az ?_;obtain rfl:=Option.some.inj h;refine An rfl rfl ?_;exact⟨hL.ext,rfl⟩
def H9(a0:Int)(a1:Int):Option ((Int×Int)):=
 some ((a0,a1))
theorem Gi(w:World)(H:PH)(_hH:Le H (hp w)){a0:Int}{a1:Int}{r:(Int×Int)}(h:H9 a0 a1=some r):
  Ok Tryz.prog 18 [No a0,No a1] w (fun v w'=>Ext w w'∧v=.agg #[No r.1,No r.2]):=by
 refine A5 (n:=8) [(0,No a0),(1,No a1)] func18 rfl rfl rfl rfl rfl ?_;have hL:=AR.start w;refine Al<|AJ AT rfl rfl hL fun e f b c _=>Ad<|Bl 2 rfl<|Af (AW rfl (fun _=>NG _ _ _)) rfl<|Ak 0 rfl rfl rfl AT b rfl rfl (AF rfl (AF rfl BM)) fun g a d=>Ad<|Az ?_;obtain rfl:=Option.some.inj h;refine B7 rfl (.cell rfl AaR rfl AT (AS (i:=0) a rfl)) ?_;exact⟨a.ext,rfl⟩
def K2:Option (Bool):=
 some (true)
def JU(a0:List Int)(a1:List Int):Int→Option ((Int) ⊕ (Bool)):=fun a=>
 if a<(a0.length:Int) then AY (0≤a∧a<(a0.length:Int)) (AY (0≤a∧a<(a1.length:Int)) (if a0.getD a.toNat default=a1.getD a.toNat default then AY (BJ (a+(1:Int))) (some (Sum.inl (a+(1:Int)))) else none)) else Option.map Sum.inr (K2)
def Ms(a0:List Int)(a1:List Int)(s:Int):Option (Bool):=Go.L.run (JU a0 a1) s
def NJ(a0:List Int)(a1:List Int):Option (Bool):=
 if(a0.length:Int)=(a1.length:Int) then(Ms a0 a1) (0:Int) else none
theorem SP(w:World)(H:PH)(hH:Le H (hp w)){a0:List Int}{a1:List Int}{b:Value}{c:Value}(d:AI (.int .i64) H b (a0))(i:AI (.int .i64) H c (a1)){r:Bool}(h:NJ a0 a1=some r):
  Ok Tryz.prog 26 [b,c] w (fun v w'=>Ext w w'∧v=.bool r):=by
 refine A5 (n:=26) [(0,b),(1,c)] func26 rfl rfl rfl rfl rfl ?_;have hL:=AR.start w;refine AD 1 rfl<|A8<|Bl 1 rfl<|Af (Bn rfl Aat d) rfl<|Ar 1 rfl<|Af (Bn rfl Aat i) rfl<|AB 1 rfl<|C9 rfl (fun j=>?_) (fun j=>?_)
 ·have h:=A2 j h
  cases h
 have h:=A1 j h;refine Av<|Ao<|Bm (σ:=Unit) (fun(_:Unit)=>[]) (fun(_:Unit) wr=>AR w [] wr∧K2=some r) ?_ ?_
 ·refine AD 1 rfl<|A4 ?_;obtain⟨k,h⟩:=Bb h;refine Bu (σ:=Int×Nat) (fun⟨a,n⟩=>[(0,b),(1,c),(5,No a)]) (fun⟨a,n⟩ wr=>AR w [] wr∧FM (JU a0 a1) n a=some r) (fun⟨a,n⟩=>n) ((0:Int),k) (.cons rfl (.cons rfl (.cons rfl (Sub.nil _)))) ⟨hL,h⟩ ?_;rintro⟨a,nn57⟩ ab ⟨l,h⟩;obtain⟨k,ad,rfl,h,m⟩:=Ba h;refine A8<|Bl 2 rfl<|Af (Bn rfl Aat d) rfl<|AB 1 rfl<|Bg rfl (fun e=>?_) (fun e=>?_)
  ·have h:=A1 e h;refine Av<|Ao<|A8<|A4<|EI (.q 0 (.q 1 (.q 2 (.q 3 (.q 4 (.q 5 (.q 6 (.q 7 (.q 8 (.tail 9)))))))))) mixed (by kernel_rfl) (fun ae s=>?_);have f:=l.call s;refine Ds 2 rfl ?_;obtain⟨o,h⟩:=Ac h;refine H7 rfl rfl rfl Aat BG d a.toNat (Int.toNat_of_nonneg o.1).symm (AZ o) rfl ?_;rintro af _ rfl t;refine BE (Bh rfl Aau rfl t (hH.trans f.arg)) rfl rfl<|Ds 2 rfl ?_;obtain⟨p,h⟩:=Ac h;refine H7 rfl rfl rfl Aat BG i a.toNat (Int.toNat_of_nonneg p.1).symm (AZ p) rfl ?_;rintro ag _ rfl u;refine BE (Bh rfl Aau rfl u (hH.trans f.arg)) rfl rfl<|Ds 1 rfl<|BW (fun ah x=>?_);have y:=f.call x;refine Ad<|C9 rfl (fun g=>?_) (fun g=>?_)
   ·have h:=A2 g h
    cases h
   have h:=A1 g h;refine Av<|AA<|Ao<|Aq<|Ar 1 rfl ?_;obtain⟨z,h⟩:=Ac h;refine Af (AK rfl rfl rfl z) rfl<|Ar 1 rfl<|AL ?_;have h:=BF.again h m;refine AO ((a+(1:Int)),k) (.cons rfl (.cons rfl (.cons rfl (Sub.nil _)))) ⟨y,h⟩ (Nat.lt_succ_self _)
  have h:=A2 e h;refine Bq<|AH<|A6 ?_;have h:=BF.out h m;refine Bf<|A9 () (Sub.nil _) ⟨l,h⟩
 rintro _ ac ⟨aa,h⟩;refine AD 1 rfl<|Az ?_;obtain rfl:=Option.some.inj h;refine An rfl rfl ?_;exact⟨aa.ext,rfl⟩
def G6(a0:Aas)(a1:Aas):Option (Bool):=
 some (decide (a0=a1))
theorem Lt(w:World)(H:PH)(hH:Le H (hp w)){a0:Aas}{a1:Aas}{a:Value}{b:Value}(c:AI .byte H a (a0))(d:AI .byte H b (a1)){r:Bool}(h:G6 a0 a1=some r):
  Ok Tryz.prog 31 [a,b] w (fun v w'=>Ext w w'∧v=.bool r):=by
 refine A5 (n:=10) [(0,a),(1,b)] func31 rfl rfl rfl rfl rfl ?_;have hL:=AR.start w;refine AD 1 rfl<|Bl 1 rfl<|Af (M9 rfl AaQ AaS AaG c (hH.trans hL.arg)) rfl<|Ar 1 rfl<|Af (M9 rfl AaQ AaS AaG d (hH.trans hL.arg)) rfl<|Af (LP rfl rfl) rfl<|AB 1 rfl<|Az ?_;obtain rfl:=Option.some.inj h;refine An rfl rfl ?_;exact⟨hL.ext,rfl⟩
def Hu(a0:Int):Option (UInt8):=
 if a0<(10:Int) then AY (BJ ((48:Int)+a0)) (some ((Go.L.u8 ((48:Int)+a0)))) else AY (BJ ((97:Int)+a0)) (AY (BJ (((97:Int)+a0) - (10:Int))) (some ((Go.L.u8 (((97:Int)+a0) - (10:Int))))))
theorem LV(w:World)(H:PH)(_hH:Le H (hp w)){a0:Int}{r:UInt8}(h:Hu a0=some r):
  Ok Tryz.prog 71 [No a0] w (fun v w'=>Ext w w'∧v=.int .u8 (r.toNat:Int)):=by
 refine A5 (n:=12) [(0,No a0)] func71 rfl rfl rfl rfl rfl ?_;have hL:=AR.start w;refine AD 1 rfl<|A8<|AD 2 rfl<|Bg rfl (fun a=>?_) (fun a=>?_)
 ·have h:=A1 a h;refine Bl 1 rfl ?_;obtain⟨b,h⟩:=Ac h;refine Af (AK rfl rfl rfl b) rfl<|Af (ES Aau AaS rfl (HO _)) rfl<|AB 1 rfl<|Az<|Au ?_;obtain rfl:=Option.some.inj h;refine An rfl rfl ?_;exact⟨hL.ext,rfl⟩
 have h:=A2 a h;refine Av<|Ao<|Bl 1 rfl ?_;obtain⟨c,h⟩:=Ac h;refine Af (AK rfl rfl rfl c) rfl ?_;obtain⟨d,h⟩:=Ac h;refine Af (AK rfl rfl rfl d) rfl<|Af (ES Aau AaS rfl (HO _)) rfl<|AB 1 rfl<|Az ?_;obtain rfl:=Option.some.inj h;refine An rfl rfl ?_;exact⟨hL.ext,rfl⟩
def KQ(a0:Aas):Option (Bool):=
 Option.bind (Ey (a0.length:Int) (1:Int) (32:Int)) (fun a=>some (a))
def C7(a0:Aas):Int→Option ((Int) ⊕ (Bool)):=fun a=>
 if a<(a0.length:Int) then AY (0≤a∧a<(a0.length:Int)) (Option.bind (Ey ((a0.getD a.toNat default).toNat:Int) (97:Int) (122:Int)) (fun b=>if !b then if a=(0:Int) then Option.map Sum.inr (some (false)) else Option.bind (Ey ((a0.getD a.toNat default).toNat:Int) (48:Int) (57:Int)) (fun c=>if !c then if((a0.getD a.toNat default).toNat:Int)=(45:Int) then AY (BJ (a+(1:Int))) (some (Sum.inl (a+(1:Int)))) else if((a0.getD a.toNat default).toNat:Int)=(95:Int) then AY (BJ (a+(1:Int))) (some (Sum.inl (a+(1:Int)))) else if((a0.getD a.toNat default).toNat:Int)=(46:Int) then AY (BJ (a+(1:Int))) (some (Sum.inl (a+(1:Int)))) else Option.map Sum.inr (some (false)) else AY (BJ (a+(1:Int))) (some (Sum.inl (a+(1:Int))))) else AY (BJ (a+(1:Int))) (some (Sum.inl (a+(1:Int)))))) else Option.map Sum.inr ((KQ a0))
def Nh(a0:Aas)(s:Int):Option (Bool):=Go.L.run (C7 a0) s
def Lu(a0:Aas):Option (Bool):=
 (Nh a0) (0:Int)
theorem Rk(w:World)(H:PH)(hH:Le H (hp w)){a0:Aas}{r:Bool}(h:Lu a0=some r):
  Ok Tryz.prog 214 [Aar a0] w (fun v w'=>Ext w w'∧v=.bool r):=by
 refine A5 (n:=42) [(0,(Aar a0))] func214 rfl rfl rfl rfl rfl ?_;have hL:=AR.start w;refine AD 1 rfl<|Bm (σ:=Unit) (fun(_:Unit)=>[(0,(Aar a0))]) (fun(_:Unit) wr=>AR w [] wr∧(KQ a0)=some r) ?_ ?_
 ·refine AD 1 rfl<|A4 ?_;obtain⟨i,h⟩:=Bb h;refine Bu (σ:=Int×Nat) (fun⟨c,n⟩=>[(0,(Aar a0)),(3,No c)]) (fun⟨c,n⟩ wr=>AR w [] wr∧FM (C7 a0) n c=some r) (fun⟨c,n⟩=>n) ((0:Int),i) (.cons rfl (.cons rfl (Sub.nil _))) ⟨hL,h⟩ ?_;rintro⟨c,nn102⟩ ah ⟨l,h⟩;obtain⟨i,al,rfl,h,d⟩:=Ba h;refine A8<|Bl 2 rfl<|Af (CL rfl AaG) rfl<|AB 1 rfl<|Bg rfl (fun m=>?_) (fun m=>?_)
  ·have h:=A1 m h;refine Av<|Ao<|A8<|A4<|Bl 2 rfl ?_;obtain⟨q,h⟩:=Ac h;refine Af (G3 rfl rfl AaG q) rfl<|Af (ES AaS Aau rfl (Ht _)) rfl<|AB 1 rfl<|Bl 1 rfl ?_;obtain⟨am,t,h⟩:=Go.L.bind_some h;refine Ax rfl rfl l (D1 _ _ (As hH l) t) ?_;rintro _ an rfl ai k ae;refine Ar 2 rfl<|AQ (s:=18) rfl (fun b=>?_) (fun b=>?_)
   ·have h:=Bv b h;refine Aa rfl rfl b<|Af (Ae rfl) rfl<|Aa rfl rfl b<|Af (Ae rfl) rfl<|Aa rfl rfl b<|Af (Ae rfl) rfl<|AQ (s:=21) rfl (fun a=>?_) (fun a=>?_)
    ·have h:=A1 (of_decide_eq_true a) h
     iterate 4 refine Aj rfl rfl a rfl ?_
     iterate 2 refine BQ rfl rfl rfl ?_
     iterate 2 refine Aj rfl rfl a rfl ?_
     iterate 2 refine BQ rfl rfl rfl ?_
     iterate 2 refine Aj rfl rfl a rfl ?_
     iterate 2 refine BQ rfl rfl rfl ?_
     refine Aj rfl rfl a rfl<|Aa rfl rfl b<|Af (A3 rfl a rfl) rfl<|Af (A3 rfl b rfl) rfl<|Ad<|Ce rfl<|AD 1 rfl<|Az<|Ay<|Au<|BB ?_;have h:=BF.out h d;refine Ay<|Bs ?_;obtain rfl:=Option.some.inj h;refine An rfl rfl ?_;exact⟨k.ext,rfl⟩
    have h:=A2 (of_decide_eq_false a) h;refine Aa rfl rfl a<|Af (Ae rfl) rfl<|Aa rfl rfl a ?_;obtain⟨ao,u,h⟩:=Go.L.bind_some h;refine Ax rfl rfl k (D1 _ _ (As hH k) u) ?_;rintro _ ap rfl aj j af;refine Aa rfl rfl a<|Af (Ae rfl) rfl<|Aa rfl rfl a<|Af (Ae rfl) rfl<|AQ (s:=25) rfl (fun e=>?_) (fun e=>?_)
    ·have h:=Bv e h;refine Aa rfl rfl e<|Af (Ae rfl) rfl<|Aa rfl rfl e<|Af (Ae rfl) rfl<|Aa rfl rfl a<|Af (A3 rfl e rfl) rfl<|Aa rfl rfl a<|Af (Ae rfl) rfl<|AQ (s:=29) rfl (fun f=>?_) (fun f=>?_)
     ·have h:=A2 (CT f) h;refine Aa rfl rfl f<|Af (Ae rfl) rfl<|Aa rfl rfl f<|Af (Ae rfl) rfl<|Aa rfl rfl a<|Af (A3 rfl f rfl) rfl<|Aa rfl rfl a<|Af (Ae rfl) rfl<|AQ (s:=33) rfl (fun g=>?_) (fun g=>?_)
      ·have h:=A2 (CT g) h;refine Aa rfl rfl g<|Af (Ae rfl) rfl<|Aa rfl rfl g<|Af (Ae rfl) rfl<|Aa rfl rfl a<|Af (A3 rfl g rfl) rfl<|Aa rfl rfl b<|Af (A7 rfl a rfl) rfl<|Af (A3 rfl b rfl) rfl<|Ad<|C9 rfl (fun o=>?_) (fun o=>?_)
       ·have h:=A2 o h;refine AD 1 rfl<|Az<|Ay<|Au<|BB ?_;have h:=BF.out h d;refine Ay<|Bs ?_;obtain rfl:=Option.some.inj h;refine An rfl rfl ?_;exact⟨j.ext,rfl⟩
       have h:=A1 o h;refine Av<|AA<|Ao<|Aq<|Ar 1 rfl ?_;obtain⟨x,h⟩:=Ac h;refine Af (AK rfl rfl rfl x) rfl<|Ar 1 rfl<|AL ?_;have h:=BF.again h d;refine AO ((c+(1:Int)),i) (.cons rfl (.cons rfl (Sub.nil _))) ⟨j,h⟩ (Nat.lt_succ_self _)
      have h:=A1 (CU g) h
      iterate 2 refine Aj rfl rfl g rfl ?_
      refine Aa rfl rfl a<|Af (A7 rfl g rfl) rfl<|Aa rfl rfl b<|Af (A7 rfl a rfl) rfl<|Af (A3 rfl b rfl) rfl<|Ad<|Ch rfl<|Av<|AA<|Ao<|Aq<|Ar 1 rfl ?_;obtain⟨y,h⟩:=Ac h;refine Af (AK rfl rfl rfl y) rfl<|Ar 1 rfl<|AL ?_;have h:=BF.again h d;refine AO ((c+(1:Int)),i) (.cons rfl (.cons rfl (Sub.nil _))) ⟨j,h⟩ (Nat.lt_succ_self _)
     have h:=A1 (CU f) h
     iterate 2 refine Aj rfl rfl f rfl ?_
     refine Aa rfl rfl a<|Af (A7 rfl f rfl) rfl<|Aa rfl rfl a<|Af (Ae rfl) rfl ?_
     iterate 2 refine Aj rfl rfl rfl rfl ?_
     refine Aa rfl rfl a<|Af (A7 rfl rfl rfl) rfl<|Aa rfl rfl b<|Af (A7 rfl a rfl) rfl<|Af (A3 rfl b rfl) rfl<|Ad<|Ch rfl<|Av<|AA<|Ao<|Aq<|Ar 1 rfl ?_;obtain⟨z,h⟩:=Ac h;refine Af (AK rfl rfl rfl z) rfl<|Ar 1 rfl<|AL ?_;have h:=BF.again h d;refine AO ((c+(1:Int)),i) (.cons rfl (.cons rfl (Sub.nil _))) ⟨j,h⟩ (Nat.lt_succ_self _)
    have h:=Bw e h
    iterate 2 refine Aj rfl rfl e rfl ?_
    refine Aa rfl rfl a<|Af (A7 rfl e rfl) rfl<|Aa rfl rfl a<|Af (Ae rfl) rfl ?_
    iterate 2 refine Aj rfl rfl rfl rfl ?_
    refine Aa rfl rfl a<|Af (A7 rfl rfl rfl) rfl<|Aa rfl rfl a<|Af (Ae rfl) rfl ?_
    iterate 2 refine Aj rfl rfl rfl rfl ?_
    refine Aa rfl rfl a<|Af (A7 rfl rfl rfl) rfl<|Aa rfl rfl b<|Af (A7 rfl a rfl) rfl<|Af (A3 rfl b rfl) rfl<|Ad<|Ch rfl<|Av<|AA<|Ao<|Aq<|Ar 1 rfl ?_;obtain⟨aa,h⟩:=Ac h;refine Af (AK rfl rfl rfl aa) rfl<|Ar 1 rfl<|AL ?_;have h:=BF.again h d;refine AO ((c+(1:Int)),i) (.cons rfl (.cons rfl (Sub.nil _))) ⟨j,h⟩ (Nat.lt_succ_self _)
   have h:=Bw b h
   iterate 3 refine Aj rfl rfl b rfl ?_
   iterate 15 refine BQ rfl rfl rfl ?_
   refine Aj rfl rfl b rfl<|Af (A7 rfl b rfl) rfl<|Ad<|Ch rfl<|Av<|AA<|Ao<|Aq<|Ar 1 rfl ?_;obtain⟨ab,h⟩:=Ac h;refine Af (AK rfl rfl rfl ab) rfl<|Ar 1 rfl<|AL ?_;have h:=BF.again h d;refine AO ((c+(1:Int)),i) (.cons rfl (.cons rfl (Sub.nil _))) ⟨k,h⟩ (Nat.lt_succ_self _)
  have h:=A2 m h;refine Bq<|AH<|A6 ?_;have h:=BF.out h d;refine Bf<|A9 () (.cons rfl (Sub.nil _)) ⟨l,h⟩
 rintro _ aq ⟨p,h⟩;refine Bl 1 rfl<|Af (CL rfl AaG) rfl ?_;obtain⟨ar,ac,h⟩:=Go.L.bind_some h;refine Ax rfl rfl p (D1 _ _ (As hH p) ac) ?_;rintro _ au rfl ak ad ag;refine AB 1 rfl<|Az ?_;obtain rfl:=Option.some.inj h;refine An rfl rfl ?_;exact⟨ad.ext,rfl⟩
def Oi(a:List Aas):Option ((List Aas)):=
 some (a)
def CX(a0:Aas):(List Aas)×Int×Int→Option (((List Aas)×Int×Int) ⊕ ((List Aas))):=fun⟨c,b,a⟩=>
 if a≤(a0.length:Int) then(if a=(a0.length:Int) then AY (0≤b∧b≤a∧a≤(a0.length:Int)) (AY (Go.E.JE 16 (c.length+([((a0.drop b.toNat).take (a.toNat - b.toNat))]).length)) (AY (BJ (a+(1:Int))) (AY (BJ (a+(1:Int))) (some (Sum.inl ((c++[((a0.drop b.toNat).take (a.toNat - b.toNat))]),(a+(1:Int)),(a+(1:Int)))))))) else AY (0≤a∧a<(a0.length:Int)) (if((a0.getD a.toNat default).toNat:Int)=47 then AY (0≤b∧b≤a∧a≤(a0.length:Int)) (AY (Go.E.JE 16 (c.length+([((a0.drop b.toNat).take (a.toNat - b.toNat))]).length)) (AY (BJ (a+(1:Int))) (AY (BJ (a+(1:Int))) (some (Sum.inl ((c++[((a0.drop b.toNat).take (a.toNat - b.toNat))]),(a+(1:Int)),(a+(1:Int)))))))) else AY (BJ (a+(1:Int))) (some (Sum.inl (c,b,(a+(1:Int))))))) else Option.map Sum.inr (Oi c)
def RF(a0:Aas)(s:(List Aas)×Int×Int):Option ((List Aas)):=Go.L.run (CX a0) s
def Mt(a0:Aas):Option ((List Aas)):=
 if a0=([]:Aas) then some ([]) else(RF a0) (([]:List Aas),(0:Int),(0:Int))
theorem RG(w:World)(H:PH)(hH:Le H (hp w)){a0:Aas}{r:(List Aas)}(h:Mt a0=some r):
  Ok Tryz.prog 153 [Aar a0] w (fun v w'=>Ext w w'∧∃ u0,v=u0∧Co 9 .st H w w' u0 (r)):=by
 refine A5 (n:=34) [(0,(Aar a0))] func153 rfl rfl rfl rfl rfl ?_;have hL:=AR.start w;refine AD 1 rfl<|A8<|Bl 1 rfl<|Af (LP rfl rfl) rfl<|Ad<|Bg rfl (fun y=>?_) (fun y=>?_)
 ·have h:=A1 y h;refine AD 1 rfl<|Az<|Au ?_;obtain rfl:=Option.some.inj h;refine An rfl rfl ?_;exact⟨hL.ext,_,rfl,Co.nil⟩
 have h:=A2 y h;refine Av<|Ao<|Bl 1 rfl ?_;obtain⟨a3,a9,a4⟩:=Ck .st H 9 hL;refine Ad<|AD 1 rfl<|Bm (σ:=(List Aas)×Value×(List Value)) (fun⟨t,k,j⟩=>[(3,k)]) (fun⟨t,k,j⟩ wr=>DM w [.row (k) 9 1 (t).length (j)] wr fun Oz=>AM .st (gz H w wr Oz) (t) (j)∧Oi t=some r) ?_ ?_
 ·refine AD 1 rfl<|A4 ?_;obtain⟨u,h⟩:=Bb h;refine Bu (σ:=(List Aas)×Int×Int×Value×(List Value)×Nat) (fun⟨f,a,b,g,e,n⟩=>[(0,(Aar a0)),(3,g),(4,No a),(5,No b)]) (fun⟨f,a,b,g,e,n⟩ wr=>DM w [.row (g) 9 1 (f).length (e)] wr fun Oz=>AM .st (gz H w wr Oz) (f) (e)∧FM (CX a0) n (f,a,b)=some r) (fun⟨f,a,b,g,e,n⟩=>n) (([]:List Aas),(0:Int),(0:Int),Aak,[],u) (.cons rfl (.cons rfl (.cons rfl (.cons rfl (Sub.nil _))))) ⟨a3,a4,h⟩ ?_;rintro⟨f,a,b,g,e,nn93⟩ ba ⟨o,c,h⟩;obtain⟨u,bi,rfl,h,p⟩:=Ba h;refine A8<|Bl 2 rfl<|Af (CL rfl AaG) rfl<|AB 1 rfl<|Bg rfl (fun x=>?_) (fun x=>?_)
  ·have h:=A1 x h;refine Av<|Ao<|A8<|A4<|Bl 2 rfl<|Af (CL rfl AaG) rfl<|Ar 2 rfl<|AQ (s:=18) rfl (fun d=>?_) (fun d=>?_)
   ·have h:=A1 (of_decide_eq_true d) h
    iterate 4 refine Aj rfl rfl d rfl ?_
    refine Af (A3 rfl d rfl) rfl<|Ad<|Ce rfl<|Bl 4 rfl ?_;obtain⟨ac,h⟩:=Ac h;refine Af (Xh rfl rfl rfl AaG ac) rfl<|Br (r:=.st) (l:=[((a0.drop a.toNat).take (b.toNat - a.toNat))]) rfl (fun _=>OG _ rfl _) rfl (show 1≤9223372036854775807 by decide) hH o (.c1 rfl .nil) ?_;intro bb bc a7 ad z ae;obtain⟨af,h⟩:=Ac h;have c:=c.mono (Ab hH z);refine Bo (r:=.st) (l:=f) (m:=[((a0.drop a.toNat).take (b.toNat - a.toNat))]) 0 rfl rfl AaT Fo rfl (by decide) rfl hH ad rfl c ae af fun az bd ag ah a5 ai=>AB 1 rfl<|Aq<|Ar 1 rfl ?_;obtain⟨aj,h⟩:=Ac h;refine Af (AK rfl rfl rfl aj) rfl<|Ar 1 rfl<|AL<|AA<|Ao<|Aq<|Ar 1 rfl ?_;obtain⟨ak,h⟩:=Ac h;refine Af (AK rfl rfl rfl ak) rfl<|Ar 1 rfl<|AL ?_;have h:=BF.again h p;refine AO ((f++[((a0.drop a.toNat).take (b.toNat - a.toNat))]),(b+(1:Int)),(b+(1:Int)),az,ag,u) (.cons rfl (.cons rfl (.cons rfl (.cons rfl (Sub.nil _))))) ⟨ah,ai,h⟩ (Nat.lt_succ_self _)
   have h:=A2 (of_decide_eq_false d) h;refine Aa rfl rfl d<|Af (Ae rfl) rfl<|Aa rfl rfl d<|Af (Ae rfl) rfl<|Aa rfl rfl d ?_;obtain⟨al,h⟩:=Ac h;refine Af (G3 rfl rfl AaG al) rfl<|Aa rfl rfl d<|Af (Ae rfl) rfl<|Af (A7 rfl d rfl) rfl<|Ad<|Bg rfl (fun q=>?_) (fun q=>?_)
   ·have h:=A1 q h;refine Bl 4 rfl ?_;obtain⟨am,h⟩:=Ac h;refine Af (Xh rfl rfl rfl AaG am) rfl<|Br (r:=.st) (l:=[((a0.drop a.toNat).take (b.toNat - a.toNat))]) rfl (fun _=>OG _ rfl _) rfl (show 1≤9223372036854775807 by decide) hH o (.c1 rfl .nil) ?_;intro be bf a8 an aa ao;obtain⟨ap,h⟩:=Ac h;have c:=c.mono (Ab hH aa);refine Bo (r:=.st) (l:=f) (m:=[((a0.drop a.toNat).take (b.toNat - a.toNat))]) 0 rfl rfl AaT Fo rfl (by decide) rfl hH an rfl c ao ap fun a1 bg aq ar a6 au=>AB 1 rfl<|Aq<|Ar 1 rfl ?_;obtain⟨av,h⟩:=Ac h;refine Af (AK rfl rfl rfl av) rfl<|Ar 1 rfl<|AL<|AA<|Ao<|Aq<|Ar 1 rfl ?_;obtain⟨aw,h⟩:=Ac h;refine Af (AK rfl rfl rfl aw) rfl<|Ar 1 rfl<|AL ?_;have h:=BF.again h p;refine AO ((f++[((a0.drop a.toNat).take (b.toNat - a.toNat))]),(b+(1:Int)),(b+(1:Int)),a1,aq,u) (.cons rfl (.cons rfl (.cons rfl (.cons rfl (Sub.nil _))))) ⟨ar,au,h⟩ (Nat.lt_succ_self _)
   have h:=A2 q h;refine Av<|AA<|Ao<|Aq<|Ar 1 rfl ?_;obtain⟨ax,h⟩:=Ac h;refine Af (AK rfl rfl rfl ax) rfl<|Ar 1 rfl<|AL ?_;have h:=BF.again h p;refine AO (f,a,(b+(1:Int)),g,e,u) (.cons rfl (.cons rfl (.cons rfl (.cons rfl (Sub.nil _))))) ⟨o,c,h⟩ (Nat.lt_succ_self _)
  have h:=A2 x h;refine Bq<|AH<|A6 ?_;have h:=BF.out h p;refine Bf<|A9 (f,g,e) (.cons rfl (Sub.nil _)) ⟨o,c,h⟩
 rintro⟨t,k,j⟩ bh ⟨ab,ay,h⟩;refine AD 2 rfl<|Az ?_;obtain rfl:=Option.some.inj h;refine An rfl rfl ?_;exact⟨ab.ext,_,rfl,(ab.Gp hH (i:=0) rfl ay)⟩
def Oj:Option (Int):=
 some ((-1:Int))
def Fx(a1:Bool)(c:(List Aas)):Int×Int→Option ((Int×Int) ⊕ (Int)):=fun⟨b,a⟩=>
 if a<(c.length:Int) then AY (0≤a∧a<(c.length:Int)) (Option.bind (Lu (c.getD a.toNat default)) (fun d=>if !d then AY (0≤a∧a<(c.length:Int)) (if c.getD a.toNat default=([35]:Aas) then AY (0≤a∧a<(c.length:Int)) (AY (BJ (b+((c.getD a.toNat default).length:Int))) (AY (BJ ((b+((c.getD a.toNat default).length:Int))+(1:Int))) (AY (BJ (a+(1:Int))) (some (Sum.inl (((b+((c.getD a.toNat default).length:Int))+(1:Int)),(a+(1:Int)))))))) else if a1 then AY (0≤a∧a<(c.length:Int)) (if c.getD a.toNat default=([42]:Aas) then AY (0≤a∧a<(c.length:Int)) (AY (BJ (b+((c.getD a.toNat default).length:Int))) (AY (BJ ((b+((c.getD a.toNat default).length:Int))+(1:Int))) (AY (BJ (a+(1:Int))) (some (Sum.inl (((b+((c.getD a.toNat default).length:Int))+(1:Int)),(a+(1:Int)))))))) else AY (0≤a∧a<(c.length:Int)) (if c.getD a.toNat default=([42,42]:Aas) then AY (0≤a∧a<(c.length:Int)) (AY (BJ (b+((c.getD a.toNat default).length:Int))) (AY (BJ ((b+((c.getD a.toNat default).length:Int))+(1:Int))) (AY (BJ (a+(1:Int))) (some (Sum.inl (((b+((c.getD a.toNat default).length:Int))+(1:Int)),(a+(1:Int)))))))) else Option.map Sum.inr (some (b)))) else Option.map Sum.inr (some (b))) else AY (0≤a∧a<(c.length:Int)) (AY (BJ (b+((c.getD a.toNat default).length:Int))) (AY (BJ ((b+((c.getD a.toNat default).length:Int))+(1:Int))) (AY (BJ (a+(1:Int))) (some (Sum.inl (((b+((c.getD a.toNat default).length:Int))+(1:Int)),(a+(1:Int)))))))))) else Option.map Sum.inr (Oj)
def RH(a1:Bool)(a:(List Aas))(s:Int×Int):Option (Int):=Go.L.run (Fx a1 a) s
def KR(a0:Aas)(a1:Bool):Option (Int):=
 Option.bind (Mt a0) (fun a=>(RH a1 a) ((0:Int),(0:Int)))
theorem Ol(w:World)(H:PH)(hH:Le H (hp w)){a0:Aas}{a1:Bool}{r:Int}(h:KR a0 a1=some r):
  Ok Tryz.prog 164 [Aar a0,.bool a1] w (fun v w'=>Ext w w'∧v=No r):=by
 refine A5 (n:=56) [(0,(Aar a0)),(1,.bool a1)] func164 rfl rfl rfl rfl rfl ?_;have hL:=AR.start w;refine AD 1 rfl<|Bl 1 rfl ?_;obtain⟨x1,a6,h⟩:=Go.L.bind_some h;refine Ax rfl rfl hL (RG _ _ (As hH hL) a6) ?_;rintro ad w2 ⟨_,rfl,ae⟩ a7 a8 bc;have af:=ae.Ct hH hL a7;refine AB 1 rfl<|AD 1 rfl<|Bm (σ:=Unit) (fun(_:Unit)=>[]) (fun(_:Unit) wr=>AR w [] wr∧Oj=some r) ?_ ?_
 ·refine AD 1 rfl<|A4 ?_;obtain⟨k,h⟩:=Bb h;refine Bu (σ:=Int×Int×Nat) (fun⟨f,a,n⟩=>[(1,.bool a1),(5,ad),(6,No f),(7,No a)]) (fun⟨f,a,n⟩ wr=>DM w [] wr fun Oz=>AI .st (gz H w wr Oz) (ad) (x1)∧FM (Fx a1 x1) n (f,a)=some r) (fun⟨f,a,n⟩=>n) ((0:Int),(0:Int),k) (.cons rfl (.cons rfl (.cons rfl (.cons rfl (Sub.nil _))))) ⟨a8,af,h⟩ ?_;rintro⟨f,a,nn157⟩ a9 ⟨l,b,h⟩;obtain⟨k,bd,rfl,h,j⟩:=Ba h;refine A8<|Bl 2 rfl<|Af (Bn rfl AaT b) rfl<|AB 1 rfl<|Bg rfl (fun m=>?_) (fun m=>?_)
  ·have h:=A1 m h;refine Av<|Ao<|A8<|A4<|A8<|Bl 2 rfl ?_;obtain⟨q,h⟩:=Ac h;refine Be rfl rfl AaT Fo b a.toNat (Int.toNat_of_nonneg q.1).symm (AZ q) rfl ?_;rintro be _ rfl ag;refine Af (Bh rfl AaG rfl ag (As hH l)) rfl ?_;obtain⟨bf,ah,h⟩:=Go.L.bind_some h;refine Ax rfl rfl l (Rk _ _ (As hH l) ah) ?_;rintro _ bg rfl ba e p;refine Ar 2 rfl<|AQ (s:=22) rfl (fun g=>?_) (fun g=>?_)
   ·have h:=Bv g h;refine Aa rfl rfl g<|Af (Ae rfl) rfl<|Aa rfl rfl g<|Af (Ae rfl) rfl<|Aa rfl rfl g ?_;obtain⟨t,h⟩:=Ac h;have b:=b.mono (Ab hH p);refine Be rfl rfl AaT Fo b a.toNat (Int.toNat_of_nonneg t.1).symm (AZ t) rfl ?_;rintro bh _ rfl ai;refine Aa rfl rfl g<|Af (Bh rfl AaG rfl ai (As hH e)) rfl<|Aa rfl rfl g<|Af (MB rfl rfl) rfl<|Af (A3 rfl g rfl) rfl<|Ar 1 rfl<|AQ (s:=29) rfl (fun c=>?_) (fun c=>?_)
    ·have h:=A2 (CT c) h;refine Aa rfl rfl c<|Af (Ae rfl) rfl<|Aa rfl rfl c<|Af (Ae rfl) rfl<|AQ (s:=31) rfl (fun d=>?_) (fun d=>?_)
     ·have h:=Bv d h;refine Aa rfl rfl d<|Af (Ae rfl) rfl<|Aa rfl rfl d<|Af (Ae rfl) rfl<|Aa rfl rfl d ?_;obtain⟨u,h⟩:=Ac h;refine Be rfl rfl AaT Fo b a.toNat (Int.toNat_of_nonneg u.1).symm (AZ u) rfl ?_;rintro bi _ rfl aj;refine Aa rfl rfl d<|Af (Bh rfl AaG rfl aj (As hH e)) rfl<|Aa rfl rfl d<|Af (LP rfl rfl) rfl<|Aa rfl rfl d<|Af (Ae rfl) rfl<|AQ (s:=37) rfl (fun i=>?_) (fun i=>?_)
      ·have h:=A1 (of_decide_eq_true i) h
       iterate 5 refine Aj rfl rfl i rfl ?_
       refine Aa rfl rfl d<|Af (A3 rfl i rfl) rfl<|Aa rfl rfl c<|Af (A3 rfl d rfl) rfl<|Aa rfl rfl c<|Af (Ae rfl) rfl<|Af (A3 rfl c rfl) rfl<|Ad<|Ch rfl<|Av<|Ao<|Aq ?_;refine Ar 3 rfl ?_;obtain⟨x,h⟩:=Ac h;refine Be rfl rfl AaT Fo b a.toNat (Int.toNat_of_nonneg x.1).symm (AZ x) rfl ?_;rintro bj _ rfl ak;refine Af (Bh rfl AaG rfl ak (As hH e)) rfl<|Af (CL rfl AaG) rfl ?_;obtain⟨al,h⟩:=Ac h;refine Af (AK rfl rfl rfl al) rfl ?_;obtain⟨am,h⟩:=Ac h;refine Af (AK rfl rfl rfl am) rfl<|Ar 1 rfl<|AL<|AA<|Ao<|Aq<|Ar 1 rfl ?_;obtain⟨an,h⟩:=Ac h;refine Af (AK rfl rfl rfl an) rfl<|Ar 1 rfl<|AL ?_;have h:=BF.again h j;refine AO (((f+((x1.getD a.toNat default).length:Int))+(1:Int)),(a+(1:Int)),k) (.cons rfl (.cons rfl (.cons rfl (.cons rfl (Sub.nil _))))) ⟨e,b,h⟩ (Nat.lt_succ_self _)
      have h:=A2 (of_decide_eq_false i) h;refine Aa rfl rfl i<|Af (Ae rfl) rfl<|Aa rfl rfl i<|Af (Ae rfl) rfl<|Aa rfl rfl i ?_;obtain⟨y,h⟩:=Ac h;refine Be rfl rfl AaT Fo b a.toNat (Int.toNat_of_nonneg y.1).symm (AZ y) rfl ?_;rintro bk _ rfl ao;refine Aa rfl rfl i<|Af (Bh rfl AaG rfl ao (As hH e)) rfl<|Aa rfl rfl i<|Af (LP rfl rfl) rfl<|Aa rfl rfl d<|Af (A7 rfl i rfl) rfl<|Aa rfl rfl c<|Af (A3 rfl d rfl) rfl<|Aa rfl rfl c<|Af (Ae rfl) rfl<|Af (A3 rfl c rfl) rfl<|Ad ?_;refine C9 rfl (fun o=>?_) (fun o=>?_)
      ·have h:=A2 o h;refine AD 2 rfl<|Az<|Au<|Ay<|Au<|BB ?_;have h:=BF.out h j;refine Ay<|Bs ?_;obtain rfl:=Option.some.inj h;refine An rfl rfl ?_;exact⟨e.ext,rfl⟩
      have h:=A1 o h;refine Av<|Ao<|Aq<|Ar 3 rfl ?_;obtain⟨z,h⟩:=Ac h;refine Be rfl rfl AaT Fo b a.toNat (Int.toNat_of_nonneg z.1).symm (AZ z) rfl ?_;rintro bl _ rfl ap;refine Af (Bh rfl AaG rfl ap (As hH e)) rfl<|Af (CL rfl AaG) rfl ?_;obtain⟨aq,h⟩:=Ac h;refine Af (AK rfl rfl rfl aq) rfl ?_;obtain⟨ar,h⟩:=Ac h;refine Af (AK rfl rfl rfl ar) rfl<|Ar 1 rfl<|AL<|AA<|Ao<|Aq<|Ar 1 rfl ?_;obtain⟨au,h⟩:=Ac h;refine Af (AK rfl rfl rfl au) rfl<|Ar 1 rfl<|AL ?_;have h:=BF.again h j;refine AO (((f+((x1.getD a.toNat default).length:Int))+(1:Int)),(a+(1:Int)),k) (.cons rfl (.cons rfl (.cons rfl (.cons rfl (Sub.nil _))))) ⟨e,b,h⟩ (Nat.lt_succ_self _)
     have h:=Bw d h
     iterate 6 refine Aj rfl rfl d rfl ?_
     iterate 5 refine BQ rfl rfl rfl ?_
     refine Aj rfl rfl d rfl<|Aa rfl rfl c<|Af (A7 rfl d rfl) rfl<|Aa rfl rfl c<|Af (Ae rfl) rfl<|Af (A3 rfl c rfl) rfl<|Ad<|Ce rfl<|AD 2 rfl<|Az<|Au<|Ay ?_;refine Au<|BB ?_;have h:=BF.out h j;refine Ay<|Bs ?_;obtain rfl:=Option.some.inj h;refine An rfl rfl ?_;exact⟨e.ext,rfl⟩
    have h:=A1 (CU c) h
    iterate 2 refine Aj rfl rfl c rfl ?_
    iterate 12 refine BQ rfl rfl rfl ?_
    iterate 2 refine Aj rfl rfl c rfl ?_
    refine Af (A7 rfl c rfl) rfl<|Ad<|Ch rfl<|Av<|Ao<|Aq<|Ar 3 rfl ?_;obtain⟨aa,h⟩:=Ac h;refine Be rfl rfl AaT Fo b a.toNat (Int.toNat_of_nonneg aa.1).symm (AZ aa) rfl ?_;rintro bm _ rfl av;refine Af (Bh rfl AaG rfl av (As hH e)) rfl<|Af (CL rfl AaG) rfl ?_;obtain⟨aw,h⟩:=Ac h;refine Af (AK rfl rfl rfl aw) rfl ?_;obtain⟨ax,h⟩:=Ac h;refine Af (AK rfl rfl rfl ax) rfl<|Ar 1 rfl<|AL<|AA<|Ao<|Aq<|Ar 1 rfl ?_;obtain⟨ay,h⟩:=Ac h;refine Af (AK rfl rfl rfl ay) rfl<|Ar 1 rfl<|AL ?_;have h:=BF.again h j;refine AO (((f+((x1.getD a.toNat default).length:Int))+(1:Int)),(a+(1:Int)),k) (.cons rfl (.cons rfl (.cons rfl (.cons rfl (Sub.nil _))))) ⟨e,b,h⟩ (Nat.lt_succ_self _)
   have h:=Bw g h
   iterate 5 refine Aj rfl rfl g rfl ?_
   refine Af (A7 rfl g rfl) rfl<|Ar 1 rfl ?_
   iterate 2 refine Aj rfl rfl rfl rfl ?_
   iterate 12 refine BQ rfl rfl rfl ?_
   iterate 2 refine Aj rfl rfl rfl rfl ?_
   refine Af (A7 rfl rfl rfl) rfl<|Ad<|Ch rfl<|Av<|Ao<|Aq<|Ar 3 rfl ?_;obtain⟨ab,h⟩:=Ac h;have b:=b.mono (Ab hH p);refine Be rfl rfl AaT Fo b a.toNat (Int.toNat_of_nonneg ab.1).symm (AZ ab) rfl ?_;rintro bn _ rfl az;refine Af (Bh rfl AaG rfl az (As hH e)) rfl<|Af (CL rfl AaG) rfl ?_;obtain⟨a2,h⟩:=Ac h;refine Af (AK rfl rfl rfl a2) rfl ?_;obtain⟨a3,h⟩:=Ac h;refine Af (AK rfl rfl rfl a3) rfl<|Ar 1 rfl<|AL<|AA<|Ao<|Aq<|Ar 1 rfl ?_;obtain⟨a4,h⟩:=Ac h;refine Af (AK rfl rfl rfl a4) rfl<|Ar 1 rfl<|AL ?_;have h:=BF.again h j;refine AO (((f+((x1.getD a.toNat default).length:Int))+(1:Int)),(a+(1:Int)),k) (.cons rfl (.cons rfl (.cons rfl (.cons rfl (Sub.nil _))))) ⟨e,b,h⟩ (Nat.lt_succ_self _)
  have h:=A2 m h;refine Bq<|AH<|A6 ?_;have h:=BF.out h j;refine Bf<|A9 () (Sub.nil _) ⟨l,h⟩
 rintro _ bb ⟨a5,h⟩;refine AD 1 rfl<|Az ?_;obtain rfl:=Option.some.inj h;refine An rfl rfl ?_;exact⟨a5.ext,rfl⟩
def HA(a0:Aas):Option ((Int×Int)):=
 if(64:Int)<(a0.length:Int) then Option.bind (H9 (3:Int) (-1:Int)) (fun b=>some ((b.1,b.2))) else Option.bind (KR a0 true) (fun d=>if(0:Int)≤d then Option.bind (KR a0 true) (fun c=>Option.bind (H9 (1:Int) c) (fun a=>some ((a.1,a.2)))) else some (((0:Int),(0:Int))))
theorem Ni(w:World)(H:PH)(hH:Le H (hp w)){a0:Aas}{r:(Int×Int)}(h:HA a0=some r):
  Ok Tryz.prog 110 [Aar a0] w (fun v w'=>Ext w w'∧v=.agg #[No r.1,No r.2]):=by
 refine A5 (n:=14) [(0,(Aar a0))] func110 rfl rfl rfl rfl rfl ?_;have hL:=AR.start w;refine Al<|AJ AT rfl rfl hL fun w1 b1 b y _=>Ad<|A8<|Bl 1 rfl<|Af (CL rfl AaG) rfl<|AB 1 rfl<|Bg rfl (fun c=>?_) (fun c=>?_)
 ·have h:=A1 c h;refine Al ?_;obtain⟨x4,o,h⟩:=Go.L.bind_some h;refine Ax rfl rfl b (Gi _ _ (As hH b) o) ?_;rintro _ w5 rfl ae p z;refine Ak 0 rfl rfl rfl AT p rfl rfl (AF rfl (AF rfl BM)) fun w6 j aa=>Ad<|Az<|Au ?_;obtain rfl:=Option.some.inj h;refine B7 rfl (.cell rfl AaR rfl AT (AS (i:=0) j rfl)) ?_;exact⟨j.ext,rfl⟩
 have h:=A2 c h;refine Av<|Ao<|A8<|Bl 1 rfl ?_;obtain⟨x8,q,h⟩:=Go.L.bind_some h;refine Ax rfl rfl b (Ol _ _ (As hH b) q) ?_;rintro _ w9 rfl af d ab;refine AB 1 rfl<|Bg rfl (fun a=>?_) (fun a=>?_)
 ·have h:=A1 a h;refine Bl 1 rfl ?_;obtain⟨ag,k,h⟩:=Go.L.bind_some h;refine Ax rfl rfl d (Ol _ _ (As hH d) k) ?_;rintro _ ah rfl ac e s;obtain⟨ai,l,h⟩:=Go.L.bind_some h;refine Ax rfl rfl e (Gi _ _ (As hH e) l) ?_;rintro _ aj rfl ad m t;refine Ak 0 rfl rfl rfl AT m rfl rfl (AF rfl (AF rfl BM)) fun ak f u=>Ad<|Az<|Au ?_;obtain rfl:=Option.some.inj h;refine B7 rfl (.cell rfl AaR rfl AT (AS (i:=0) f rfl)) ?_;exact⟨f.ext,rfl⟩
 have h:=A2 a h;refine Av<|Ao<|Al<|Af (AW rfl (fun _=>BL _)) rfl<|Ak 0 rfl rfl rfl AT d rfl rfl (AF rfl (AF rfl BM)) fun al g x=>Ad<|Az ?_;obtain rfl:=Option.some.inj h;refine B7 rfl (.cell rfl AaR rfl AT (AS (i:=0) g rfl)) ?_;exact⟨g.ext,rfl⟩
def ID:Option (Bool):=
 some (true)
def G7(a0:List Aas)(a1:List Aas):Int→Option ((Int) ⊕ (Bool)):=fun a=>
 if a<(a0.length:Int) then AY (0≤a∧a<(a0.length:Int)) (AY (0≤a∧a<(a1.length:Int)) (if a0.getD a.toNat default=a1.getD a.toNat default then AY (BJ (a+(1:Int))) (some (Sum.inl (a+(1:Int)))) else Option.map Sum.inr (some (false)))) else Option.map Sum.inr (ID)
def JV(a0:List Aas)(a1:List Aas)(s:Int):Option (Bool):=Go.L.run (G7 a0 a1) s
def JL(a0:List Aas)(a1:List Aas):Option (Bool):=
 if(a0.length:Int)=(a1.length:Int) then(JV a0 a1) (0:Int) else some (false)
theorem RI(w:World)(H:PH)(hH:Le H (hp w)){a0:List Aas}{a1:List Aas}{b:Value}{c:Value}(d:AI .st H b (a0))(j:AI .st H c (a1)){r:Bool}(h:JL a0 a1=some r):
  Ok Tryz.prog 43 [b,c] w (fun v w'=>Ext w w'∧v=.bool r):=by
 refine A5 (n:=26) [(0,b),(1,c)] func43 rfl rfl rfl rfl rfl ?_;have hL:=AR.start w;refine AD 1 rfl<|A8<|Bl 1 rfl<|Af (Bn rfl AaT d) rfl<|Ar 1 rfl<|Af (Bn rfl AaT j) rfl<|AB 1 rfl<|C9 rfl (fun k=>?_) (fun k=>?_)
 ·have h:=A2 k h;refine AD 1 rfl<|Az<|Au ?_;obtain rfl:=Option.some.inj h;refine An rfl rfl ?_;exact⟨hL.ext,rfl⟩
 have h:=A1 k h;refine Av<|Ao<|Bm (σ:=Unit) (fun(_:Unit)=>[]) (fun(_:Unit) wr=>AR w [] wr∧ID=some r) ?_ ?_
 ·refine AD 1 rfl<|A4 ?_;obtain⟨l,h⟩:=Bb h;refine Bu (σ:=Int×Nat) (fun⟨a,n⟩=>[(0,b),(1,c),(5,No a)]) (fun⟨a,n⟩ wr=>AR w [] wr∧FM (G7 a0 a1) n a=some r) (fun⟨a,n⟩=>n) ((0:Int),l) (.cons rfl (.cons rfl (.cons rfl (Sub.nil _)))) ⟨hL,h⟩ ?_;rintro⟨a,nn57⟩ ab ⟨m,h⟩;obtain⟨l,ad,rfl,h,e⟩:=Ba h;refine A8<|Bl 2 rfl<|Af (Bn rfl AaT d) rfl<|AB 1 rfl<|Bg rfl (fun f=>?_) (fun f=>?_)
  ·have h:=A1 f h;refine Av<|Ao<|A8<|A4<|EI (.q 0 (.q 1 (.q 2 (.q 3 (.q 4 (.q 5 (.q 6 (.q 7 (.q 8 (.tail 9)))))))))) mixed (by kernel_rfl) (fun ae t=>?_);have g:=m.call t;refine Ds 2 rfl ?_;obtain⟨o,h⟩:=Ac h;refine H7 rfl rfl rfl AaT Fo d a.toNat (Int.toNat_of_nonneg o.1).symm (AZ o) rfl ?_;rintro af _ rfl u;refine BE (Bh rfl AaG rfl u (hH.trans g.arg)) rfl rfl<|Ds 2 rfl ?_;obtain⟨p,h⟩:=Ac h;refine H7 rfl rfl rfl AaT Fo j a.toNat (Int.toNat_of_nonneg p.1).symm (AZ p) rfl ?_;rintro ag _ rfl x;refine BE (Bh rfl AaG rfl x (hH.trans g.arg)) rfl rfl<|BE (MB rfl rfl) rfl rfl<|BW (fun ah y=>?_);have s:=g.call y;refine Ad<|C9 rfl (fun i=>?_) (fun i=>?_)
   ·have h:=A2 i h;refine AD 1 rfl<|Az<|Ay<|Au<|BB ?_;have h:=BF.out h e;refine Ay<|Bs ?_;obtain rfl:=Option.some.inj h;refine An rfl rfl ?_;exact⟨s.ext,rfl⟩
   have h:=A1 i h;refine Av<|AA<|Ao<|Aq<|Ar 1 rfl ?_;obtain⟨z,h⟩:=Ac h;refine Af (AK rfl rfl rfl z) rfl<|Ar 1 rfl<|AL ?_;have h:=BF.again h e;refine AO ((a+(1:Int)),l) (.cons rfl (.cons rfl (.cons rfl (Sub.nil _)))) ⟨s,h⟩ (Nat.lt_succ_self _)
  have h:=A2 f h;refine Bq<|AH<|A6 ?_;have h:=BF.out h e;refine Bf<|A9 () (Sub.nil _) ⟨m,h⟩
 rintro _ ac ⟨aa,h⟩;refine AD 1 rfl<|Az ?_;obtain rfl:=Option.some.inj h;refine An rfl rfl ?_;exact⟨aa.ext,rfl⟩
def Ke(a0:Int):Option (Go.L.Pv):=
 some ((Go.L.Pv.mk (1:Int) a0 ([]) ([]) ([])))
theorem Nj(w:World)(H:PH)(_hH:Le H (hp w)){a0:Int}{r:Go.L.Pv}(h:Ke a0=some r):
  Ok Tryz.prog 37 [No a0] w (fun v w'=>Ext w w'∧∃ b c d,v=.agg #[No r.f.1,No r.f.2.1,b,c,d]∧Co 5 .byte H w w' b (r.f.2.2.1)∧Co 9 .st H w w' c (r.f.2.2.2.1)∧Co 64 .tree H w w' d (r.f.2.2.2.2)):=by
 refine A5 (n:=5) [(0,No a0)] func37 rfl rfl rfl rfl rfl ?_;have hL:=AR.start w;refine Al<|AJ GL rfl rfl hL fun k l e g _=>Ad<|Bl 1 rfl<|Af (AW rfl (fun _=>VK _ _ _)) rfl<|Ak 0 rfl rfl rfl GL e rfl rfl (AF rfl (AF rfl (AF rfl (AF rfl (AF rfl BM))))) fun m a j=>Ad<|Az ?_;obtain rfl:=Option.some.inj h;refine B7 rfl (.cell rfl AaU rfl GL (AS (i:=0) a rfl)) ?_;exact⟨a.ext,_,_,_,rfl,Co.nil,Co.nil,Co.nil⟩
def NK(a0:Aas):Option (Go.L.Qv):=
 some ((Go.L.Qv.mk (1:Int) ([a0]) ([]:Aas) ([]) (0:Int) (0:Int) ([])))
theorem SQ(w:World)(H:PH)(hH:Le H (hp w)){a0:Aas}{r:Go.L.Qv}(h:NK a0=some r):
  Ok Tryz.prog 36 [Aar a0] w (fun v w'=>Ext w w'∧∃ d e g,v=.agg #[No r.f.1,d,Aar r.f.2.2.1,e,No r.f.2.2.2.2.1,No r.f.2.2.2.2.2.1,g]∧AI .st (un H (nw w w')) d (r.f.2.1)∧Co 5 .byte H w w' e (r.f.2.2.2.1)∧Co 26 .AV H w w' g (r.f.2.2.2.2.2.2)):=by
 refine A5 (n:=6) [(0,(Aar a0))] func36 rfl rfl rfl rfl rfl ?_;have hL:=AR.start w;refine Al<|AJ Bc rfl rfl hL fun q s j m _=>Ad<|Bl 1 rfl<|Br (r:=.st) (l:=[a0]) rfl (fun _=>OG _ rfl _) rfl (show 1≤9223372036854775807 by decide) hH j (.c1 rfl .nil) fun t u p k o a=>Af (AW rfl (fun _=>Pz _ _ a.one _)) rfl<|Ak 0 rfl rfl rfl Bc k rfl rfl (AF rfl (AF a.one (AF rfl (AF rfl (AF rfl (AF rfl (AF rfl BM))))))) fun x b c=>Ad<|Az ?_;obtain rfl:=Option.some.inj h;refine B7 rfl (.cell rfl AaY rfl Bc (AS (i:=0) b rfl)) ?_;have a:=a.mono (Ab hH c);exact⟨b.ext,_,_,_,rfl,(a.mono (Cu hH)),Co.nil,Co.nil⟩
def Kf(a0:Int)(a1:Int):Option ((Int×Int)):=
 some ((a0,a1))
theorem Nk(w:World)(H:PH)(_hH:Le H (hp w)){a0:Int}{a1:Int}{r:(Int×Int)}(h:Kf a0 a1=some r):
  Ok Tryz.prog 78 [No a0,No a1] w (fun v w'=>Ext w w'∧v=.agg #[No r.1,No r.2]):=by
 refine A5 (n:=8) [(0,No a0),(1,No a1)] func78 rfl rfl rfl rfl rfl ?_;have hL:=AR.start w;refine Al<|AJ AT rfl rfl hL fun e f b c _=>Ad<|Bl 2 rfl<|Af (AW rfl (fun _=>NG _ _ _)) rfl<|Ak 0 rfl rfl rfl AT b rfl rfl (AF rfl (AF rfl BM)) fun g a d=>Ad<|Az ?_;obtain rfl:=Option.some.inj h;refine B7 rfl (.cell rfl AaR rfl AT (AS (i:=0) a rfl)) ?_;exact⟨a.ext,rfl⟩
def Dg:Option (Int):=
 some ((-1:Int))
def BH(a0:List Int)(a1:Int):Int→Option ((Int) ⊕ (Int)):=fun a=>
 if a<(a0.length:Int) then AY (0≤a∧a<(a0.length:Int)) (if a1=a0.getD a.toNat default then Option.map Sum.inr (some (a)) else AY (BJ (a+(1:Int))) (some (Sum.inl (a+(1:Int))))) else Option.map Sum.inr (Dg)
def Ez(a0:List Int)(a1:Int)(s:Int):Option (Int):=Go.L.run (BH a0 a1) s
def El(a0:List Int)(a1:Int):Option (Int):=
 (Ez a0 a1) (0:Int)
theorem LW(w:World)(H:PH)(hH:Le H (hp w)){a0:List Int}{a1:Int}{b:Value}(g:AI (.int .i64) H b (a0)){r:Int}(h:El a0 a1=some r):
  Ok Tryz.prog 163 [b,No a1] w (fun v w'=>Ext w w'∧v=No r):=by
 refine A5 (n:=19) [(0,b),(1,No a1)] func163 rfl rfl rfl rfl rfl ?_;have hL:=AR.start w;refine AD 1 rfl<|Bm (σ:=Unit) (fun(_:Unit)=>[]) (fun(_:Unit) wr=>AR w [] wr∧Dg=some r) ?_ ?_
 ·refine Bl 1 rfl<|Af (Bn rfl Aat g) rfl<|AB 1 rfl<|A4 ?_;obtain⟨i,h⟩:=Bb h;refine Bu (σ:=Int×Nat) (fun⟨a,n⟩=>[(0,b),(1,No a1),(7,No (a0.length:Int)),(8,No a)]) (fun⟨a,n⟩ wr=>AR w [] wr∧FM (BH a0 a1) n a=some r) (fun⟨a,n⟩=>n) ((0:Int),i) (.cons rfl (.cons rfl (.cons rfl (.cons rfl (Sub.nil _))))) ⟨hL,h⟩ ?_;rintro⟨a,nn36⟩ o ⟨c,h⟩;obtain⟨i,q,rfl,h,d⟩:=Ba h;refine AD 1 rfl<|A8<|Bg rfl (fun e=>?_) (fun e=>?_)
  ·have h:=A1 e h;refine Av<|Ao<|A8<|A4<|AD 2 rfl<|Bl 3 rfl ?_;obtain⟨j,h⟩:=Ac h;refine Be rfl rfl Aat BG g a.toNat (Int.toNat_of_nonneg j.1).symm (AZ j) rfl ?_;rintro s _ rfl k;refine Af (Bh rfl Aau rfl k (hH.trans c.arg)) rfl<|AB 1 rfl<|Bg rfl (fun f=>?_) (fun f=>?_)
   ·have h:=A1 f h;refine AD 2 rfl<|Az<|Ay<|Au<|BB ?_;have h:=BF.out h d;refine Ay<|Bs ?_;obtain rfl:=Option.some.inj h;refine An rfl rfl ?_;exact⟨c.ext,rfl⟩
   have h:=A2 f h;refine Av<|AA<|Ao<|Aq ?_;obtain⟨l,h⟩:=Ac h;refine Af (AK rfl rfl rfl l) rfl<|Ar 1 rfl<|AL ?_;have h:=BF.again h d;refine AO ((a+(1:Int)),i) (.cons rfl (.cons rfl (.cons rfl (.cons rfl (Sub.nil _))))) ⟨c,h⟩ (Nat.lt_succ_self _)
  have h:=A2 e h;refine Bq<|AH<|A6 ?_;have h:=BF.out h d;refine Bf<|A9 () (Sub.nil _) ⟨c,h⟩
 rintro _ p ⟨m,h⟩;refine AD 1 rfl<|Az ?_;obtain rfl:=Option.some.inj h;refine An rfl rfl ?_;exact⟨m.ext,rfl⟩
def Cg(a0:List Int)(a1:Int):Option (Bool):=
 Option.bind (El a0 a1) (fun a=>some (decide ((0:Int)≤a)))
theorem HP(w:World)(H:PH)(hH:Le H (hp w)){a0:List Int}{a1:Int}{a:Value}(b:AI (.int .i64) H a (a0)){r:Bool}(h:Cg a0 a1=some r):
  Ok Tryz.prog 108 [a,No a1] w (fun v w'=>Ext w w'∧v=.bool r):=by
 refine A5 (n:=9) [(0,a),(1,No a1)] func108 rfl rfl rfl rfl rfl ?_;have hL:=AR.start w;refine AD 1 rfl<|Bl 2 rfl ?_;obtain⟨g,c,h⟩:=Go.L.bind_some h;refine Ax rfl rfl hL (LW _ _ (As hH hL) (b.mono (Ai hH)) c) ?_;rintro _ i rfl f d e;refine AB 2 rfl<|Az ?_;obtain rfl:=Option.some.inj h;refine An rfl rfl ?_;exact⟨d.ext,rfl⟩
def CC(a0:Aas):Option (Aas):=
 AY (Go.E.JE 1 (([]:Aas).length+a0.length)) (some ((([]:Aas)++a0)))
theorem I4(w:World)(H:PH)(hH:Le H (hp w)){a0:Aas}{a:Value}(b:AI .byte H a (a0)){r:Aas}(h:CC a0=some r):
  Ok Tryz.prog 99 [a] w (fun v w'=>Ext w w'∧∃ d,v=d∧Co 5 .byte H w w' d (r)):=by
 refine A5 (n:=8) [(0,a)] func99 rfl rfl rfl rfl rfl ?_;have hL:=AR.start w;refine AD 1 rfl<|A8<|Bl 1 rfl ?_
 rcases SD b with ⟨rfl,rfl⟩ | hnn
 ·refine Af (SE rfl rfl AaQ) rfl<|Ad<|Ce rfl<|AD 1 rfl<|Az ?_;obtain⟨_,h⟩:=Ac h;obtain rfl:=Option.some.inj h;refine Au<|An rfl rfl ?_;exact⟨hL.ext,_,rfl,SG _ hL hH⟩
 refine Af (SF rfl rfl AaQ hnn) rfl<|Ad<|Ch rfl<|Av<|Ao<|Al<|JJ (r:=.byte) (l:=([]:Aas)) rfl (fun _=>YM _) rfl (show 0≤9223372036854775807 by decide) hH hL .nil fun s t p e k f=>Ar 1 rfl ?_;obtain⟨g,h⟩:=Ac h;refine Bo (r:=.byte) (l:=([]:Aas)) (m:=a0) 0 rfl rfl AaQ Lj rfl (by decide) rfl hH e rfl f (b.mono (Ai hH)) g fun u x q c o j=>AB 1 rfl<|Az ?_;obtain rfl:=Option.some.inj h;refine An rfl rfl ?_;exact⟨c.ext,_,rfl,(c.Gp hH (i:=0) rfl j)⟩
def Db(a0:List (Int×Int)):Option ((List (Int×Int))):=
 AY (Go.E.JE 16 (([]:List (Int×Int)).length+a0.length)) (some ((([]:List (Int×Int))++a0)))
theorem JF(w:World)(H:PH)(hH:Le H (hp w)){a0:List (Int×Int)}{a:Value}(b:AI (.pair (.int .i64) (.int .i64)) H a (a0)){r:(List (Int×Int))}(h:Db a0=some r):
  Ok Tryz.prog 193 [a] w (fun v w'=>Ext w w'∧∃ d,v=d∧Co 137 (.pair (.int .i64) (.int .i64)) H w w' d (r)):=by
 refine A5 (n:=8) [(0,a)] func193 rfl rfl rfl rfl rfl ?_;have hL:=AR.start w;refine AD 1 rfl<|A8<|Bl 1 rfl ?_
 rcases SD b with ⟨rfl,rfl⟩ | hnn
 ·refine Af (SE rfl rfl Aba) rfl<|Ad<|Ce rfl<|AD 1 rfl<|Az ?_;obtain⟨_,h⟩:=Ac h;obtain rfl:=Option.some.inj h;refine Au<|An rfl rfl ?_;exact⟨hL.ext,_,rfl,SG _ hL hH⟩
 refine Af (SF rfl rfl Aba hnn) rfl<|Ad<|Ch rfl<|Av<|Ao<|Al<|JJ (r:=(.pair (.int .i64) (.int .i64))) (l:=([]:List (Int×Int))) rfl (fun _=>Xl _) rfl (show 0≤9223372036854775807 by decide) hH hL .nil fun s t p e k f=>Ar 1 rfl ?_;obtain⟨g,h⟩:=Ac h;refine Bo (r:=(.pair (.int .i64) (.int .i64))) (l:=([]:List (Int×Int))) (m:=a0) 0 rfl rfl Aba Kx rfl (by decide) rfl hH e rfl f (b.mono (Ai hH)) g fun u x q c o j=>AB 1 rfl<|Az ?_;obtain rfl:=Option.some.inj h;refine An rfl rfl ?_;exact⟨c.ext,_,rfl,(c.Gp hH (i:=0) rfl j)⟩
def Em(a0:List Int):Option ((List Int)):=
 AY (Go.E.JE 8 (([]:List Int).length+a0.length)) (some ((([]:List Int)++a0)))
theorem LX(w:World)(H:PH)(hH:Le H (hp w)){a0:List Int}{a:Value}(b:AI (.int .i64) H a (a0)){r:(List Int)}(h:Em a0=some r):
  Ok Tryz.prog 138 [a] w (fun v w'=>Ext w w'∧∃ d,v=d∧Co 3 (.int .i64) H w w' d (r)):=by
 refine A5 (n:=8) [(0,a)] func138 rfl rfl rfl rfl rfl ?_;have hL:=AR.start w;refine AD 1 rfl<|A8<|Bl 1 rfl ?_
 rcases SD b with ⟨rfl,rfl⟩ | hnn
 ·refine Af (SE rfl rfl Aat) rfl<|Ad<|Ce rfl<|AD 1 rfl<|Az ?_;obtain⟨_,h⟩:=Ac h;obtain rfl:=Option.some.inj h;refine Au<|An rfl rfl ?_;exact⟨hL.ext,_,rfl,SG _ hL hH⟩
 refine Af (SF rfl rfl Aat hnn) rfl<|Ad<|Ch rfl<|Av<|Ao<|Al<|JJ (r:=(.int .i64)) (l:=([]:List Int)) rfl (fun _=>YQ _) rfl (show 0≤9223372036854775807 by decide) hH hL .nil fun s t p e k f=>Ar 1 rfl ?_;obtain⟨g,h⟩:=Ac h;refine Bo (r:=(.int .i64)) (l:=([]:List Int)) (m:=a0) 0 rfl rfl Aat BG rfl (by decide) rfl hH e rfl f (b.mono (Ai hH)) g fun u x q c o j=>AB 1 rfl<|Az ?_;obtain rfl:=Option.some.inj h;refine An rfl rfl ?_;exact⟨c.ext,_,rfl,(c.Gp hH (i:=0) rfl j)⟩
def C0(a0:List Aas):Option ((List Aas)):=
 AY (Go.E.JE 16 (([]:List Aas).length+a0.length)) (some ((([]:List Aas)++a0)))
theorem Kg(w:World)(H:PH)(hH:Le H (hp w)){a0:List Aas}{a:Value}(b:AI .st H a (a0)){r:(List Aas)}(h:C0 a0=some r):
  Ok Tryz.prog 135 [a] w (fun v w'=>Ext w w'∧∃ d,v=d∧Co 9 .st H w w' d (r)):=by
 refine A5 (n:=8) [(0,a)] func135 rfl rfl rfl rfl rfl ?_;have hL:=AR.start w;refine AD 1 rfl<|A8<|Bl 1 rfl ?_
 rcases SD b with ⟨rfl,rfl⟩ | hnn
 ·refine Af (SE rfl rfl AaT) rfl<|Ad<|Ce rfl<|AD 1 rfl<|Az ?_;obtain⟨_,h⟩:=Ac h;obtain rfl:=Option.some.inj h;refine Au<|An rfl rfl ?_;exact⟨hL.ext,_,rfl,SG _ hL hH⟩
 refine Af (SF rfl rfl AaT hnn) rfl<|Ad<|Ch rfl<|Av<|Ao<|Al<|JJ (r:=.st) (l:=([]:List Aas)) rfl (fun _=>YK _) rfl (show 0≤9223372036854775807 by decide) hH hL .nil fun s t p e k f=>Ar 1 rfl ?_;obtain⟨g,h⟩:=Ac h;refine Bo (r:=.st) (l:=([]:List Aas)) (m:=a0) 0 rfl rfl AaT Fo rfl (by decide) rfl hH e rfl f (b.mono (Ai hH)) g fun u x q c o j=>AB 1 rfl<|Az ?_;obtain rfl:=Option.some.inj h;refine An rfl rfl ?_;exact⟨c.ext,_,rfl,(c.Gp hH (i:=0) rfl j)⟩
def Fy(a:Int)(b:Int):Option (Int):=
 AY (0≤((Go.L.u8 a).toNat:Int)∧((Go.L.u8 a).toNat:Int)<(([0,1,2,2,3,3,3,3,4,4,4,4,4,4,4,4,5,5,5,5,5,5,5,5,5,5,5,5,5,5,5,5,6,6,6,6,6,6,6,6,6,6,6,6,6,6,6,6,6,6,6,6,6,6,6,6,6,6,6,6,6,6,6,6,7,7,7,7,7,7,7,7,7,7,7,7,7,7,7,7,7,7,7,7,7,7,7,7,7,7,7,7,7,7,7,7,7,7,7,7,7,7,7,7,7,7,7,7,7,7,7,7,7,7,7,7,7,7,7,7,7,7,7,7,7,7,7,7,8,8,8,8,8,8,8,8,8,8,8,8,8,8,8,8,8,8,8,8,8,8,8,8,8,8,8,8,8,8,8,8,8,8,8,8,8,8,8,8,8,8,8,8,8,8,8,8,8,8,8,8,8,8,8,8,8,8,8,8,8,8,8,8,8,8,8,8,8,8,8,8,8,8,8,8,8,8,8,8,8,8,8,8,8,8,8,8,8,8,8,8,8,8,8,8,8,8,8,8,8,8,8,8,8,8,8,8,8,8,8,8,8,8,8,8,8,8,8,8,8,8,8,8,8,8,8,8]:Aas).length:Int)) (AY (BJ (b+((([0,1,2,2,3,3,3,3,4,4,4,4,4,4,4,4,5,5,5,5,5,5,5,5,5,5,5,5,5,5,5,5,6,6,6,6,6,6,6,6,6,6,6,6,6,6,6,6,6,6,6,6,6,6,6,6,6,6,6,6,6,6,6,6,7,7,7,7,7,7,7,7,7,7,7,7,7,7,7,7,7,7,7,7,7,7,7,7,7,7,7,7,7,7,7,7,7,7,7,7,7,7,7,7,7,7,7,7,7,7,7,7,7,7,7,7,7,7,7,7,7,7,7,7,7,7,7,7,8,8,8,8,8,8,8,8,8,8,8,8,8,8,8,8,8,8,8,8,8,8,8,8,8,8,8,8,8,8,8,8,8,8,8,8,8,8,8,8,8,8,8,8,8,8,8,8,8,8,8,8,8,8,8,8,8,8,8,8,8,8,8,8,8,8,8,8,8,8,8,8,8,8,8,8,8,8,8,8,8,8,8,8,8,8,8,8,8,8,8,8,8,8,8,8,8,8,8,8,8,8,8,8,8,8,8,8,8,8,8,8,8,8,8,8,8,8,8,8,8,8,8,8,8,8,8,8]:Aas).getD ((Go.L.u8 a).toNat:Int).toNat default).toNat:Int))) (some ((b+((([0,1,2,2,3,3,3,3,4,4,4,4,4,4,4,4,5,5,5,5,5,5,5,5,5,5,5,5,5,5,5,5,6,6,6,6,6,6,6,6,6,6,6,6,6,6,6,6,6,6,6,6,6,6,6,6,6,6,6,6,6,6,6,6,7,7,7,7,7,7,7,7,7,7,7,7,7,7,7,7,7,7,7,7,7,7,7,7,7,7,7,7,7,7,7,7,7,7,7,7,7,7,7,7,7,7,7,7,7,7,7,7,7,7,7,7,7,7,7,7,7,7,7,7,7,7,7,7,8,8,8,8,8,8,8,8,8,8,8,8,8,8,8,8,8,8,8,8,8,8,8,8,8,8,8,8,8,8,8,8,8,8,8,8,8,8,8,8,8,8,8,8,8,8,8,8,8,8,8,8,8,8,8,8,8,8,8,8,8,8,8,8,8,8,8,8,8,8,8,8,8,8,8,8,8,8,8,8,8,8,8,8,8,8,8,8,8,8,8,8,8,8,8,8,8,8,8,8,8,8,8,8,8,8,8,8,8,8,8,8,8,8,8,8,8,8,8,8,8,8,8,8,8,8,8,8]:Aas).getD ((Go.L.u8 a).toNat:Int).toNat default).toNat:Int)))))
def Fz(a:Int)(b:Int):Option (Int):=
 if(256:Int)≤a then AY (BJ (b+(8:Int))) (Fy (a / 256) (b+(8:Int))) else Fy a b
def F0(a:Int)(b:Int):Option (Int):=
 if(65536:Int)≤a then AY (BJ (b+(16:Int))) (Fz (a / 65536) (b+(16:Int))) else Fz a b
def IL(a0:Int):Option (Int):=
 if(4294967296:Int)≤a0 then F0 (a0 / 4294967296) (32:Int) else F0 a0 (0:Int)
theorem O2(w:World)(H:PH)(_hH:Le H (hp w)){a0:Int}{r:Int}(h:IL a0=some r):
  Ok Tryz.prog 236 [.int .u64 a0] w (fun v w'=>Ext w w'∧v=No r):=by
 refine A5 (n:=25) [(0,.int .u64 a0)] func236 rfl rfl rfl rfl rfl ?_;have hL:=AR.start w;refine AD 1 rfl<|Bm (σ:=Int×Int) (fun⟨d,e⟩=>[(0,.int .u64 d),(2,No e)]) (fun⟨d,e⟩ wr=>AR w [] wr∧F0 d e=some r) ?_ ?_
 ·refine AD 2 rfl<|Bg rfl (fun k=>?_) (fun k=>?_)
  ·have h:=A1 k h;refine Bl 1 rfl<|Af (RW (c:=32) (m:=4294967296) rfl rfl rfl (by decide)) rfl<|AB 1 rfl<|Aq<|Ar 1 rfl<|AL<|A9 ((a0 / 4294967296),(32:Int)) (.cons rfl (.cons rfl (Sub.nil _))) ⟨hL,h⟩
  have h:=A2 k h;refine Av<|A9 (a0,(0:Int)) (.cons rfl (.cons rfl (Sub.nil _))) ⟨hL,h⟩
 rintro⟨d,e⟩ z ⟨o,h⟩;refine Bm (σ:=Int×Int) (fun⟨a,b⟩=>[(0,.int .u64 a),(2,No b)]) (fun⟨a,b⟩ wr=>AR w [] wr∧Fz a b=some r) ?_ ?_
 ·refine AD 2 rfl<|Bg rfl (fun i=>?_) (fun i=>?_)
  ·have h:=A1 i h;refine Bl 1 rfl<|Af (RW (c:=16) (m:=65536) rfl rfl rfl (by decide)) rfl<|AB 1 rfl<|Aq<|Ar 1 rfl ?_;obtain⟨p,h⟩:=Ac h;refine Af (AK rfl rfl rfl p) rfl<|Ar 1 rfl<|AL<|A9 ((d / 65536),(e+(16:Int))) (.cons rfl (.cons rfl (Sub.nil _))) ⟨o,h⟩
  have h:=A2 i h;refine Av<|A9 (d,e) (.cons rfl (.cons rfl (Sub.nil _))) ⟨o,h⟩
 rintro⟨a,b⟩ x ⟨l,h⟩;refine Bm (σ:=Int×Int) (fun⟨f,g⟩=>[(0,.int .u64 f),(2,No g)]) (fun⟨f,g⟩ wr=>AR w [] wr∧Fy f g=some r) ?_ ?_
 ·refine AD 2 rfl<|Bg rfl (fun j=>?_) (fun j=>?_)
  ·have h:=A1 j h;refine Bl 1 rfl<|Af (RW (c:=8) (m:=256) rfl rfl rfl (by decide)) rfl<|AB 1 rfl<|Aq<|Ar 1 rfl ?_;obtain⟨q,h⟩:=Ac h;refine Af (AK rfl rfl rfl q) rfl<|Ar 1 rfl<|AL<|A9 ((a / 256),(b+(8:Int))) (.cons rfl (.cons rfl (Sub.nil _))) ⟨l,h⟩
  have h:=A2 j h;refine Av<|A9 (a,b) (.cons rfl (.cons rfl (Sub.nil _))) ⟨l,h⟩
 rintro⟨f,g⟩ y ⟨s,h⟩;refine Bl 2 rfl<|Af (ES Abb AaS rfl (HO _)) rfl ?_;obtain⟨t,h⟩:=Ac h;refine Af (G3 rfl rfl AaG t) rfl<|Af (ES AaS Aau rfl (Ht _)) rfl ?_;obtain⟨u,h⟩:=Ac h;refine Af (AK rfl rfl rfl u) rfl<|AB 1 rfl<|Az ?_;obtain rfl:=Option.some.inj h;refine An rfl rfl ?_;exact⟨s.ext,rfl⟩
def JW(a0:Int):Option (Int):=
 Option.bind (IL a0) (fun a=>some (a))
theorem P2(w:World)(H:PH)(hH:Le H (hp w)){a0:Int}{r:Int}(h:JW a0=some r):
  Ok Tryz.prog 185 [.int .u64 a0] w (fun v w'=>Ext w w'∧v=No r):=by
 refine A5 (n:=8) [(0,.int .u64 a0)] func185 rfl rfl rfl rfl rfl ?_;have hL:=AR.start w;refine AD 1 rfl<|A8<|Ch rfl<|Av<|Ao<|Bl 1 rfl ?_;obtain⟨e,a,h⟩:=Go.L.bind_some h;refine Ax rfl rfl hL (O2 _ _ (As hH hL) a) ?_;rintro _ f rfl d b c;refine AB 1 rfl<|Az ?_;obtain rfl:=Option.some.inj h;refine An rfl rfl ?_;exact⟨b.ext,rfl⟩
def Jx(a0:Int):Option (Int):=
 if a0<(1:Int) then none else Option.bind (JW (IntKind.u64.wrap a0)) (fun a=>AY (BJ ((2:Int) * a)) (AY (BJ (((2:Int) * a) - (1:Int))) (some ((((2:Int) * a) - (1:Int))))))
theorem OM(w:World)(H:PH)(hH:Le H (hp w)){a0:Int}{r:Int}(h:Jx a0=some r):
  Ok Tryz.prog 134 [No a0] w (fun v w'=>Ext w w'∧v=No r):=by
 refine A5 (n:=10) [(0,No a0)] func134 rfl rfl rfl rfl rfl ?_;have hL:=AR.start w;refine AD 1 rfl<|A8<|AD 2 rfl<|Bg rfl (fun a=>?_) (fun a=>?_)
 ·have h:=A1 a h
  cases h
 have h:=A2 a h;refine Av<|Ao<|Bl 1 rfl<|Af (ES Aau Abc rfl rfl) rfl ?_;obtain⟨i,b,h⟩:=Go.L.bind_some h;refine Ax rfl rfl hL (P2 _ _ (As hH hL) b) ?_;rintro _ j rfl g c f;obtain⟨d,h⟩:=Ac h;refine Af (AK rfl rfl rfl d) rfl ?_;obtain⟨e,h⟩:=Ac h;refine Af (AK rfl rfl rfl e) rfl<|AB 1 rfl<|Az ?_;obtain rfl:=Option.some.inj h;refine An rfl rfl ?_;exact⟨c.ext,rfl⟩
end Go.Proofs.YtekmbcbgknmhiaaGreatDoor
end
noncomputable section
namespace Go.Proofs
open Go.Shelf
def Tryz.K3:Go.Shelf.Ren:=⟨fun | 146=>113 | 221=>166 | 268=>216 | 138=>217 | 143=>218 | 195=>263 | 197=>264 | 218=>265 | 219=>266 | 260=>317 | 217=>223 | 225=>269 | 224=>268 | 267=>318 | 266=>270 | 314=>333 | n=>n,fun | 9=>9 | 31=>22 | 3=>3 | 4=>4 | 0=>0 | 105=>280 | 21=>21 | 5=>5 | 46=>171 | 119=>349 | 139=>352 | 138=>351 | 146=>361 | 51=>285 | n=>n,fun | 1=>0 | 3=>4 | 4=>5 | n=>n⟩
theorem Tryz.Rl:Go.Proofs.Lays.n146 Tryz.prog Tryz.K3:={
 mixed:=by kernel_rfl
 f138:=Tryz.func217.trans (congrArg some (by kernel_rfl))
 f143:=Tryz.func218.trans (congrArg some (by kernel_rfl))
 f146:=Tryz.func113.trans (congrArg some (by kernel_rfl))
 f195:=Tryz.func263.trans (congrArg some (by kernel_rfl))
 f197:=Tryz.func264.trans (congrArg some (by kernel_rfl))
 f217:=Tryz.func223.trans (congrArg some (by kernel_rfl))
 f218:=Tryz.func265.trans (congrArg some (by kernel_rfl))
 f219:=Tryz.func266.trans (congrArg some (by kernel_rfl))
 f221:=Tryz.func166.trans (congrArg some (by kernel_rfl))
 f224:=Tryz.func268.trans (congrArg some (by kernel_rfl))
 f225:=Tryz.func269.trans (congrArg some (by kernel_rfl))
 f260:=Tryz.func317.trans (congrArg some (by kernel_rfl))
 f266:=Tryz.func270.trans (congrArg some (by kernel_rfl))
 f267:=Tryz.func318.trans (congrArg some (by kernel_rfl))
 f268:=Tryz.func216.trans (congrArg some (by kernel_rfl))
 f314:=Tryz.func333.trans (congrArg some (by kernel_rfl))
 t0:=Tryz.underlying0
 a0:=Tryz.isAgg0
 z0:=Tryz.sizeOf0
 v0:=Tryz.zeroValue0
 t3:=Tryz.underlying3
 a3:=Tryz.isAgg3
 z3:=Tryz.sizeOf3
 v3:=Tryz.zeroValue3
 t4:=Tryz.underlying4
 a4:=Tryz.isAgg4
 z4:=Tryz.sizeOf4
 v4:=Tryz.zeroValue4
 t5:=Tryz.underlying5
 a5:=Tryz.isAgg5
 z5:=Tryz.sizeOf5
 v5:=Tryz.zeroValue5
 t9:=Tryz.underlying9
 a9:=Tryz.isAgg9
 z9:=Tryz.sizeOf9
 v9:=Tryz.zeroValue9
 t21:=Tryz.underlying21
 a21:=Tryz.isAgg21
 z21:=Tryz.sizeOf21
 v21:=Tryz.zeroValue21
 t31:=Tryz.underlying22
 a31:=Tryz.isAgg22
 z31:=Tryz.sizeOf22
 v31:=Tryz.zeroValue22
 t46:=Tryz.underlying171
 a46:=Tryz.isAgg171
 z46:=Tryz.sizeOf171
 v46:=Tryz.zeroValue171
 t51:=Tryz.underlying285
 a51:=Tryz.isAgg285
 z51:=Tryz.sizeOf285
 v51:=Tryz.zeroValue285
 t105:=Tryz.underlying280
 a105:=Tryz.isAgg280
 z105:=Tryz.sizeOf280
 v105:=Tryz.zeroValue280
 t119:=Tryz.underlying349
 a119:=Tryz.isAgg349
 z119:=Tryz.sizeOf349
 t138:=Tryz.underlying351
 a138:=Tryz.isAgg351
 z138:=Tryz.sizeOf351
 v138:=Tryz.zeroValue351
 t139:=Tryz.underlying352
 a139:=Tryz.isAgg352
 z139:=Tryz.sizeOf352
 v139:=Tryz.zeroValue352
 t146:=Tryz.underlying361
 a146:=Tryz.isAgg361
 z146:=Tryz.sizeOf361
 v146:=Tryz.zeroValue361
 g1:=by kernel_rfl
 g3:=by kernel_rfl
 g4:=by kernel_rfl}
def Tryz.PR:Go.Shelf.Ren:=⟨fun | 156=>63 | 165=>104 | 166=>105 | 169=>106 | 240=>160 | 241=>161 | 276=>208 | 277=>209 | n=>n,fun | 31=>22 | 9=>9 | 3=>3 | 4=>4 | 0=>0 | 20=>20 | 72=>164 | 76=>168 | 70=>162 | 37=>23 | 75=>167 | 127=>219 | 164=>261 | 5=>5 | 80=>170 | n=>n,fun | n=>n⟩
theorem Tryz.Vw:Go.Proofs.Lays.n156 Tryz.prog Tryz.PR:={
 mixed:=by kernel_rfl
 f156:=Tryz.func63.trans (congrArg some (by kernel_rfl))
 f165:=Tryz.func104.trans (congrArg some (by kernel_rfl))
 f166:=Tryz.func105.trans (congrArg some (by kernel_rfl))
 f169:=Tryz.func106.trans (congrArg some (by kernel_rfl))
 f240:=Tryz.func160.trans (congrArg some (by kernel_rfl))
 f241:=Tryz.func161.trans (congrArg some (by kernel_rfl))
 f276:=Tryz.func208.trans (congrArg some (by kernel_rfl))
 f277:=Tryz.func209.trans (congrArg some (by kernel_rfl))
 t0:=Tryz.underlying0
 a0:=Tryz.isAgg0
 z0:=Tryz.sizeOf0
 v0:=Tryz.zeroValue0
 t3:=Tryz.underlying3
 a3:=Tryz.isAgg3
 z3:=Tryz.sizeOf3
 v3:=Tryz.zeroValue3
 t4:=Tryz.underlying4
 a4:=Tryz.isAgg4
 z4:=Tryz.sizeOf4
 v4:=Tryz.zeroValue4
 t9:=Tryz.underlying9
 a9:=Tryz.isAgg9
 z9:=Tryz.sizeOf9
 v9:=Tryz.zeroValue9
 t20:=Tryz.underlying20
 a20:=Tryz.isAgg20
 z20:=Tryz.sizeOf20
 v20:=Tryz.zeroValue20
 t31:=Tryz.underlying22
 a31:=Tryz.isAgg22
 z31:=Tryz.sizeOf22
 v31:=Tryz.zeroValue22
 t37:=Tryz.underlying23
 a37:=Tryz.isAgg23
 z37:=Tryz.sizeOf23
 v37:=Tryz.zeroValue23
 t70:=Tryz.underlying162
 a70:=Tryz.isAgg162
 z70:=Tryz.sizeOf162
 v70:=Tryz.zeroValue162
 t72:=Tryz.underlying164
 a72:=Tryz.isAgg164
 z72:=Tryz.sizeOf164
 v72:=Tryz.zeroValue164
 t75:=Tryz.underlying167
 a75:=Tryz.isAgg167
 z75:=Tryz.sizeOf167
 v75:=Tryz.zeroValue167
 t76:=Tryz.underlying168
 a76:=Tryz.isAgg168
 z76:=Tryz.sizeOf168
 v76:=Tryz.zeroValue168
 t127:=Tryz.underlying219
 a127:=Tryz.isAgg219
 z127:=Tryz.sizeOf219
 v127:=Tryz.zeroValue219
 t164:=Tryz.underlying261
 a164:=Tryz.isAgg261
 z164:=Tryz.sizeOf261
 v164:=Tryz.zeroValue261}
def Tryz.VM:Go.Shelf.Ren:=⟨fun | 17=>205 | 15=>257 | 20=>314 | n=>n,fun | 9=>9 | 23=>260 | 4=>4 | 3=>3 | 0=>0 | 21=>21 | n=>n,fun | n=>n⟩
theorem Tryz.AaB:Go.Proofs.LaysGw.n17 Tryz.prog Tryz.VM:={
 mixed:=by kernel_rfl
 f15:=Tryz.func257.trans (congrArg some (by kernel_rfl))
 f17:=Tryz.func205.trans (congrArg some (by kernel_rfl))
 f20:=Tryz.func314.trans (congrArg some (by kernel_rfl))
 t0:=Tryz.underlying0
 a0:=Tryz.isAgg0
 z0:=Tryz.sizeOf0
 v0:=Tryz.zeroValue0
 i0:=by kernel_rfl
 t3:=Tryz.underlying3
 a3:=Tryz.isAgg3
 z3:=Tryz.sizeOf3
 v3:=Tryz.zeroValue3
 i3:=by kernel_rfl
 t4:=Tryz.underlying4
 a4:=Tryz.isAgg4
 z4:=Tryz.sizeOf4
 v4:=Tryz.zeroValue4
 i4:=by kernel_rfl
 t9:=Tryz.underlying9
 a9:=Tryz.isAgg9
 z9:=Tryz.sizeOf9
 v9:=Tryz.zeroValue9
 i9:=by kernel_rfl
 t21:=Tryz.underlying21
 a21:=Tryz.isAgg21
 z21:=Tryz.sizeOf21
 v21:=Tryz.zeroValue21
 i21:=by kernel_rfl
 t23:=Tryz.underlying260
 a23:=Tryz.isAgg260
 z23:=Tryz.sizeOf260
 v23:=Tryz.zeroValue260
 i23:=by kernel_rfl}
def Tryz.VN:Go.Shelf.Ren:=⟨fun | 137=>168 | 217=>223 | 266=>270 | n=>n,fun | 9=>9 | 5=>5 | 3=>3 | n=>n,fun | n=>n⟩
theorem Tryz.AaC:Go.Proofs.Lays.n137 Tryz.prog Tryz.VN:={
 mixed:=by kernel_rfl
 f137:=Tryz.func168.trans (congrArg some (by kernel_rfl))
 f217:=Tryz.func223.trans (congrArg some (by kernel_rfl))
 f266:=Tryz.func270.trans (congrArg some (by kernel_rfl))
 t3:=Tryz.underlying3
 a3:=Tryz.isAgg3
 z3:=Tryz.sizeOf3
 v3:=Tryz.zeroValue3
 t5:=Tryz.underlying5
 a5:=Tryz.isAgg5
 z5:=Tryz.sizeOf5
 v5:=Tryz.zeroValue5
 t9:=Tryz.underlying9
 a9:=Tryz.isAgg9
 z9:=Tryz.sizeOf9
 v9:=Tryz.zeroValue9}
def Tryz.VO:Go.Shelf.Ren:=⟨fun | 190=>183 | 125=>185 | 258=>234 | 128=>235 | 129=>236 | 302=>287 | 303=>288 | 304=>289 | 305=>290 | 306=>291 | 307=>292 | 308=>293 | 309=>294 | 310=>295 | 333=>325 | 329=>306 | 330=>307 | 334=>326 | 335=>327 | 336=>328 | 344=>337 | n=>n,fun | 31=>22 | 9=>9 | 3=>3 | 46=>171 | 0=>0 | 51=>285 | 53=>205 | 4=>4 | 183=>289 | 182=>288 | 131=>294 | 5=>5 | 218=>333 | 222=>337 | 228=>357 | 229=>229 | n=>n,fun | n=>n⟩
theorem Tryz.Z7:Go.Proofs.Lays.n190 Tryz.prog Tryz.VO:={
 mixed:=by kernel_rfl
 f125:=Tryz.func185.trans (congrArg some (by kernel_rfl))
 f128:=Tryz.func235.trans (congrArg some (by kernel_rfl))
 f129:=Tryz.func236.trans (congrArg some (by kernel_rfl))
 f190:=Tryz.func183.trans (congrArg some (by kernel_rfl))
 f258:=Tryz.func234.trans (congrArg some (by kernel_rfl))
 f302:=Tryz.func287.trans (congrArg some (by kernel_rfl))
 f303:=Tryz.func288.trans (congrArg some (by kernel_rfl))
 f304:=Tryz.func289.trans (congrArg some (by kernel_rfl))
 f305:=Tryz.func290.trans (congrArg some (by kernel_rfl))
 f306:=Tryz.func291.trans (congrArg some (by kernel_rfl))
 f307:=Tryz.func292.trans (congrArg some (by kernel_rfl))
 f308:=Tryz.func293.trans (congrArg some (by kernel_rfl))
 f309:=Tryz.func294.trans (congrArg some (by kernel_rfl))
 f310:=Tryz.func295.trans (congrArg some (by kernel_rfl))
 f329:=Tryz.func306.trans (congrArg some (by kernel_rfl))
 f330:=Tryz.func307.trans (congrArg some (by kernel_rfl))
 f333:=Tryz.func325.trans (congrArg some (by kernel_rfl))
 f334:=Tryz.func326.trans (congrArg some (by kernel_rfl))
 f335:=Tryz.func327.trans (congrArg some (by kernel_rfl))
 f336:=Tryz.func328.trans (congrArg some (by kernel_rfl))
 f344:=Tryz.func337.trans (congrArg some (by kernel_rfl))
 t0:=Tryz.underlying0
 a0:=Tryz.isAgg0
 z0:=Tryz.sizeOf0
 v0:=Tryz.zeroValue0
 t3:=Tryz.underlying3
 a3:=Tryz.isAgg3
 z3:=Tryz.sizeOf3
 v3:=Tryz.zeroValue3
 t4:=Tryz.underlying4
 a4:=Tryz.isAgg4
 z4:=Tryz.sizeOf4
 v4:=Tryz.zeroValue4
 t5:=Tryz.underlying5
 a5:=Tryz.isAgg5
 z5:=Tryz.sizeOf5
 v5:=Tryz.zeroValue5
 t9:=Tryz.underlying9
 a9:=Tryz.isAgg9
 z9:=Tryz.sizeOf9
 v9:=Tryz.zeroValue9
 t31:=Tryz.underlying22
 a31:=Tryz.isAgg22
 z31:=Tryz.sizeOf22
 v31:=Tryz.zeroValue22
 t46:=Tryz.underlying171
 a46:=Tryz.isAgg171
 z46:=Tryz.sizeOf171
 v46:=Tryz.zeroValue171
 t51:=Tryz.underlying285
 a51:=Tryz.isAgg285
 z51:=Tryz.sizeOf285
 v51:=Tryz.zeroValue285
 t53:=Tryz.underlying205
 a53:=Tryz.isAgg205
 z53:=Tryz.sizeOf205
 v53:=Tryz.zeroValue205
 t131:=Tryz.underlying294
 a131:=Tryz.isAgg294
 z131:=Tryz.sizeOf294
 v131:=Tryz.zeroValue294
 t182:=Tryz.underlying288
 a182:=Tryz.isAgg288
 z182:=Tryz.sizeOf288
 v182:=Tryz.zeroValue288
 t183:=Tryz.underlying289
 a183:=Tryz.isAgg289
 z183:=Tryz.sizeOf289
 v183:=Tryz.zeroValue289
 t218:=Tryz.underlying333
 a218:=Tryz.isAgg333
 z218:=Tryz.sizeOf333
 v218:=Tryz.zeroValue333
 t222:=Tryz.underlying337
 a222:=Tryz.isAgg337
 z222:=Tryz.sizeOf337
 v222:=Tryz.zeroValue337
 t228:=Tryz.underlying357
 a228:=Tryz.isAgg357
 z228:=Tryz.sizeOf357
 v228:=Tryz.zeroValue357
 t229:=Tryz.underlying229
 a229:=Tryz.isAgg229
 z229:=Tryz.sizeOf229
 v229:=Tryz.zeroValue229}
def Tryz.VP:Go.Shelf.Ren:=⟨fun | 189=>139 | 125=>185 | 257=>190 | 128=>235 | 129=>236 | 294=>240 | 295=>241 | 296=>242 | 297=>243 | 298=>244 | 299=>245 | 216=>246 | 300=>247 | 301=>248 | 328=>305 | 329=>306 | 330=>307 | 331=>308 | 332=>309 | 215=>239 | 343=>332 | n=>n,fun | 28=>58 | 3=>3 | 46=>171 | 0=>0 | 51=>285 | 53=>205 | 4=>4 | 183=>289 | 182=>288 | 131=>294 | 5=>5 | 9=>9 | 218=>333 | 222=>337 | 228=>357 | 229=>229 | n=>n,fun | n=>n⟩
theorem Tryz.AaD:Go.Proofs.Lays.n189 Tryz.prog Tryz.VP:={
 mixed:=by kernel_rfl
 f125:=Tryz.func185.trans (congrArg some (by kernel_rfl))
 f128:=Tryz.func235.trans (congrArg some (by kernel_rfl))
 f129:=Tryz.func236.trans (congrArg some (by kernel_rfl))
 f189:=Tryz.func139.trans (congrArg some (by kernel_rfl))
 f215:=Tryz.func239.trans (congrArg some (by kernel_rfl))
 f216:=Tryz.func246.trans (congrArg some (by kernel_rfl))
 f257:=Tryz.func190.trans (congrArg some (by kernel_rfl))
 f294:=Tryz.func240.trans (congrArg some (by kernel_rfl))
 f295:=Tryz.func241.trans (congrArg some (by kernel_rfl))
 f296:=Tryz.func242.trans (congrArg some (by kernel_rfl))
 f297:=Tryz.func243.trans (congrArg some (by kernel_rfl))
 f298:=Tryz.func244.trans (congrArg some (by kernel_rfl))
 f299:=Tryz.func245.trans (congrArg some (by kernel_rfl))
 f300:=Tryz.func247.trans (congrArg some (by kernel_rfl))
 f301:=Tryz.func248.trans (congrArg some (by kernel_rfl))
 f328:=Tryz.func305.trans (congrArg some (by kernel_rfl))
 f329:=Tryz.func306.trans (congrArg some (by kernel_rfl))
 f330:=Tryz.func307.trans (congrArg some (by kernel_rfl))
 f331:=Tryz.func308.trans (congrArg some (by kernel_rfl))
 f332:=Tryz.func309.trans (congrArg some (by kernel_rfl))
 f343:=Tryz.func332.trans (congrArg some (by kernel_rfl))
 t0:=Tryz.underlying0
 a0:=Tryz.isAgg0
 z0:=Tryz.sizeOf0
 v0:=Tryz.zeroValue0
 t3:=Tryz.underlying3
 a3:=Tryz.isAgg3
 z3:=Tryz.sizeOf3
 v3:=Tryz.zeroValue3
 t4:=Tryz.underlying4
 a4:=Tryz.isAgg4
 z4:=Tryz.sizeOf4
 v4:=Tryz.zeroValue4
 t5:=Tryz.underlying5
 a5:=Tryz.isAgg5
 z5:=Tryz.sizeOf5
 v5:=Tryz.zeroValue5
 t9:=Tryz.underlying9
 a9:=Tryz.isAgg9
 z9:=Tryz.sizeOf9
 v9:=Tryz.zeroValue9
 t28:=Tryz.underlying58
 a28:=Tryz.isAgg58
 z28:=Tryz.sizeOf58
 v28:=Tryz.zeroValue58
 t46:=Tryz.underlying171
 a46:=Tryz.isAgg171
 z46:=Tryz.sizeOf171
 v46:=Tryz.zeroValue171
 t51:=Tryz.underlying285
 a51:=Tryz.isAgg285
 z51:=Tryz.sizeOf285
 v51:=Tryz.zeroValue285
 t53:=Tryz.underlying205
 a53:=Tryz.isAgg205
 z53:=Tryz.sizeOf205
 v53:=Tryz.zeroValue205
 t131:=Tryz.underlying294
 a131:=Tryz.isAgg294
 z131:=Tryz.sizeOf294
 v131:=Tryz.zeroValue294
 t182:=Tryz.underlying288
 a182:=Tryz.isAgg288
 z182:=Tryz.sizeOf288
 v182:=Tryz.zeroValue288
 t183:=Tryz.underlying289
 a183:=Tryz.isAgg289
 z183:=Tryz.sizeOf289
 v183:=Tryz.zeroValue289
 t218:=Tryz.underlying333
 a218:=Tryz.isAgg333
 z218:=Tryz.sizeOf333
 v218:=Tryz.zeroValue333
 t222:=Tryz.underlying337
 a222:=Tryz.isAgg337
 z222:=Tryz.sizeOf337
 v222:=Tryz.zeroValue337
 t228:=Tryz.underlying357
 a228:=Tryz.isAgg357
 z228:=Tryz.sizeOf357
 v228:=Tryz.zeroValue357
 t229:=Tryz.underlying229
 a229:=Tryz.isAgg229
 z229:=Tryz.sizeOf229
 v229:=Tryz.zeroValue229}
def Tryz.VQ:Go.Shelf.Ren:=⟨fun | 20=>140 | n=>n,fun | 22=>58 | 3=>3 | 4=>4 | 0=>0 | n=>n,fun | n=>n⟩
theorem Tryz.AaE:Go.Proofs.Lays2.n20 Tryz.prog Tryz.VQ:={
 mixed:=by kernel_rfl
 f20:=Tryz.func140.trans (congrArg some (by kernel_rfl))
 t0:=Tryz.underlying0
 a0:=Tryz.isAgg0
 z0:=Tryz.sizeOf0
 v0:=Tryz.zeroValue0
 t3:=Tryz.underlying3
 a3:=Tryz.isAgg3
 z3:=Tryz.sizeOf3
 v3:=Tryz.zeroValue3
 t4:=Tryz.underlying4
 a4:=Tryz.isAgg4
 z4:=Tryz.sizeOf4
 v4:=Tryz.zeroValue4
 t22:=Tryz.underlying58
 a22:=Tryz.isAgg58
 z22:=Tryz.sizeOf58
 v22:=Tryz.zeroValue58
 i3:=by kernel_rfl}
def Tryz.VR:Go.Shelf.Ren:=⟨fun | 6=>186 | 15=>185 | 14=>237 | 28=>235 | 29=>236 | 20=>296 | 21=>297 | 22=>298 | 23=>299 | 24=>300 | 25=>301 | 26=>302 | 27=>303 | 46=>329 | 47=>306 | 48=>307 | 49=>330 | 50=>331 | 57=>338 | n=>n,fun | 22=>196 | 24=>142 | 25=>198 | 3=>3 | 39=>171 | 0=>0 | 53=>285 | 55=>205 | 4=>4 | 46=>289 | 45=>288 | 50=>294 | 5=>5 | 9=>9 | 66=>333 | 70=>337 | 76=>357 | 77=>229 | n=>n,fun | n=>n⟩
theorem Tryz.Z8:Go.Proofs.SlLaysF0.n6 Tryz.prog Tryz.VR:={
 mixed:=by kernel_rfl
 f6:=⟨Tryz.f186.name,by decide,Tryz.func186.trans (congrArg some (by kernel_rfl))⟩
 f14:=⟨Tryz.f237.name,by decide,Tryz.func237.trans (congrArg some (by kernel_rfl))⟩
 f15:=Tryz.func185.trans (congrArg some (by kernel_rfl))
 f20:=⟨Tryz.f296.name,by decide,Tryz.func296.trans (congrArg some (by kernel_rfl))⟩
 f21:=⟨Tryz.f297.name,by decide,Tryz.func297.trans (congrArg some (by kernel_rfl))⟩
 f22:=⟨Tryz.f298.name,by decide,Tryz.func298.trans (congrArg some (by kernel_rfl))⟩
 f23:=⟨Tryz.f299.name,by decide,Tryz.func299.trans (congrArg some (by kernel_rfl))⟩
 f24:=⟨Tryz.f300.name,by decide,Tryz.func300.trans (congrArg some (by kernel_rfl))⟩
 f25:=⟨Tryz.f301.name,by decide,Tryz.func301.trans (congrArg some (by kernel_rfl))⟩
 f26:=⟨Tryz.f302.name,by decide,Tryz.func302.trans (congrArg some (by kernel_rfl))⟩
 f27:=⟨Tryz.f303.name,by decide,Tryz.func303.trans (congrArg some (by kernel_rfl))⟩
 f28:=Tryz.func235.trans (congrArg some (by kernel_rfl))
 f29:=Tryz.func236.trans (congrArg some (by kernel_rfl))
 f46:=⟨Tryz.f329.name,by decide,Tryz.func329.trans (congrArg some (by kernel_rfl))⟩
 f47:=Tryz.func306.trans (congrArg some (by kernel_rfl))
 f48:=Tryz.func307.trans (congrArg some (by kernel_rfl))
 f49:=⟨Tryz.f330.name,by decide,Tryz.func330.trans (congrArg some (by kernel_rfl))⟩
 f50:=⟨Tryz.f331.name,by decide,Tryz.func331.trans (congrArg some (by kernel_rfl))⟩
 f57:=⟨Tryz.f338.name,by decide,Tryz.func338.trans (congrArg some (by kernel_rfl))⟩
 t0:=Tryz.underlying0
 a0:=Tryz.isAgg0
 z0:=Tryz.sizeOf0
 v0:=Tryz.zeroValue0
 t3:=Tryz.underlying3
 a3:=Tryz.isAgg3
 z3:=Tryz.sizeOf3
 v3:=Tryz.zeroValue3
 t4:=Tryz.underlying4
 a4:=Tryz.isAgg4
 z4:=Tryz.sizeOf4
 v4:=Tryz.zeroValue4
 t5:=Tryz.underlying5
 a5:=Tryz.isAgg5
 z5:=Tryz.sizeOf5
 v5:=Tryz.zeroValue5
 t9:=Tryz.underlying9
 a9:=Tryz.isAgg9
 z9:=Tryz.sizeOf9
 v9:=Tryz.zeroValue9
 t22:=Tryz.underlying196
 a22:=Tryz.isAgg196
 z22:=Tryz.sizeOf196
 v22:=Tryz.zeroValue196
 t25:=Tryz.underlying198
 a25:=Tryz.isAgg198
 z25:=Tryz.sizeOf198
 v25:=Tryz.zeroValue198
 t39:=Tryz.underlying171
 a39:=Tryz.isAgg171
 z39:=Tryz.sizeOf171
 v39:=Tryz.zeroValue171
 t45:=Tryz.underlying288
 a45:=Tryz.isAgg288
 z45:=Tryz.sizeOf288
 v45:=Tryz.zeroValue288
 t46:=Tryz.underlying289
 a46:=Tryz.isAgg289
 z46:=Tryz.sizeOf289
 v46:=Tryz.zeroValue289
 t50:=Tryz.underlying294
 a50:=Tryz.isAgg294
 z50:=Tryz.sizeOf294
 v50:=Tryz.zeroValue294
 t53:=Tryz.underlying285
 a53:=Tryz.isAgg285
 z53:=Tryz.sizeOf285
 v53:=Tryz.zeroValue285
 t55:=Tryz.underlying205
 a55:=Tryz.isAgg205
 z55:=Tryz.sizeOf205
 v55:=Tryz.zeroValue205
 t66:=Tryz.underlying333
 a66:=Tryz.isAgg333
 z66:=Tryz.sizeOf333
 v66:=Tryz.zeroValue333
 t70:=Tryz.underlying337
 a70:=Tryz.isAgg337
 z70:=Tryz.sizeOf337
 v70:=Tryz.zeroValue337
 t76:=Tryz.underlying357
 a76:=Tryz.isAgg357
 z76:=Tryz.sizeOf357
 v76:=Tryz.zeroValue357
 t77:=Tryz.underlying229
 a77:=Tryz.isAgg229
 z77:=Tryz.sizeOf229
 v77:=Tryz.zeroValue229}
def Tryz.VS:Go.Shelf.Ren:=⟨fun | 6=>173 | 15=>185 | 14=>226 | 28=>235 | 29=>236 | 20=>276 | 21=>277 | 22=>278 | 23=>279 | 24=>280 | 25=>281 | 26=>282 | 27=>283 | 46=>322 | 47=>306 | 48=>307 | 49=>323 | 50=>324 | 57=>336 | n=>n,fun | 22=>58 | 24=>3 | 25=>234 | 3=>3 | 39=>171 | 0=>0 | 53=>285 | 55=>205 | 4=>4 | 46=>289 | 45=>288 | 50=>294 | 5=>5 | 9=>9 | 66=>333 | 70=>337 | 76=>357 | 77=>229 | n=>n,fun | n=>n⟩
theorem Tryz.AaF:Go.Proofs.SlLaysF.n6 Tryz.prog Tryz.VS:={
 mixed:=by kernel_rfl
 f6:=⟨Tryz.f173.name,by decide,Tryz.func173.trans (congrArg some (by kernel_rfl))⟩
 f14:=⟨Tryz.f226.name,by decide,Tryz.func226.trans (congrArg some (by kernel_rfl))⟩
 f15:=Tryz.func185.trans (congrArg some (by kernel_rfl))
 f20:=⟨Tryz.f276.name,by decide,Tryz.func276.trans (congrArg some (by kernel_rfl))⟩
 f21:=⟨Tryz.f277.name,by decide,Tryz.func277.trans (congrArg some (by kernel_rfl))⟩
 f22:=⟨Tryz.f278.name,by decide,Tryz.func278.trans (congrArg some (by kernel_rfl))⟩
 f23:=⟨Tryz.f279.name,by decide,Tryz.func279.trans (congrArg some (by kernel_rfl))⟩
 f24:=⟨Tryz.f280.name,by decide,Tryz.func280.trans (congrArg some (by kernel_rfl))⟩
 f25:=⟨Tryz.f281.name,by decide,Tryz.func281.trans (congrArg some (by kernel_rfl))⟩
 f26:=⟨Tryz.f282.name,by decide,Tryz.func282.trans (congrArg some (by kernel_rfl))⟩
 f27:=⟨Tryz.f283.name,by decide,Tryz.func283.trans (congrArg some (by kernel_rfl))⟩
 f28:=Tryz.func235.trans (congrArg some (by kernel_rfl))
 f29:=Tryz.func236.trans (congrArg some (by kernel_rfl))
 f46:=⟨Tryz.f322.name,by decide,Tryz.func322.trans (congrArg some (by kernel_rfl))⟩
 f47:=Tryz.func306.trans (congrArg some (by kernel_rfl))
 f48:=Tryz.func307.trans (congrArg some (by kernel_rfl))
 f49:=⟨Tryz.f323.name,by decide,Tryz.func323.trans (congrArg some (by kernel_rfl))⟩
 f50:=⟨Tryz.f324.name,by decide,Tryz.func324.trans (congrArg some (by kernel_rfl))⟩
 f57:=⟨Tryz.f336.name,by decide,Tryz.func336.trans (congrArg some (by kernel_rfl))⟩
 t0:=Tryz.underlying0
 a0:=Tryz.isAgg0
 z0:=Tryz.sizeOf0
 v0:=Tryz.zeroValue0
 t3:=Tryz.underlying3
 a3:=Tryz.isAgg3
 z3:=Tryz.sizeOf3
 v3:=Tryz.zeroValue3
 t4:=Tryz.underlying4
 a4:=Tryz.isAgg4
 z4:=Tryz.sizeOf4
 v4:=Tryz.zeroValue4
 t5:=Tryz.underlying5
 a5:=Tryz.isAgg5
 z5:=Tryz.sizeOf5
 v5:=Tryz.zeroValue5
 t9:=Tryz.underlying9
 a9:=Tryz.isAgg9
 z9:=Tryz.sizeOf9
 v9:=Tryz.zeroValue9
 t22:=Tryz.underlying58
 a22:=Tryz.isAgg58
 z22:=Tryz.sizeOf58
 v22:=Tryz.zeroValue58
 a24:=Tryz.isAgg3
 z24:=Tryz.sizeOf3
 t25:=Tryz.underlying234
 a25:=Tryz.isAgg234
 z25:=Tryz.sizeOf234
 v25:=Tryz.zeroValue234
 t39:=Tryz.underlying171
 a39:=Tryz.isAgg171
 z39:=Tryz.sizeOf171
 v39:=Tryz.zeroValue171
 t45:=Tryz.underlying288
 a45:=Tryz.isAgg288
 z45:=Tryz.sizeOf288
 v45:=Tryz.zeroValue288
 t46:=Tryz.underlying289
 a46:=Tryz.isAgg289
 z46:=Tryz.sizeOf289
 v46:=Tryz.zeroValue289
 t50:=Tryz.underlying294
 a50:=Tryz.isAgg294
 z50:=Tryz.sizeOf294
 v50:=Tryz.zeroValue294
 t53:=Tryz.underlying285
 a53:=Tryz.isAgg285
 z53:=Tryz.sizeOf285
 v53:=Tryz.zeroValue285
 t55:=Tryz.underlying205
 a55:=Tryz.isAgg205
 z55:=Tryz.sizeOf205
 v55:=Tryz.zeroValue205
 t66:=Tryz.underlying333
 a66:=Tryz.isAgg333
 z66:=Tryz.sizeOf333
 v66:=Tryz.zeroValue333
 t70:=Tryz.underlying337
 a70:=Tryz.isAgg337
 z70:=Tryz.sizeOf337
 v70:=Tryz.zeroValue337
 t76:=Tryz.underlying357
 a76:=Tryz.isAgg357
 z76:=Tryz.sizeOf357
 v76:=Tryz.zeroValue357
 t77:=Tryz.underlying229
 a77:=Tryz.isAgg229
 z77:=Tryz.sizeOf229
 v77:=Tryz.zeroValue229}
def Tryz.U7:Go.Shelf.Ren:=⟨fun | 6=>173 | 15=>185 | 14=>226 | 28=>235 | 29=>236 | 20=>276 | 21=>277 | 22=>278 | 23=>279 | 24=>280 | 25=>281 | 26=>282 | 27=>283 | 46=>322 | 47=>306 | 48=>307 | 49=>323 | 50=>324 | 57=>336 | n=>n,fun | 22=>58 | 24=>3 | 25=>234 | 3=>3 | 39=>171 | 0=>0 | 53=>285 | 55=>205 | 4=>4 | 46=>289 | 45=>288 | 50=>294 | 5=>5 | 9=>9 | 66=>333 | 70=>337 | 76=>357 | 77=>229 | n=>n,fun | n=>n⟩
theorem Tryz.Aaj:Go.Proofs.SlLaysF0.n6 Tryz.prog Tryz.U7:={
 mixed:=by kernel_rfl
 f6:=⟨Tryz.f173.name,by decide,Tryz.func173.trans (congrArg some (by kernel_rfl))⟩
 f14:=⟨Tryz.f226.name,by decide,Tryz.func226.trans (congrArg some (by kernel_rfl))⟩
 f15:=Tryz.func185.trans (congrArg some (by kernel_rfl))
 f20:=⟨Tryz.f276.name,by decide,Tryz.func276.trans (congrArg some (by kernel_rfl))⟩
 f21:=⟨Tryz.f277.name,by decide,Tryz.func277.trans (congrArg some (by kernel_rfl))⟩
 f22:=⟨Tryz.f278.name,by decide,Tryz.func278.trans (congrArg some (by kernel_rfl))⟩
 f23:=⟨Tryz.f279.name,by decide,Tryz.func279.trans (congrArg some (by kernel_rfl))⟩
 f24:=⟨Tryz.f280.name,by decide,Tryz.func280.trans (congrArg some (by kernel_rfl))⟩
 f25:=⟨Tryz.f281.name,by decide,Tryz.func281.trans (congrArg some (by kernel_rfl))⟩
 f26:=⟨Tryz.f282.name,by decide,Tryz.func282.trans (congrArg some (by kernel_rfl))⟩
 f27:=⟨Tryz.f283.name,by decide,Tryz.func283.trans (congrArg some (by kernel_rfl))⟩
 f28:=Tryz.func235.trans (congrArg some (by kernel_rfl))
 f29:=Tryz.func236.trans (congrArg some (by kernel_rfl))
 f46:=⟨Tryz.f322.name,by decide,Tryz.func322.trans (congrArg some (by kernel_rfl))⟩
 f47:=Tryz.func306.trans (congrArg some (by kernel_rfl))
 f48:=Tryz.func307.trans (congrArg some (by kernel_rfl))
 f49:=⟨Tryz.f323.name,by decide,Tryz.func323.trans (congrArg some (by kernel_rfl))⟩
 f50:=⟨Tryz.f324.name,by decide,Tryz.func324.trans (congrArg some (by kernel_rfl))⟩
 f57:=⟨Tryz.f336.name,by decide,Tryz.func336.trans (congrArg some (by kernel_rfl))⟩
 t0:=Tryz.underlying0
 a0:=Tryz.isAgg0
 z0:=Tryz.sizeOf0
 v0:=Tryz.zeroValue0
 t3:=Tryz.underlying3
 a3:=Tryz.isAgg3
 z3:=Tryz.sizeOf3
 v3:=Tryz.zeroValue3
 t4:=Tryz.underlying4
 a4:=Tryz.isAgg4
 z4:=Tryz.sizeOf4
 v4:=Tryz.zeroValue4
 t5:=Tryz.underlying5
 a5:=Tryz.isAgg5
 z5:=Tryz.sizeOf5
 v5:=Tryz.zeroValue5
 t9:=Tryz.underlying9
 a9:=Tryz.isAgg9
 z9:=Tryz.sizeOf9
 v9:=Tryz.zeroValue9
 t22:=Tryz.underlying58
 a22:=Tryz.isAgg58
 z22:=Tryz.sizeOf58
 v22:=Tryz.zeroValue58
 t25:=Tryz.underlying234
 a25:=Tryz.isAgg234
 z25:=Tryz.sizeOf234
 v25:=Tryz.zeroValue234
 t39:=Tryz.underlying171
 a39:=Tryz.isAgg171
 z39:=Tryz.sizeOf171
 v39:=Tryz.zeroValue171
 t45:=Tryz.underlying288
 a45:=Tryz.isAgg288
 z45:=Tryz.sizeOf288
 v45:=Tryz.zeroValue288
 t46:=Tryz.underlying289
 a46:=Tryz.isAgg289
 z46:=Tryz.sizeOf289
 v46:=Tryz.zeroValue289
 t50:=Tryz.underlying294
 a50:=Tryz.isAgg294
 z50:=Tryz.sizeOf294
 v50:=Tryz.zeroValue294
 t53:=Tryz.underlying285
 a53:=Tryz.isAgg285
 z53:=Tryz.sizeOf285
 v53:=Tryz.zeroValue285
 t55:=Tryz.underlying205
 a55:=Tryz.isAgg205
 z55:=Tryz.sizeOf205
 v55:=Tryz.zeroValue205
 t66:=Tryz.underlying333
 a66:=Tryz.isAgg333
 z66:=Tryz.sizeOf333
 v66:=Tryz.zeroValue333
 t70:=Tryz.underlying337
 a70:=Tryz.isAgg337
 z70:=Tryz.sizeOf337
 v70:=Tryz.zeroValue337
 t76:=Tryz.underlying357
 a76:=Tryz.isAgg357
 z76:=Tryz.sizeOf357
 v76:=Tryz.zeroValue357
 t77:=Tryz.underlying229
 a77:=Tryz.isAgg229
 z77:=Tryz.sizeOf229
 v77:=Tryz.zeroValue229}
def Tryz.Ih:Go.Shelf.Ren:=⟨fun | 32=>232 | 49=>286 | n=>n,fun | 30=>23 | 21=>21 | 3=>3 | 0=>0 | 5=>5 | 4=>4 | 33=>280 | 66=>349 | 25=>171 | 69=>352 | 68=>351 | n=>n,fun | 2=>4 | 3=>5 | n=>n⟩
theorem Tryz.Xv:Go.Proofs.Lays7.n32 Tryz.prog Tryz.Ih:={
 mixed:=by kernel_rfl
 f32:=Tryz.func232.trans (congrArg some (by kernel_rfl))
 f49:=Tryz.func286.trans (congrArg some (by kernel_rfl))
 t0:=Tryz.underlying0
 a0:=Tryz.isAgg0
 z0:=Tryz.sizeOf0
 v0:=Tryz.zeroValue0
 i0:=by kernel_rfl
 t3:=Tryz.underlying3
 a3:=Tryz.isAgg3
 z3:=Tryz.sizeOf3
 v3:=Tryz.zeroValue3
 i3:=by kernel_rfl
 t4:=Tryz.underlying4
 a4:=Tryz.isAgg4
 z4:=Tryz.sizeOf4
 v4:=Tryz.zeroValue4
 i4:=by kernel_rfl
 t5:=Tryz.underlying5
 a5:=Tryz.isAgg5
 z5:=Tryz.sizeOf5
 v5:=Tryz.zeroValue5
 i5:=by kernel_rfl
 t21:=Tryz.underlying21
 a21:=Tryz.isAgg21
 z21:=Tryz.sizeOf21
 v21:=Tryz.zeroValue21
 i21:=by kernel_rfl
 t25:=Tryz.underlying171
 a25:=Tryz.isAgg171
 z25:=Tryz.sizeOf171
 v25:=Tryz.zeroValue171
 i25:=by kernel_rfl
 t30:=Tryz.underlying23
 a30:=Tryz.isAgg23
 z30:=Tryz.sizeOf23
 v30:=Tryz.zeroValue23
 i30:=by kernel_rfl
 t33:=Tryz.underlying280
 a33:=Tryz.isAgg280
 z33:=Tryz.sizeOf280
 v33:=Tryz.zeroValue280
 i33:=by kernel_rfl
 t66:=Tryz.underlying349
 a66:=Tryz.isAgg349
 z66:=Tryz.sizeOf349
 t68:=Tryz.underlying351
 a68:=Tryz.isAgg351
 z68:=Tryz.sizeOf351
 v68:=Tryz.zeroValue351
 i68:=by kernel_rfl
 t69:=Tryz.underlying352
 a69:=Tryz.isAgg352
 z69:=Tryz.sizeOf352
 v69:=Tryz.zeroValue352
 i69:=by kernel_rfl
 g2:=by kernel_rfl
 g3:=by kernel_rfl}
def Tryz.Sl:Go.Shelf.Ren:=⟨fun | 7=>131 | 10=>184 | n=>n,fun | 23=>130 | 26=>9 | 3=>109 | 28=>189 | 0=>0 | 27=>188 | 33=>41 | 4=>4 | n=>n,fun | n=>n⟩
theorem Tryz.Z9:Go.Proofs.SlLaysZ.n7 Tryz.prog Tryz.Sl:={
 mixed:=by kernel_rfl
 f7:=⟨Tryz.f131.name,by decide,Tryz.func131.trans (congrArg some (by kernel_rfl))⟩
 f10:=⟨Tryz.f184.name,by decide,Tryz.func184.trans (congrArg some (by kernel_rfl))⟩
 t0:=Tryz.underlying0
 a0:=Tryz.isAgg0
 z0:=Tryz.sizeOf0
 v0:=Tryz.zeroValue0
 t4:=Tryz.underlying4
 a4:=Tryz.isAgg4
 z4:=Tryz.sizeOf4
 v4:=Tryz.zeroValue4
 t23:=Tryz.underlying130
 a23:=Tryz.isAgg130
 z23:=Tryz.sizeOf130
 v23:=Tryz.zeroValue130
 t26:=Tryz.underlying9
 a26:=Tryz.isAgg9
 z26:=Tryz.sizeOf9
 v26:=Tryz.zeroValue9
 t27:=Tryz.underlying188
 a27:=Tryz.isAgg188
 z27:=Tryz.sizeOf188
 v27:=Tryz.zeroValue188
 t28:=Tryz.underlying189
 a28:=Tryz.isAgg189
 z28:=Tryz.sizeOf189
 v28:=Tryz.zeroValue189
 t33:=Tryz.underlying41
 a33:=Tryz.isAgg41
 z33:=Tryz.sizeOf41
 v33:=Tryz.zeroValue41}
def Tryz.PS:Go.Shelf.Ren:=⟨fun | 6=>130 | 8=>182 | 9=>183 | 11=>233 | 13=>185 | 12=>234 | 23=>235 | 24=>236 | 14=>287 | 15=>288 | 16=>289 | 17=>290 | 18=>291 | 19=>292 | 20=>293 | 21=>294 | 22=>295 | 25=>325 | 26=>306 | 27=>307 | 28=>326 | 29=>327 | 30=>328 | 31=>337 | n=>n,fun | 26=>9 | 28=>189 | 24=>22 | 0=>0 | 3=>3 | 37=>171 | 48=>285 | 50=>205 | 4=>4 | 40=>289 | 39=>288 | 45=>294 | 5=>5 | 9=>9 | 51=>333 | 55=>337 | 57=>357 | 58=>229 | 33=>41 | n=>n,fun | n=>n⟩
theorem Tryz.YS:Go.Proofs.SlLaysZ.n6 Tryz.prog Tryz.PS:={
 mixed:=by kernel_rfl
 f6:=⟨Tryz.f130.name,by decide,Tryz.func130.trans (congrArg some (by kernel_rfl))⟩
 f8:=⟨Tryz.f182.name,by decide,Tryz.func182.trans (congrArg some (by kernel_rfl))⟩
 f11:=⟨Tryz.f233.name,by decide,Tryz.func233.trans (congrArg some (by kernel_rfl))⟩
 t0:=Tryz.underlying0
 a0:=Tryz.isAgg0
 z0:=Tryz.sizeOf0
 v0:=Tryz.zeroValue0
 t24:=Tryz.underlying22
 a24:=Tryz.isAgg22
 z24:=Tryz.sizeOf22
 v24:=Tryz.zeroValue22
 t26:=Tryz.underlying9
 a26:=Tryz.isAgg9
 z26:=Tryz.sizeOf9
 v26:=Tryz.zeroValue9
 t28:=Tryz.underlying189
 a28:=Tryz.isAgg189
 z28:=Tryz.sizeOf189
 v28:=Tryz.zeroValue189
 i26:=by kernel_rfl}
def Tryz.TR:Go.Shelf.Ren:=⟨fun | 171=>64 | 243=>107 | 246=>162 | 283=>210 | 284=>211 | 285=>212 | 286=>213 | 129=>236 | 317=>258 | 318=>259 | 319=>260 | 320=>261 | 337=>315 | 338=>316 | n=>n,fun | 3=>3 | 9=>9 | 2=>2 | 4=>4 | 171=>263 | 0=>0 | 53=>205 | 37=>23 | 5=>5 | 173=>266 | 212=>305 | 51=>285 | 20=>20 | 213=>306 | 46=>171 | 232=>359 | 233=>360 | n=>n,fun | 17=>1 | 18=>6 | 19=>7 | n=>n⟩
theorem Tryz.YT:Go.Proofs.LaysM.n171 Tryz.prog Tryz.TR:={
 mixed:=by kernel_rfl
 f129:=Tryz.func236.trans (congrArg some (by kernel_rfl))
 f171:=Tryz.func64.trans (congrArg some (by kernel_rfl))
 f243:=Tryz.func107.trans (congrArg some (by kernel_rfl))
 f246:=Tryz.func162.trans (congrArg some (by kernel_rfl))
 f283:=Tryz.func210.trans (congrArg some (by kernel_rfl))
 f284:=Tryz.func211.trans (congrArg some (by kernel_rfl))
 f285:=Tryz.func212.trans (congrArg some (by kernel_rfl))
 f286:=Tryz.func213.trans (congrArg some (by kernel_rfl))
 f317:=Tryz.func258.trans (congrArg some (by kernel_rfl))
 f318:=Tryz.func259.trans (congrArg some (by kernel_rfl))
 f319:=Tryz.func260.trans (congrArg some (by kernel_rfl))
 f320:=Tryz.func261.trans (congrArg some (by kernel_rfl))
 f337:=Tryz.func315.trans (congrArg some (by kernel_rfl))
 f338:=Tryz.func316.trans (congrArg some (by kernel_rfl))
 t0:=Tryz.underlying0
 a0:=Tryz.isAgg0
 z0:=Tryz.sizeOf0
 v0:=Tryz.zeroValue0
 t2:=Tryz.underlying2
 a2:=Tryz.isAgg2
 z2:=Tryz.sizeOf2
 v2:=Tryz.zeroValue2
 t3:=Tryz.underlying3
 a3:=Tryz.isAgg3
 z3:=Tryz.sizeOf3
 v3:=Tryz.zeroValue3
 t4:=Tryz.underlying4
 a4:=Tryz.isAgg4
 z4:=Tryz.sizeOf4
 v4:=Tryz.zeroValue4
 t5:=Tryz.underlying5
 a5:=Tryz.isAgg5
 z5:=Tryz.sizeOf5
 v5:=Tryz.zeroValue5
 t9:=Tryz.underlying9
 a9:=Tryz.isAgg9
 z9:=Tryz.sizeOf9
 v9:=Tryz.zeroValue9
 t20:=Tryz.underlying20
 a20:=Tryz.isAgg20
 z20:=Tryz.sizeOf20
 v20:=Tryz.zeroValue20
 t37:=Tryz.underlying23
 a37:=Tryz.isAgg23
 z37:=Tryz.sizeOf23
 v37:=Tryz.zeroValue23
 t46:=Tryz.underlying171
 a46:=Tryz.isAgg171
 z46:=Tryz.sizeOf171
 v46:=Tryz.zeroValue171
 t51:=Tryz.underlying285
 a51:=Tryz.isAgg285
 z51:=Tryz.sizeOf285
 v51:=Tryz.zeroValue285
 t53:=Tryz.underlying205
 a53:=Tryz.isAgg205
 z53:=Tryz.sizeOf205
 v53:=Tryz.zeroValue205
 t171:=Tryz.underlying263
 a171:=Tryz.isAgg263
 z171:=Tryz.sizeOf263
 v171:=Tryz.zeroValue263
 t173:=Tryz.underlying266
 a173:=Tryz.isAgg266
 z173:=Tryz.sizeOf266
 v173:=Tryz.zeroValue266
 t212:=Tryz.underlying305
 a212:=Tryz.isAgg305
 z212:=Tryz.sizeOf305
 v212:=Tryz.zeroValue305
 t213:=Tryz.underlying306
 a213:=Tryz.isAgg306
 z213:=Tryz.sizeOf306
 t232:=Tryz.underlying359
 a232:=Tryz.isAgg359
 z232:=Tryz.sizeOf359
 v232:=Tryz.zeroValue359
 t233:=Tryz.underlying360
 a233:=Tryz.isAgg360
 z233:=Tryz.sizeOf360
 v233:=Tryz.zeroValue360
 g17:=by kernel_rfl
 g18:=by kernel_rfl
 g19:=by kernel_rfl
 i0:=by kernel_rfl
 i2:=by kernel_rfl
 i3:=by kernel_rfl
 i4:=by kernel_rfl
 i5:=by kernel_rfl
 i9:=by kernel_rfl
 i20:=by kernel_rfl
 i37:=by kernel_rfl
 i46:=by kernel_rfl
 i51:=by kernel_rfl
 i53:=by kernel_rfl
 i171:=by kernel_rfl
 i173:=by kernel_rfl
 i212:=by kernel_rfl
 i232:=by kernel_rfl
 i233:=by kernel_rfl
 m17:=by kernel_rfl
 m18:=by kernel_rfl
 m19:=by kernel_rfl}
def Tryz.Nl:Go.Shelf.Ren:=⟨fun | 172=>169 | 244=>224 | 245=>225 | 247=>271 | 279=>272 | 280=>273 | 281=>274 | 282=>275 | 287=>319 | 316=>320 | 171=>64 | 205=>321 | 321=>334 | 322=>335 | 243=>107 | 246=>162 | 283=>210 | 284=>211 | 285=>212 | 286=>213 | 129=>236 | 317=>258 | 318=>259 | 319=>260 | 320=>261 | 337=>315 | 338=>316 | n=>n,fun | 9=>9 | 3=>3 | 75=>167 | 76=>168 | 4=>4 | 5=>5 | 167=>310 | 37=>23 | 0=>0 | 85=>311 | 2=>2 | 168=>313 | 53=>205 | 175=>342 | 46=>171 | 210=>345 | 127=>219 | 145=>366 | 143=>364 | 21=>21 | 171=>263 | 173=>266 | 212=>305 | 51=>285 | 20=>20 | 213=>306 | 232=>359 | 233=>360 | 80=>170 | n=>n,fun | 15=>2 | 16=>3 | 17=>1 | 18=>6 | 19=>7 | n=>n⟩
theorem Tryz.SR:Go.Proofs.LaysC.n172 Tryz.prog Tryz.Nl:={
 mixed:=by kernel_rfl
 f129:=Tryz.func236.trans (congrArg some (by kernel_rfl))
 f171:=Tryz.func64.trans (congrArg some (by kernel_rfl))
 f172:=Tryz.func169.trans (congrArg some (by kernel_rfl))
 f205:=Tryz.func321.trans (congrArg some (by kernel_rfl))
 f243:=Tryz.func107.trans (congrArg some (by kernel_rfl))
 f244:=Tryz.func224.trans (congrArg some (by kernel_rfl))
 f245:=Tryz.func225.trans (congrArg some (by kernel_rfl))
 f246:=Tryz.func162.trans (congrArg some (by kernel_rfl))
 f247:=Tryz.func271.trans (congrArg some (by kernel_rfl))
 f279:=Tryz.func272.trans (congrArg some (by kernel_rfl))
 f280:=Tryz.func273.trans (congrArg some (by kernel_rfl))
 f281:=Tryz.func274.trans (congrArg some (by kernel_rfl))
 f282:=Tryz.func275.trans (congrArg some (by kernel_rfl))
 f283:=Tryz.func210.trans (congrArg some (by kernel_rfl))
 f284:=Tryz.func211.trans (congrArg some (by kernel_rfl))
 f285:=Tryz.func212.trans (congrArg some (by kernel_rfl))
 f286:=Tryz.func213.trans (congrArg some (by kernel_rfl))
 f287:=Tryz.func319.trans (congrArg some (by kernel_rfl))
 f316:=Tryz.func320.trans (congrArg some (by kernel_rfl))
 f317:=Tryz.func258.trans (congrArg some (by kernel_rfl))
 f318:=Tryz.func259.trans (congrArg some (by kernel_rfl))
 f319:=Tryz.func260.trans (congrArg some (by kernel_rfl))
 f320:=Tryz.func261.trans (congrArg some (by kernel_rfl))
 f321:=Tryz.func334.trans (congrArg some (by kernel_rfl))
 f322:=Tryz.func335.trans (congrArg some (by kernel_rfl))
 f337:=Tryz.func315.trans (congrArg some (by kernel_rfl))
 f338:=Tryz.func316.trans (congrArg some (by kernel_rfl))
 t0:=Tryz.underlying0
 a0:=Tryz.isAgg0
 z0:=Tryz.sizeOf0
 v0:=Tryz.zeroValue0
 t2:=Tryz.underlying2
 a2:=Tryz.isAgg2
 z2:=Tryz.sizeOf2
 v2:=Tryz.zeroValue2
 t3:=Tryz.underlying3
 a3:=Tryz.isAgg3
 z3:=Tryz.sizeOf3
 v3:=Tryz.zeroValue3
 t4:=Tryz.underlying4
 a4:=Tryz.isAgg4
 z4:=Tryz.sizeOf4
 v4:=Tryz.zeroValue4
 t5:=Tryz.underlying5
 a5:=Tryz.isAgg5
 z5:=Tryz.sizeOf5
 v5:=Tryz.zeroValue5
 t9:=Tryz.underlying9
 a9:=Tryz.isAgg9
 z9:=Tryz.sizeOf9
 v9:=Tryz.zeroValue9
 t20:=Tryz.underlying20
 a20:=Tryz.isAgg20
 z20:=Tryz.sizeOf20
 v20:=Tryz.zeroValue20
 t21:=Tryz.underlying21
 a21:=Tryz.isAgg21
 z21:=Tryz.sizeOf21
 v21:=Tryz.zeroValue21
 t37:=Tryz.underlying23
 a37:=Tryz.isAgg23
 z37:=Tryz.sizeOf23
 v37:=Tryz.zeroValue23
 t46:=Tryz.underlying171
 a46:=Tryz.isAgg171
 z46:=Tryz.sizeOf171
 v46:=Tryz.zeroValue171
 t51:=Tryz.underlying285
 a51:=Tryz.isAgg285
 z51:=Tryz.sizeOf285
 v51:=Tryz.zeroValue285
 t53:=Tryz.underlying205
 a53:=Tryz.isAgg205
 z53:=Tryz.sizeOf205
 v53:=Tryz.zeroValue205
 t75:=Tryz.underlying167
 a75:=Tryz.isAgg167
 z75:=Tryz.sizeOf167
 v75:=Tryz.zeroValue167
 t76:=Tryz.underlying168
 a76:=Tryz.isAgg168
 z76:=Tryz.sizeOf168
 v76:=Tryz.zeroValue168
 t85:=Tryz.underlying311
 a85:=Tryz.isAgg311
 z85:=Tryz.sizeOf311
 v85:=Tryz.zeroValue311
 t127:=Tryz.underlying219
 a127:=Tryz.isAgg219
 z127:=Tryz.sizeOf219
 v127:=Tryz.zeroValue219
 t143:=Tryz.underlying364
 a143:=Tryz.isAgg364
 z143:=Tryz.sizeOf364
 v143:=Tryz.zeroValue364
 t145:=Tryz.underlying366
 a145:=Tryz.isAgg366
 z145:=Tryz.sizeOf366
 v145:=Tryz.zeroValue366
 t167:=Tryz.underlying310
 a167:=Tryz.isAgg310
 z167:=Tryz.sizeOf310
 v167:=Tryz.zeroValue310
 t168:=Tryz.underlying313
 a168:=Tryz.isAgg313
 z168:=Tryz.sizeOf313
 v168:=Tryz.zeroValue313
 t171:=Tryz.underlying263
 a171:=Tryz.isAgg263
 z171:=Tryz.sizeOf263
 v171:=Tryz.zeroValue263
 t173:=Tryz.underlying266
 a173:=Tryz.isAgg266
 z173:=Tryz.sizeOf266
 v173:=Tryz.zeroValue266
 t175:=Tryz.underlying342
 a175:=Tryz.isAgg342
 z175:=Tryz.sizeOf342
 v175:=Tryz.zeroValue342
 t210:=Tryz.underlying345
 a210:=Tryz.isAgg345
 z210:=Tryz.sizeOf345
 v210:=Tryz.zeroValue345
 t212:=Tryz.underlying305
 a212:=Tryz.isAgg305
 z212:=Tryz.sizeOf305
 v212:=Tryz.zeroValue305
 t213:=Tryz.underlying306
 a213:=Tryz.isAgg306
 z213:=Tryz.sizeOf306
 t232:=Tryz.underlying359
 a232:=Tryz.isAgg359
 z232:=Tryz.sizeOf359
 v232:=Tryz.zeroValue359
 t233:=Tryz.underlying360
 a233:=Tryz.isAgg360
 z233:=Tryz.sizeOf360
 v233:=Tryz.zeroValue360
 g15:=by kernel_rfl
 g16:=by kernel_rfl
 g17:=by kernel_rfl
 g18:=by kernel_rfl
 g19:=by kernel_rfl
 t80:=Tryz.underlying170
 a80:=Tryz.isAgg170
 z80:=Tryz.sizeOf170
 v80:=Tryz.zeroValue170
 i0:=by kernel_rfl
 i2:=by kernel_rfl
 i3:=by kernel_rfl
 i4:=by kernel_rfl
 i5:=by kernel_rfl
 i9:=by kernel_rfl
 i20:=by kernel_rfl
 i21:=by kernel_rfl
 i37:=by kernel_rfl
 i46:=by kernel_rfl
 i51:=by kernel_rfl
 i53:=by kernel_rfl
 i75:=by kernel_rfl
 i76:=by kernel_rfl
 i80:=by kernel_rfl
 i85:=by kernel_rfl
 i127:=by kernel_rfl
 i143:=by kernel_rfl
 i145:=by kernel_rfl
 i167:=by kernel_rfl
 i168:=by kernel_rfl
 i171:=by kernel_rfl
 i173:=by kernel_rfl
 i175:=by kernel_rfl
 i210:=by kernel_rfl
 i212:=by kernel_rfl
 i232:=by kernel_rfl
 i233:=by kernel_rfl
 m15:=by kernel_rfl
 m16:=by kernel_rfl
 m17:=by kernel_rfl
 m18:=by kernel_rfl
 m19:=by kernel_rfl
 c0:=by kernel_rfl
 c2:=by kernel_rfl
 c3:=by kernel_rfl
 c4:=by kernel_rfl
 c5:=by kernel_rfl
 c9:=by kernel_rfl
 c20:=by kernel_rfl
 c21:=by kernel_rfl
 c37:=by kernel_rfl
 c46:=by kernel_rfl
 c51:=by kernel_rfl
 c53:=by kernel_rfl
 c75:=by kernel_rfl
 c76:=by kernel_rfl
 c80:=by kernel_rfl
 c85:=by kernel_rfl
 c127:=by kernel_rfl
 c143:=by kernel_rfl
 c145:=by kernel_rfl
 c167:=by kernel_rfl
 c168:=by kernel_rfl
 c171:=by kernel_rfl
 c173:=by kernel_rfl
 c175:=by kernel_rfl
 c210:=by kernel_rfl
 c212:=by kernel_rfl
 c213:=by kernel_rfl
 c232:=by kernel_rfl
 c233:=by kernel_rfl}
def Tryz.P3:Go.Shelf.Ren:=⟨fun | 153=>167 | 152=>219 | 226=>220 | 227=>221 | 228=>222 | 137=>168 | 119=>267 | 224=>268 | 225=>269 | 217=>223 | 266=>270 | n=>n,fun | 9=>9 | 3=>3 | 4=>4 | 5=>5 | 21=>21 | 117=>272 | 116=>271 | 0=>0 | 46=>171 | 124=>309 | n=>n,fun | n=>n⟩
theorem Tryz.Xw:Go.Proofs.Lays.n153 Tryz.prog Tryz.P3:={
 mixed:=by kernel_rfl
 f119:=Tryz.func267.trans (congrArg some (by kernel_rfl))
 f137:=Tryz.func168.trans (congrArg some (by kernel_rfl))
 f152:=Tryz.func219.trans (congrArg some (by kernel_rfl))
 f153:=Tryz.func167.trans (congrArg some (by kernel_rfl))
 f217:=Tryz.func223.trans (congrArg some (by kernel_rfl))
 f224:=Tryz.func268.trans (congrArg some (by kernel_rfl))
 f225:=Tryz.func269.trans (congrArg some (by kernel_rfl))
 f226:=Tryz.func220.trans (congrArg some (by kernel_rfl))
 f227:=Tryz.func221.trans (congrArg some (by kernel_rfl))
 f228:=Tryz.func222.trans (congrArg some (by kernel_rfl))
 f266:=Tryz.func270.trans (congrArg some (by kernel_rfl))
 t0:=Tryz.underlying0
 a0:=Tryz.isAgg0
 z0:=Tryz.sizeOf0
 v0:=Tryz.zeroValue0
 t3:=Tryz.underlying3
 a3:=Tryz.isAgg3
 z3:=Tryz.sizeOf3
 v3:=Tryz.zeroValue3
 t4:=Tryz.underlying4
 a4:=Tryz.isAgg4
 z4:=Tryz.sizeOf4
 v4:=Tryz.zeroValue4
 t5:=Tryz.underlying5
 a5:=Tryz.isAgg5
 z5:=Tryz.sizeOf5
 v5:=Tryz.zeroValue5
 t9:=Tryz.underlying9
 a9:=Tryz.isAgg9
 z9:=Tryz.sizeOf9
 v9:=Tryz.zeroValue9
 t21:=Tryz.underlying21
 a21:=Tryz.isAgg21
 z21:=Tryz.sizeOf21
 v21:=Tryz.zeroValue21
 t46:=Tryz.underlying171
 a46:=Tryz.isAgg171
 z46:=Tryz.sizeOf171
 v46:=Tryz.zeroValue171
 t116:=Tryz.underlying271
 a116:=Tryz.isAgg271
 z116:=Tryz.sizeOf271
 t117:=Tryz.underlying272
 a117:=Tryz.isAgg272
 z117:=Tryz.sizeOf272
 v117:=Tryz.zeroValue272
 t124:=Tryz.underlying309
 a124:=Tryz.isAgg309
 z124:=Tryz.sizeOf309
 v124:=Tryz.zeroValue309}
end Go.Proofs
end
noncomputable section
namespace Go.Proofs.YtekmbcbgknmhiaaGreatDoor
open Go Go.E Go.RowKit Go.Shelf
def Dt(H:PH):Prop:=
 ((∀ c,c<256→Gn H ⟨Tryz.Ih.g 2,c,none⟩=some (.int .u8 (Lib.firstT c)))∧
 (∀ i,i<16→Gn H ⟨Tryz.Ih.g 3,2 * i,none⟩=some (.int .u8 (Lib.accLo i))∧Gn H ⟨Tryz.Ih.g 3,2 * i+1,none⟩=some (.int .u8 (Lib.accHi i))))∧
 (∀ w, Le H (hp w) → Lib.TabIs Tryz.prog w "internal/strconv.uint64pow10" .u64 Lib.pow10Tab) ∧
 (∃ t p,Gn H ⟨Tryz.Nl.g 15,0,none⟩=some (.iface t p))∧(∃ t p,Gn H ⟨Tryz.Nl.g 16,0,none⟩=some (.iface t p))
theorem Dt.mono{H H':PH}(h:Dt H)(hs:Le H H'):Dt H':=by
 obtain⟨a,h2,⟨t,p,h3⟩,⟨t',p',b⟩⟩:=h;exact⟨⟨fun c hc=>GO hs (a.1 c hc),fun i hi=>⟨GO hs (a.2 i hi).1,GO hs (a.2 i hi).2⟩⟩,fun w hw=>h2 w (hs.trans hw),⟨t,p,GO hs h3⟩,⟨t',p',GO hs b⟩⟩
theorem Dt.Abd{w:World}(h:Dt (hp w)):Lib.Utf8Tabs (Tryz.Ih.g 2) (Tryz.Ih.g 3) w:=⟨h.1.1,h.1.2⟩
def VT(l:List UInt8):Option (Int×Int):=Go.L.AY (l≠[]) (some (((Lib.decodeGo ⟨l.toArray⟩).1:Int),((Lib.decodeGo ⟨l.toArray⟩).2:Int)))
theorem ZA(w:World)(H:PH)(hH:Le H (hp w))(hU:Dt H){u:Value}{l:List UInt8}(ha:AI .byte H u l){r:Int×Int}(h:VT l=some r):
  Ok Tryz.prog 232 [u] w (fun v w'=>Ext w w'∧v=.tuple #[.int .i32 r.1,.int .i64 r.2]):=by
 obtain⟨hk,h⟩:=Go.L.Ac h;obtain rfl:=Option.some.inj h;have hs:(ByteArray.mk l.toArray).size=l.length:=by simp [ByteArray.size]
 obtain⟨a,cap,rfl,h2,h3,f,g⟩:=ha.ex
 cases a with
 | none=>exact absurd (List.eq_nil_of_length_eq_zero (by have:=f rfl;omega)) hk
 | some A=>
  obtain⟨d,i⟩:=g A rfl hk;obtain⟨b,off,sp⟩:=A;simp only at d;subst d
  have hc:=Any7.utf8_DecodeRune Tryz.Xv ⟨l.toArray⟩ b off cap w (hU.mono hH).Abd (fun j hj=>by
   rw [hs] at hj;obtain⟨c,hc,hcell⟩:=i j l[j] (List.getElem?_eq_getElem hj);obtain rfl:c=[.int .u8 (l[j].toNat:Int)]:=hc;have:=cell_of hH (hcell 0 _ rfl);rw [show(Rp.byte).sz=1 from rfl,Nat.mul_one,Nat.add_zero,Addr.add_lit] at this;rw [this];have e:(ByteArray.mk l.toArray).get! j=l[j]:=by simp [ByteArray.get!,hj]
   rw [e])
  rw [hs] at hc;refine⟨⟨Tryz.f232,_,Tryz.func232,rfl,rfl⟩,hc.mono fun e w' he=>?_⟩;obtain⟨rfl,hb⟩:=he;exact⟨_,rfl,Ext.off hb,rfl⟩
end Go.Proofs.YtekmbcbgknmhiaaGreatDoor
end
noncomputable section
namespace Go.Proofs.YtekmbcbgknmhiaaGreatDoor
open Go Go.E Go.RowKit Go.L
set_option maxHeartbeats 1000000
set_option maxRecDepth 10000
open _root_.Go.Proofs.Tryz
def F1(a0:Aas×(List (Int×Int)))(a1:Aas):Option (Int):=
 Option.bind (strings_Compare a0.1 a1) (fun a=>some (a))
theorem JH{b w:World}{H:PH}(hH:Le H (hp b)){O:List AN}{a0:Aas×(List (Int×Int))}{a1:Aas}{va0_1:Value}(hL:AR b (HAppend.hAppend ([]:List AN) O) w)(j:AI (.pair (.int .i64) (.int .i64)) (gz H b w (HAppend.hAppend ([]:List AN) O)) va0_1 (a0.2)){r:Int}(h:F1 a0 a1=some r):
  Ok Tryz.prog 252 [.agg #[Aar a0.1,va0_1],Aar a1] w (fun v w'=>v=No r∧AR b (HAppend.hAppend ([]:List AN) O) w'∧Le (fz w (HAppend.hAppend ([]:List AN) O)) (fz w' (HAppend.hAppend ([]:List AN) O))):=by
 refine A5 (n:=9) [(0,.agg #[Aar a0.1,va0_1]),(1,(Aar a1))] func252 rfl rfl rfl rfl rfl ?_;have hT:=Le.refl (fz w (HAppend.hAppend ([]:List AN) O));refine Al<|Cv (t:=192) rfl rfl rfl hL fun l m a c _=>AB 1 rfl<|Al<|Af (Ag rfl Abf rfl Fo (by decide)) rfl<|Af (Ah 0 rfl AaG rfl a rfl rfl) rfl<|Ar 1 rfl ?_;obtain⟨o,e,h⟩:=Go.L.bind_some h;refine Ax rfl rfl a (Jb _ _ (As hH a) e) ?_;rintro _ p rfl k f d;refine AB 1 rfl<|Az ?_;obtain rfl:=Option.some.inj h;refine An rfl rfl ?_;have g:=f.AP (i:=0) rfl;have hT:=hT.trans (c.trans (d.trans (Am (i:=0) rfl)));exact⟨rfl,g,hT⟩
def B0(a0:List (Aas×(List (Int×Int))))(a1:Aas)(a:Int):Option (Int×Bool):=
 if a<(a0.length:Int) then AY (0≤a∧a<(a0.length:Int)) (Option.bind (F1 ((a0.getD a.toNat default).1,(a0.getD a.toNat default).2) a1) (fun b=>some (a,decide (b=(0:Int))))) else some (a,false)
def Bz(a0:List (Aas×(List (Int×Int))))(a1:Aas):Int×Int→Option ((Int×Int) ⊕ (Int×Bool)):=fun⟨b,a⟩=>
 if b<a then AY (BJ (b+a)) (AY (0≤(IntKind.i64.wrap ((IntKind.u64.wrap (b+a)) / 2))∧(IntKind.i64.wrap ((IntKind.u64.wrap (b+a)) / 2))<(a0.length:Int)) (Option.bind (F1 ((a0.getD ((IntKind.i64.wrap ((IntKind.u64.wrap (b+a)) / 2)).toNat) default).1,(a0.getD ((IntKind.i64.wrap ((IntKind.u64.wrap (b+a)) / 2)).toNat) default).2) a1) (fun c=>if c<(0:Int) then AY (BJ ((IntKind.i64.wrap ((IntKind.u64.wrap (b+a)) / 2))+(1:Int))) (some (Sum.inl (((IntKind.i64.wrap ((IntKind.u64.wrap (b+a)) / 2))+(1:Int)),a))) else some (Sum.inl (b,(IntKind.i64.wrap ((IntKind.u64.wrap (b+a)) / 2))))))) else Option.map Sum.inr ((B0 a0 a1) b)
def B9(a0:List (Aas×(List (Int×Int))))(a1:Aas)(s:Int×Int):Option (Int×Bool):=Go.L.run (Bz a0 a1) s
def B4(a0:List (Aas×(List (Int×Int))))(a1:Aas):Option (Int×Bool):=
 (B9 a0 a1) ((0:Int),(a0.length:Int))
theorem Eb{i w:World}{H:PH}(hH:Le H (hp i)){O:List AN}{a0:List (Aas×(List (Int×Int)))}{a1:Aas}{va0:Value}(hL:AR i (HAppend.hAppend ([]:List AN) O) w)(aa:AI (.pair .st (.vec (.pair (.int .i64) (.int .i64)))) (gz H i w (HAppend.hAppend ([]:List AN) O)) va0 (a0)){r:Int×Bool}(h:B4 a0 a1=some r):
  Ok Tryz.prog 251 [va0,Aar a1,.func (.func 252) #[] #[]] w (fun v w'=>v=.tuple #[No r.1,.bool r.2]∧AR i (HAppend.hAppend ([]:List AN) O) w'∧Le (fz w (HAppend.hAppend ([]:List AN) O)) (fz w' (HAppend.hAppend ([]:List AN) O))):=by
 refine A5 (n:=49) [(0,va0),(1,(Aar a1)),(2,.func (.func 252) #[] #[])] func251 rfl rfl rfl rfl rfl ?_;have hT:=Le.refl (fz w (HAppend.hAppend ([]:List AN) O));refine AD 2 rfl<|Bl 1 rfl<|Af (Bn rfl Abg aa) rfl<|AB 1 rfl<|AD 3 rfl<|Bm (σ:=Int) (fun f=>[(0,va0),(1,(Aar a1)),(2,.func (.func 252) #[] #[]),(8,No (a0.length:Int)),(9,No f)]) (fun f wr=>DM i (HAppend.hAppend ([]:List AN) O) wr fun Oz=>AI (.pair .st (.vec (.pair (.int .i64) (.int .i64)))) (gz H i wr Oz) (va0) (a0)∧Le (fz w (HAppend.hAppend ([]:List AN) O)) (fz wr Oz)∧(B0 a0 a1) f=some r) ?_ ?_
 ·refine A4 ?_;obtain⟨q,h⟩:=Bb h;refine Bu (σ:=Int×Int×Nat) (fun⟨b,a,n⟩=>[(0,va0),(1,(Aar a1)),(2,.func (.func 252) #[] #[]),(8,No (a0.length:Int)),(9,No b),(10,No a)]) (fun⟨b,a,n⟩ wr=>DM i (HAppend.hAppend ([]:List AN) O) wr fun Oz=>AI (.pair .st (.vec (.pair (.int .i64) (.int .i64)))) (gz H i wr Oz) (va0) (a0)∧Le (fz w (HAppend.hAppend ([]:List AN) O)) (fz wr Oz)∧FM (Bz a0 a1) n (b,a)=some r) (fun⟨b,a,n⟩=>n) ((0:Int),(a0.length:Int),q) (.cons rfl (.cons rfl (.cons rfl (.cons rfl (.cons rfl (.cons rfl (Sub.nil _))))))) ⟨hL,aa,hT,h⟩ ?_;rintro⟨b,a,nn48⟩ ai ⟨j,e,hT,h⟩;obtain⟨q,ak,rfl,h,k⟩:=Ba h;refine A8<|AD 3 rfl<|Bg rfl (fun l=>?_) (fun l=>?_)
  ·have h:=A1 l h;refine Av<|Ao<|A4<|Bl 2 rfl ?_;obtain⟨ab,h⟩:=Ac h;refine Af (AK rfl rfl rfl ab) rfl<|Af (ES Aau Abc rfl rfl) rfl<|Af (RW (c:=1) (m:=2) rfl rfl rfl (by decide)) rfl<|Af (ES Abc Aau rfl rfl) rfl<|AB 1 rfl<|Bl 3 rfl ?_;obtain⟨t,h⟩:=Ac h;refine Be rfl rfl Abg Of e ((IntKind.i64.wrap ((IntKind.u64.wrap (b+a)) / 2)).toNat) (Int.toNat_of_nonneg t.1).symm (AZ t) rfl ?_;rintro al _ ⟨_,_,rfl,rfl,⟨e53v1,rfl,e53h1⟩⟩ ac;refine Af (Cd rfl Abf rfl Of ac (As hH j)) rfl<|Ar 1 rfl ?_;obtain⟨am,ad,h⟩:=Go.L.bind_some h;refine DZ rfl rfl rfl (JH (a0:=((a0.getD ((IntKind.i64.wrap ((IntKind.u64.wrap (b+a)) / 2)).toNat) default).1,(a0.getD ((IntKind.i64.wrap ((IntKind.u64.wrap (b+a)) / 2)).toNat) default).2)) (a1:=a1) (O:=(HAppend.hAppend ([]:List AN) O)) hH j e53h1 ad) ?_;rintro _ an ⟨rfl,u,g⟩;refine AB 1 rfl<|Bg rfl (fun o=>?_) (fun o=>?_)
   ·have h:=A1 o h;refine Aq<|Ar 1 rfl ?_;obtain⟨ae,h⟩:=Ac h;refine Af (AK rfl rfl rfl ae) rfl<|Ar 1 rfl<|AL<|AA ?_;have h:=BF.again h k;have e:=e.mono (Ab hH g);have hT:=hT.trans g;refine AO (((IntKind.i64.wrap ((IntKind.u64.wrap (b+a)) / 2))+(1:Int)),a,q) (.cons rfl (.cons rfl (.cons rfl (.cons rfl (.cons rfl (.cons rfl (Sub.nil _))))))) ⟨u,e,hT,h⟩ (Nat.lt_succ_self _)
   have h:=A2 o h;refine Aq<|Ar 2 rfl<|AL<|AA ?_;have h:=BF.again h k;have e:=e.mono (Ab hH g);have hT:=hT.trans g;refine AO (b,(IntKind.i64.wrap ((IntKind.u64.wrap (b+a)) / 2)),q) (.cons rfl (.cons rfl (.cons rfl (.cons rfl (.cons rfl (.cons rfl (Sub.nil _))))))) ⟨u,e,hT,h⟩ (Nat.lt_succ_self _)
  have h:=A2 l h;refine Bq<|AH<|A6 ?_;have h:=BF.out h k;refine Bf<|A9 b (.cons rfl (.cons rfl (.cons rfl (.cons rfl (.cons rfl (Sub.nil _)))))) ⟨j,e,hT,h⟩
 rintro f aj ⟨p,x,hT,h⟩;refine Bl 5 rfl<|AQ (s:=39) rfl (fun d=>?_) (fun d=>?_)
 ·have h:=A1 (of_decide_eq_true d) h;refine Aa rfl rfl d<|Af (Ae rfl) rfl<|Aa rfl rfl d<|Af (Ae rfl) rfl<|Aa rfl rfl d<|Af (Ae rfl) rfl<|Aa rfl rfl d ?_;obtain⟨y,h⟩:=Ac h;refine Be rfl rfl Abg Of x f.toNat (Int.toNat_of_nonneg y.1).symm (AZ y) rfl ?_;rintro ao _ ⟨_,_,rfl,rfl,⟨e65v1,rfl,e65h1⟩⟩ af;refine Aa rfl rfl d<|Af (Cd rfl Abf rfl Of af (As hH p)) rfl<|Aa rfl rfl d<|Af (Ae rfl) rfl<|Aa rfl rfl d ?_;obtain⟨ap,ag,h⟩:=Go.L.bind_some h;refine DZ rfl rfl rfl (JH (a0:=((a0.getD f.toNat default).1,(a0.getD f.toNat default).2)) (a1:=a1) (O:=(HAppend.hAppend ([]:List AN) O)) hH p e65h1 ag) ?_;rintro _ aq ⟨rfl,ah,z⟩;refine Aa rfl rfl d<|Af (Ae rfl) rfl<|Af (A3 rfl d rfl) rfl<|AB 2 rfl<|Az ?_;obtain rfl:=Option.some.inj h;refine An rfl rfl ?_;have hT:=hT.trans z;exact⟨rfl,ah,hT⟩
 have h:=A2 (of_decide_eq_false d) h
 iterate 8 refine Aj rfl rfl d rfl ?_
 refine Af (A7 rfl d rfl) rfl<|AB 2 rfl<|Az ?_;obtain rfl:=Option.some.inj h;refine An rfl rfl ?_;exact⟨rfl,p,hT⟩
def Ii(a0:Int×(List (Aas×(List (Int×Int)))))(a1:Aas):Option ((List (Int×Int))):=
 Option.bind (B4 a0.2 a1) (fun a=>if !a.2 then none else AY (0≤a.1∧a.1<(a0.2.length:Int)) (some ((a0.2.getD a.1.toNat default).2)))
theorem NQ(w:World)(H:PH)(hH:Le H (hp w)){a0:Int×(List (Aas×(List (Int×Int))))}{a1:Aas}{a:Value}(b:AI (.pair .st (.vec (.pair (.int .i64) (.int .i64)))) H a (a0.2)){r:(List (Int×Int))}(h:Ii a0 a1=some r):
  Ok Tryz.prog 194 [.agg #[No a0.1,a],Aar a1] w (fun v w'=>Ext w w'∧∃ g,v=g∧AI (.pair (.int .i64) (.int .i64)) (un H (nw w w')) g (r)):=by
 refine A5 (n:=22) [(0,.agg #[No a0.1,a]),(1,(Aar a1))] func194 rfl rfl rfl rfl rfl ?_;have hL:=AR.start w;refine Al<|Cv (t:=46) rfl rfl rfl hL fun q l e m _=>AB 1 rfl<|Al<|Af (Ag rfl Abh rfl U1 (by decide)) rfl<|Af (Ah 0 rfl Abg rfl e rfl rfl) rfl<|Ar 1 rfl ?_;obtain⟨o,i,h⟩:=Go.L.bind_some h;refine Du rfl rfl (Eb (a0:=a0.2) (a1:=a1) (O:=[.box l [No a0.1,a] 46]) hH e (b.mono (Ai hH)) i) ?_;rintro _ s ⟨rfl,c,p⟩;refine AB 5 rfl<|A8<|AD 2 rfl<|By rfl (fun d=>?_) (fun d=>?_)
 ·have h:=Bv d h
  cases h
 have h:=Bw d h;refine Av<|Ao<|Al<|Af (Ag rfl Abh rfl U1 (by decide)) rfl<|Af (Ah 0 rfl Abg rfl c rfl rfl) rfl<|Ar 1 rfl ?_;obtain⟨f,h⟩:=Ac h;refine Be rfl rfl Abg Of b o.1.toNat (Int.toNat_of_nonneg f.1).symm (AZ f) rfl ?_;rintro u _ ⟨_,_,rfl,rfl,⟨e7v1,rfl,e7h1⟩⟩ j;refine Af (Ag rfl Abf rfl Xi (by decide)) rfl ?_;have k:=j.add 1;refine Af (Bh rfl Aba rfl k (hH.trans c.arg)) rfl<|AB 1 rfl<|Az ?_;obtain rfl:=Option.some.inj h;refine An rfl rfl ?_;exact⟨c.ext,_,rfl,(e7h1.mono (GP hH))⟩
def Ij(a0:Aas):Option (Aas×Int):=
 AY (0≤(0:Int)∧(0:Int)<(a0.length:Int)) (if(48≤((a0.getD ((0:Int).toNat) default).toNat:Int))∧(((a0.getD ((0:Int).toNat) default).toNat:Int)≤57) then AY ((a0.getD ((0:Int).toNat) default).toNat<128) (some ([a0.getD ((0:Int).toNat) default],(1:Int))) else if 97≤((a0.getD ((0:Int).toNat) default).toNat:Int) then if((a0.getD ((0:Int).toNat) default).toNat:Int)≤122 then AY ((a0.getD ((0:Int).toNat) default).toNat<128) (some ([a0.getD ((0:Int).toNat) default],(1:Int))) else(if(65≤((a0.getD ((0:Int).toNat) default).toNat:Int))∧(((a0.getD ((0:Int).toNat) default).toNat:Int)≤90) then AY (((a0.getD ((0:Int).toNat) default - (65:UInt8))+(97:UInt8)).toNat<128) (some ([((a0.getD ((0:Int).toNat) default - (65:UInt8))+(97:UInt8))],(1:Int))) else(if((a0.getD ((0:Int).toNat) default).toNat:Int)<128 then some (([]:Aas),(1:Int)) else Option.bind (VT a0) (fun a=>if(a.1=(65533:Int))∧(a.2=(1:Int)) then some (([]:Aas),(1:Int)) else AY (0≤a.2∧a.2≤(a0.length:Int)) (some ((a0.take a.2.toNat),a.2))))) else if(65≤((a0.getD ((0:Int).toNat) default).toNat:Int))∧(((a0.getD ((0:Int).toNat) default).toNat:Int)≤90) then AY (((a0.getD ((0:Int).toNat) default - (65:UInt8))+(97:UInt8)).toNat<128) (some ([((a0.getD ((0:Int).toNat) default - (65:UInt8))+(97:UInt8))],(1:Int))) else(if((a0.getD ((0:Int).toNat) default).toNat:Int)<128 then some (([]:Aas),(1:Int)) else Option.bind (VT a0) (fun b=>if(b.1=(65533:Int))∧(b.2=(1:Int)) then some (([]:Aas),(1:Int)) else AY (0≤b.2∧b.2≤(a0.length:Int)) (some ((a0.take b.2.toNat),b.2)))))
theorem Qe(w:World)(H:PH)(hH:Le H (hp w))(hU:Dt H){a0:Aas}{e:Value}(d:AI .byte H e (a0)){r:Aas×Int}(h:Ij a0=some r):
  Ok Tryz.prog 181 [e] w (fun v w'=>Ext w w'∧v=.tuple #[Aar r.1,No r.2]):=by
 refine A5 (n:=57) [(0,e)] func181 rfl rfl rfl rfl rfl ?_;have hL:=AR.start w;refine AD 2 rfl<|A8<|Bl 1 rfl ?_;obtain⟨q,h⟩:=Ac h;refine Be rfl rfl AaQ Lj d ((0:Int).toNat) (Int.toNat_of_nonneg q.1).symm (AZ q) rfl ?_;rintro p1 _ rfl ae;refine Af (Bh rfl AaS rfl ae (hH.trans hL.arg)) rfl<|AB 1 rfl<|A4<|Bl 3 rfl<|MU 2 2 rfl rfl rfl rfl rfl rfl<|Ar 1 rfl<|AQ (s:=17) rfl (fun a=>?_) (fun a=>?_)
 ·have h:=A1 (of_decide_eq_true a) h
  iterate 3 refine Aj rfl rfl a rfl ?_
  iterate 2 refine BQ rfl rfl rfl ?_
  refine Aj rfl rfl a rfl<|Af (A3 rfl a rfl) rfl<|AB 1 rfl<|Ce rfl<|Bl 1 rfl ?_;obtain⟨af,h⟩:=Ac h;refine Af (Vb rfl AaS AaG af) rfl<|AB 2 rfl<|Az<|Ay<|Au ?_;obtain rfl:=Option.some.inj h;refine An rfl rfl ?_;exact⟨hL.ext,rfl⟩
 have h:=A2 (of_decide_eq_false a) h;refine Aa rfl rfl a<|Af (Ae rfl) rfl<|Aa rfl rfl a<|Af (Ae rfl) rfl<|Aa rfl rfl a<|Af (Ae rfl) rfl<|AQ (s:=20) rfl (fun c=>?_) (fun c=>?_)
 ·have h:=A1 (of_decide_eq_true c) h;refine Aa rfl rfl c<|Af (Ae rfl) rfl<|Aa rfl rfl c<|Af (Ae rfl) rfl<|Aa rfl rfl a<|Af (A3 rfl c rfl) rfl<|Af (A7 rfl a rfl) rfl<|AB 1 rfl<|Bg rfl (fun p=>?_) (fun p=>?_)
  ·have h:=A1 p h;refine Bl 1 rfl ?_;obtain⟨t,h⟩:=Ac h;refine Af (Vb rfl AaS AaG t) rfl<|AB 2 rfl<|Az<|Ay<|Au ?_;obtain rfl:=Option.some.inj h;refine An rfl rfl ?_;exact⟨hL.ext,rfl⟩
  have h:=A2 p h;refine Bl 3 rfl<|MU 2 2 rfl rfl rfl rfl rfl rfl<|AB 1 rfl<|Bg rfl (fun f=>?_) (fun f=>?_)
  ·have h:=A1 f h;refine Bl 1 rfl<|Af (TC (b:=65) rfl rfl rfl) rfl<|Af (TC (b:=97) rfl rfl rfl) rfl ?_;obtain⟨u,h⟩:=Ac h;refine Af (Vb rfl AaS AaG u) rfl<|AB 2 rfl<|Az<|Ay<|Au ?_;obtain rfl:=Option.some.inj h;refine An rfl rfl ?_;exact⟨hL.ext,rfl⟩
  have h:=A2 f h;refine AD 3 rfl<|Bg rfl (fun g=>?_) (fun g=>?_)
  ·have h:=A1 g h;refine AD 2 rfl<|Az<|Ay<|Au ?_;obtain rfl:=Option.some.inj h;refine An rfl rfl ?_;exact⟨hL.ext,rfl⟩
  have h:=A2 g h;refine Av<|AA<|Ao<|Bl 1 rfl ?_;obtain⟨ak,x,h⟩:=Go.L.bind_some h;refine Ax rfl rfl hL (ZA _ _ (As hH hL) (hU.mono (Ai hH)) (d.mono (Ai hH)) x) ?_;rintro _ al rfl ai i ag;refine AB 5 rfl<|A8<|Bl 3 rfl<|MU 2 2 rfl rfl rfl rfl rfl rfl<|Ad<|Bg rfl (fun j=>?_) (fun j=>?_)
  ·have h:=A1 j h;refine AD 2 rfl<|Az<|Au ?_;obtain rfl:=Option.some.inj h;refine An rfl rfl ?_;exact⟨i.ext,rfl⟩
  have h:=A2 j h;refine Av<|Ao<|Bl 2 rfl ?_;obtain⟨y,h⟩:=Ac h;refine TE rfl rfl AaQ Lj d y rfl fun am z=>Af (M9 rfl AaQ AaS AaG z (hH.trans i.arg)) rfl<|AB 3 rfl<|Az ?_;obtain rfl:=Option.some.inj h;refine An rfl rfl ?_;exact⟨i.ext,rfl⟩
 have h:=A2 (of_decide_eq_false c) h
 iterate 2 refine Aj rfl rfl c rfl ?_
 refine Aa rfl rfl a<|Af (A7 rfl c rfl) rfl<|Af (A7 rfl a rfl) rfl<|AB 1 rfl<|Ch rfl<|Bl 3 rfl<|MU 2 2 rfl rfl rfl rfl rfl rfl<|AB 1 rfl<|Bg rfl (fun k=>?_) (fun k=>?_)
 ·have h:=A1 k h;refine Bl 1 rfl<|Af (TC (b:=65) rfl rfl rfl) rfl<|Af (TC (b:=97) rfl rfl rfl) rfl ?_;obtain⟨aa,h⟩:=Ac h;refine Af (Vb rfl AaS AaG aa) rfl<|AB 2 rfl<|Az<|Ay<|Au ?_;obtain rfl:=Option.some.inj h;refine An rfl rfl ?_;exact⟨hL.ext,rfl⟩
 have h:=A2 k h;refine AD 3 rfl<|Bg rfl (fun l=>?_) (fun l=>?_)
 ·have h:=A1 l h;refine AD 2 rfl<|Az<|Ay<|Au ?_;obtain rfl:=Option.some.inj h;refine An rfl rfl ?_;exact⟨hL.ext,rfl⟩
 have h:=A2 l h;refine Av<|AA<|Ao<|Bl 1 rfl ?_;obtain⟨an,ab,h⟩:=Go.L.bind_some h;refine Ax rfl rfl hL (ZA _ _ (As hH hL) (hU.mono (Ai hH)) (d.mono (Ai hH)) ab) ?_;rintro _ ao rfl aj m ah;refine AB 5 rfl<|A8<|Bl 3 rfl<|MU 2 2 rfl rfl rfl rfl rfl rfl<|Ad<|Bg rfl (fun o=>?_) (fun o=>?_)
 ·have h:=A1 o h;refine AD 2 rfl<|Az<|Au ?_;obtain rfl:=Option.some.inj h;refine An rfl rfl ?_;exact⟨m.ext,rfl⟩
 have h:=A2 o h;refine Av<|Ao<|Bl 2 rfl ?_;obtain⟨ac,h⟩:=Ac h;refine TE rfl rfl AaQ Lj d ac rfl fun ap ad=>Af (M9 rfl AaQ AaS AaG ad (hH.trans m.arg)) rfl<|AB 3 rfl<|Az ?_;obtain rfl:=Option.some.inj h;refine An rfl rfl ?_;exact⟨m.ext,rfl⟩
end Go.Proofs.YtekmbcbgknmhiaaGreatDoor
end
