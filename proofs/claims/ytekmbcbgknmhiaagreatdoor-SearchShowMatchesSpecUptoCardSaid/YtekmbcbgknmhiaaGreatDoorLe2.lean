/- Texts of a claim, merged. -/
import Derived.Test.YtekmbcbgknmhiaaGreatDoorLe1
import Derived.Lib.Builder
import Derived.Lib.UnsafeStr
import Derived.Test.YtekmbcbgknmhiaaGreatDoorRows
import Derived.KernelRfl
import Derived.Lib.OthersKept
import Derived.Lib.SliceRun
import Derived.Shelf.Sort.Plain
import Derived.Shelf.Slices.In.SortNone
import Derived.Shelf.Slices.CompactI
import Derived.Shelf.Slices.CompactS
import Derived.Shelf.SlSortCmp.NoneTotal
import Derived.Shelf.SlGeneric
import Derived.Shelf.Strings.Split
import Derived.Shelf.Strings.OnBuilder
import Derived.Shelf.GgClosure.StringsRunes
import Derived.Shelf.Strings.Runes
import Derived.Shelf.SlIter.Sorted
import Derived.Shelf.Spec.DecodeRune
import Derived.Shelf.Strconv.Itoa3
import Derived.Shelf.Strconv.AtoiAll
import Derived.Shelf.Strings.IndexAnyAll
import Derived.Ground.NamesProg
import Derived.Ground.Names2Prog
import Derived.Ground.Names7Prog
import Derived.Ground.GgwProg
import Derived.Ground.GgzProg
import Derived.Ground.SlsfProg
import Derived.Test.YtekmbcbgknmhiaaGreatDoorProg
set_option linter.unusedVariables false
set_option linter.unusedSimpArgs false
open _root_.Go.Proofs.Tryz renaming underlying58→Aa8,underlying3→AaA,underlying142→AaE,underlying9→AaQ,underlying22→Ab1,underlying162→AbE,underlying164→AbT,underlying23→Abj,underlying0→Abx,underlying4→Aby,underlying20→Abz,underlying205→Ac0,underlying294→Ac1,underlying288→Ac2,underlying289→Ac4,underlying333→Ac5,underlying337→Ac6,underlying357→Ac9,underlying229→AcA,underlying196→AcB,underlying198→AcC,underlying234→AcD,underlying280→AcE,underlying349→AcF,underlying351→AcG,underlying352→AcH,underlying130→AcI,underlying188→AcJ,underlying189→AcK,underlying41→AcL,underlying271→AcM,underlying272→AcN,underlying309→AcO,underlying28→AcP,underlying64→AcQ,underlying26→AcR,underlying109→AcS,underlying167→Aca,underlying168→Acb,underlying219→Acj,underlying261→Ack,underlying21→Acp,underlying260→Acr,underlying5→Acu,underlying171→Acx,underlying285→Acz
noncomputable section
namespace Go.E
open Go Go.RowKit
structure Nb (α:Type) where
 pre:α->List Value
 dat:α->List UInt8
 upd:α->List UInt8->α
 sz:Nat
 len:∀ x,(pre x).length+1=sz
 one:∀ x,∀ u∈pre x,u.oneCell'=true
 Ac7:∀ x d,pre (upd x d)=pre x
 Ac8:∀ x d,dat (upd x d)=d
def Nb.b:Nb (List UInt8):=⟨fun _=>[],fun x=>x,fun _ d=>d,1,fun _=>rfl,(fun _ _ h=>by cases h),fun _ _=>rfl,fun _ _=>rfl⟩
def Nb.s:Nb (Int×List UInt8):=⟨fun x=>[.int .i64 x.1],fun x=>x.2,fun x d=>(x.1,d),2,fun _=>rfl,(fun _ u h=>by simp at h;subst h;rfl),fun _ _=>rfl,fun _ _=>rfl⟩
section
variable {α:Type} (N:Nb α) (e:TypeId)
end
section
variable {α:Type} {N:Nb α} {e:TypeId}
theorem NS:∀ (A T:List BE) (i:Nat),Dx (A++T) (A.length+i)=Dx T i
 | [],T,i=>by rw [List.nil_append,List.length_nil,Nat.zero_add]
 | a::A,T,i=>by rw [List.length_cons,show A.length+1+i=(A.length+i)+1 by omega];exact NS A T i
theorem Tx:∀ (A T:List BE) (i:Nat) (r:BE),CK (A++T) (A.length+i) r=A++CK T i r
 | [],T,i,r=>by rw [List.nil_append,List.length_nil,Nat.zero_add,List.nil_append]
 | a::A,T,i,r=>by rw [List.length_cons,show A.length+1+i=(A.length+i)+1 by omega];exact congrArg (a :: ·) (Tx A T i r)
theorem I9:∀ {A:List BE} {i:Nat} {r:BE} (T:List BE),Dx A i=some r->Dx (A++T) i=some r
 | _::_,0,_,_,h=>h
 | _::A,i+1,_,T,h=>I9 (A:=A) (i:=i) T h
theorem KZ:∀ {A:List BE} {i:Nat} {r:BE} (s:BE) (T:List BE),Dx A i=some r->CK (A++T) i s=CK A i s++T
 | _::_,0,_,_,_,_=>rfl
 | a::A,i+1,_,s,T,h=>congrArg (a :: ·) (KZ (A:=A) (i:=i) s T h)
end
section
variable {P:Program} {n:Sz} {ops:Array Oper} {Q:Exit->Act->World->Prop} {L:Env} {w w0:World} {O:List BE} {rest:List Oper}
 {d:Nat} {ty:TypeId} {pos:String} {af:Array Edge} {α:Type} [Inhabited α] {N:Nb α} {x y:Operand} {vo:Value} {t e eo:TypeId} {A:List BE} {l:List α} {vs:List Value}
end
section
variable {P:Program} {n:Sz} {ops:Array Oper} {Q:Exit->Act->World->Prop} {L:Env} {w w0:World} {rest:List Oper}
 {d d':Nat} {ty ty':TypeId} {pos pos':String} {af af':Array Edge} {α:Type} {N:Nb α} {x:Operand} {v vo:Value} {t e eo:TypeId} {H:PH} {l:List α} {vs:List Value}
end
section
variable {w w' w0:World} {A T O O':List BE} {α:Type} {N:Nb α} {r:Rp α} {vo:Value} {e eo:TypeId} {H:PH} {l:List α} {vs:List Value}
theorem Ty:∀ (A T:List BE) (i:Nat),Kt (A++T) (A.length+i)=A++Kt T i
 | [],T,i=>by rw [List.nil_append,List.length_nil,Nat.zero_add,List.nil_append]
 | a::A,T,i=>by rw [List.length_cons,show A.length+1+i=(A.length+i)+1 by omega];exact congrArg (a :: ·) (Ty A T i)
end
end Go.E
namespace Go.L
def Ct{κ β:Type}[DecidableEq κ](d:β)(k:κ):List (κ×β)->β
 | []=>d
 | (a,y)::l=>if k=a then y else Ct d k l
def DY{κ β:Type}[DecidableEq κ](k:κ)(y:β):List (κ×β)->List (κ×β)
 | []=>[(k,y)]
 | (a,z)::l=>if k=a then(a,y)::l else(a,z)::DY k y l
end Go.L
namespace Go.E
open Go Go.RowKit
def mE{κ:Type}(enc:κ->Value):Nat->List κ->List Value->List MapEntry
 | i,k::l,v::vs=>⟨enc k,v,i⟩::mE enc (i+1) l vs
 | _,_,_=>[]
def mI{κ:Type}[DecidableEq κ](k:κ):List κ->Option Nat
 | []=>none
 | a::l=>if k=a then some 0 else(mI k l).map (· + 1)
section
variable {κ:Type} {enc:κ->Value} {k:κ}
theorem S4{v:Value}:∀ (l:List κ) (vs:List Value) (i:Nat),l.length=vs.length->mE enc i l vs++[⟨enc k,v,i+l.length⟩]=mE enc i (l++[k]) (vs++[v])
 | [],[],i,_=>by simp [mE]
 | a::l,u::vs,i,h=>by
  have:=S4 (v:=v) l vs (i+1) (by simpa using h);simp only [mE,List.cons_append,List.length_cons];rw [<- this,show i+(l.length+1)=i+1+l.length by omega]
theorem OG:∀ (l:List κ) (vs:List Value) (i m:Nat) (a:κ),l.length=vs.length->l[m]? = some a->(mE enc i l vs)[m]? = some ⟨enc a,vs.getD m default,i+m⟩
 | b::l,u::vs,i,0,a,_,h=>by simp at h;subst h;simp [mE]
 | b::l,u::vs,i,m+1,a,hl,h=>by
  have:=OG l vs (i+1) m a (by simpa using hl) (by simpa using h);simp only [mE,List.getElem?_cons_succ,this];simp;omega
theorem RC{v:Value}:∀ (l:List κ) (vs:List Value) (i m:Nat),l.length=vs.length->l[m]? = some k->(mE enc i l vs).modify m (fun e=>{e with key:=enc k,val:=v})=mE enc i l (vs.set m v)
 | b::l,u::vs,i,0,_,h=>by simp at h;subst h;simp [mE]
 | b::l,u::vs,i,m+1,hl,h=>by
  have:=RC (v:=v) l vs (i+1) m (by simpa using hl) (by simpa using h);simp only [mE,List.modify_succ_cons,List.set_cons_succ,this]
theorem OH:∀ (l:List κ) (vs:List Value) (i:Nat),l.length=vs.length->(mE enc i l vs).length=l.length
 | [],[],_,_=>rfl
 | a::l,u::vs,i,h=>by simp [mE,OH l vs (i+1) (by simpa using h)]
end
structure Mb (P:Program) {κ:Type} [DecidableEq κ] (kt:TypeId) (enc:κ->Value):Prop where
 check:∀ (b:Bool) (k:κ) w,(Instr.checkKey b 10000 kt (enc k)).run P w=.ok () w
 bits:∀ k,Instr.sameBits 10000 (enc k) (enc k)=true
 find:∃ dd,P.underlying kt=some dd/\((∀ a b,Instr.sameNow dd (enc a) (enc b)=some (decide (a=b)))\/
  ((∀ a b,Instr.sameNow dd (enc a) (enc b)=none)/\∀ a b w,(Op.equal kt (enc a) (enc b)).run P w=.ok (decide (a=b)) w))
section
variable {P:Program} {κ:Type} [DecidableEq κ] {kt t et:TypeId} {enc:κ->Value} {k:κ}
theorem RD:∀ {l:List κ} {m:Nat},mI k l=some m->m<l.length/\l[m]? = some k
 | a::l,m,h=>by
  simp only [mI] at h
  split at h
  ·rename_i e;cases h;subst e;simp
  ·cases b:mI k l with
   | none=>rw [b] at h;cases h
   | some j=>
    rw [b] at h;cases h;have:=RD b
    simpa using this
theorem Qs{dd:TypeDesc}(h:∀ a b,Instr.sameNow dd (enc a) (enc b)=some (decide (a=b))):∀ (l:List κ) (vs:List Value) (i j:Nat),l.length=vs.length->
  Instr.findNow dd (enc k) (mE enc i l vs) j=some ((mI k l).map fun m=>(j+m,vs.getD m default))
 | [],_,_,_,_=>by simp [mE,Instr.findNow,mI]
 | a::l,v::vs,i,j,hl=>by
  simp only [mE,Instr.findNow,h,mI]
  by_cases e:k=a
  ·simp [e]
  ·simp only [e,decide_false];rw [Qs h l vs (i+1) (j+1) (by simpa using hl)]
   cases mI k l with
   | none=>simp
   | some m=>simp;omega
theorem Nx(h:∀ a b w,(Op.equal kt (enc a) (enc b)).run P w=.ok (decide (a=b)) w)(w:World):∀ (l:List κ) (vs:List Value) (i j:Nat),l.length=vs.length->
  (Instr.findAsking kt (enc k) (mE enc i l vs) j).run P w=.ok ((mI k l).map fun m=>(j+m,vs.getD m default)) w
 | [],_,_,_,_=>by simp [mE,Instr.findAsking,mI]
 | a::l,v::vs,i,j,hl=>by
  simp only [mE,Instr.findAsking,mI,Sem.run_bind,h,Result.andThen]
  by_cases e:k=a
  ·simp [e]
  ·simp only [e,decide_false];rw [if_neg (by simp),Nx h w l vs (i+1) (j+1) (by simpa using hl)]
   cases mI k l with
   | none=>simp
   | some m=>simp;omega
theorem PK(hk:Mb P kt enc){l:List κ}{vs:List Value}(hl:l.length=vs.length)(w:World):
  (Instr.findKey kt (enc k) (mE enc 0 l vs)).run P w=.ok ((mI k l).map fun m=>(m,vs.getD m default)) w:=by
 obtain⟨dd,hd,h⟩:=hk.find;unfold Instr.findKey
 rcases h with h | ⟨b,h2⟩
 ·simp [run_underlying hd,Qs h l vs 0 0 hl]
 ·cases l with
  | nil=>
   have:vs=[]:=List.eq_nil_of_length_eq_zero (by simpa using hl.symm);subst this;simp [run_underlying hd,mE,Instr.findNow,mI]
  | cons a l=>
   cases vs with
   | nil=>cases hl
   | cons v vs=>
    have e:Instr.findNow dd (enc k) (mE enc 0 (a::l) (v::vs)) 0=none:=by simp only [mE,Instr.findNow,b]
    simp only [Sem.run_bind,run_underlying hd,Result.andThen,e];have:=Nx (k:=k) h2 w (a::l) (v::vs) 0 0 hl;rw [this];simp
def Uu(z:Value)(k:κ)(l:List κ)(vs:List Value):Value:=match mI k l with
 | some m=>vs.getD m default
 | none=>z
def Mz(P:Program)(et:TypeId)(z:Value):Prop:=∀ w,(zeroValue et).run P w=.ok z w
theorem Qt{w:World}{b n:Nat}{l:List κ}{vs:List Value}{z:Value}(hk:Mb P kt enc)(ht:P.underlying t=some (.map kt et))(hz:Mz P et z)(hb:w.heap[b]? = some (.map (mE enc 0 l vs).toArray n))(hl:l.length=vs.length):
  (Instr.lookup t (.map (some b)) (enc k) false).run P w=.ok (Uu z k l vs) w:=by
 have hg:(getObj b).run P w=.ok (.map (mE enc 0 l vs).toArray n) w:=by simp [getObj,Sem.run,hb]
 simp only [Instr.lookup,Sem.run_bind,run_underlying ht,Result.andThen,hg,hk.check];simp only [Sem.run_pure];rw [PK hk hl];unfold Uu
 cases mI k l with
 | some m=>simp
 | none=>simp [hz w]
def upK(k:κ)(l:List κ):List κ:=match mI k l with
 | some _=>l
 | none=>l++[k]
def Uv(k:κ)(v:Value)(l:List κ)(vs:List Value):List Value:=match mI k l with
 | some m=>vs.set m v
 | none=>vs++[v]
theorem AaT{v:Value}{l:List κ}{vs:List Value}(hl:l.length=vs.length):(upK k l).length=(Uv k v l vs).length:=by
 unfold upK Uv
 cases mI k l <;> simp [hl]
theorem Uw{w:World}{b:Nat}{l:List κ}{vs:List Value}{v:Value}(hk:Mb P kt enc)(ht:P.underlying t=some (.map kt et))(hb:w.heap[b]? = some (.map (mE enc 0 l vs).toArray l.length))(hl:l.length=vs.length):
  (Instr.mapUpdate t (.map (some b)) (enc k) v).run P w=.ok () (w.putObj b (.map (mE enc 0 (upK k l) (Uv k v l vs)).toArray (upK k l).length)):=by
 have hg:(getObj b).run P w=.ok (.map (mE enc 0 l vs).toArray l.length) w:=by simp [getObj,Sem.run,hb]
 have hs:∀ o,(setObj b o).run P w=.ok () (w.putObj b o):=fun o=>by simp [setObj,Sem.run,hb,World.putObj]
 simp only [Instr.mapUpdate,Sem.run_bind,run_underlying ht,Result.andThen,hg,hk.check];rw [PK hk hl];unfold upK Uv
 cases hm:mI k l with
 | some m=>
  obtain⟨c,h2⟩:=RD hm;have he:=OG (enc:=enc) l vs 0 m k hl h2;simp only [Option.map_some,Sem.run_bind,Result.andThen,List.getElem?_toArray,he,Option.getD_some,Instr.keyThatStays,hk.bits,if_true];simp only [Sem.run_pure];have a:(mE enc 0 l vs).toArray.modify m (fun e=>{e with key:=enc k,val:=v})=(mE enc 0 l (vs.set m v)).toArray:=by rw [List.modify_toArray,RC l vs 0 m hl h2]
  rw [a];exact hs _
 | none=>
  have hp:=S4 (enc:=enc) (k:=k) (v:=v) l vs 0 hl;rw [Nat.zero_add] at hp;simp only [Option.map_none,List.push_toArray];rw [hp,hs];simp
end
section
variable {κ β:Type} [DecidableEq κ] {k:κ} {z:Value} {enc:κ->Value} {ev':β->Value}
theorem PL:∀ {l:List (κ×β)} (d:β),mI k (l.map Prod.fst)=none->Go.L.Ct d k l=d
 | [],_,_=>rfl
 | (a,y)::l,d,h=>by
  simp only [List.map_cons,mI] at h
  split at h
  ·cases h
  ·rename_i e;simp only [Go.L.Ct,if_neg e];exact PL d (by cases b:mI k (l.map Prod.fst) <;> simp_all)
theorem PM:∀ {l:List (κ×β)} {m:Nat} (d:β),mI k (l.map Prod.fst)=some m->l[m]? = some (k,Go.L.Ct d k l)
 | (a,y)::l,m,d,h=>by
  simp only [List.map_cons,mI] at h
  split at h
  ·rename_i e;cases h;subst e;simp [Go.L.Ct]
  ·rename_i e
   cases b:mI k (l.map Prod.fst) with
   | none=>rw [b] at h;cases h
   | some j=>
    rw [b] at h;cases h
    simpa [Go.L.Ct,if_neg e] using PM d b
theorem MW{y:β}:∀ {l:List (κ×β)},mI k (l.map Prod.fst)=none->Go.L.DY k y l=l++[(k,y)]
 | [],_=>rfl
 | (a,x)::l,h=>by
  simp only [List.map_cons,mI] at h
  split at h
  ·cases h
  ·rename_i e;simp only [Go.L.DY,if_neg e,List.cons_append];rw [MW (by cases b:mI k (l.map Prod.fst) <;> simp_all)]
theorem MX{y:β}:∀ {l:List (κ×β)} {m:Nat},mI k (l.map Prod.fst)=some m->Go.L.DY k y l=l.set m (k,y)
 | (a,x)::l,m,h=>by
  simp only [List.map_cons,mI] at h
  split at h
  ·rename_i e;cases h;subst e;simp [Go.L.DY]
  ·rename_i e
   cases b:mI k (l.map Prod.fst) with
   | none=>rw [b] at h;cases h
   | some j=>
    rw [b] at h;cases h;simp only [Go.L.DY,if_neg e];rw [MX b]
    rfl
theorem Qu{y:β}{l:List (κ×β)}:upK k (l.map Prod.fst)=(Go.L.DY k y l).map Prod.fst:=by
 unfold upK
 cases h:mI k (l.map Prod.fst) with
 | none=>rw [MW h];simp
 | some m=>
  rw [MX h];obtain⟨b,h2⟩:=RD h;simp only [List.map_set];obtain⟨h3,a⟩:=List.getElem?_eq_some_iff.1 h2
  conv=>lhs;rw [<- List.set_getElem_self h3,a]
end
abbrev Ny{κ β:Type}(enc:κ->Value)(b:Nat)(l:List (κ×β))(vs:List Value):BE:=.obj b (.map (mE enc 0 (l.map Prod.fst) vs).toArray l.length)
section
variable {P:Program} {n:Sz} {ops:Array Oper} {Q:Exit->Act->World->Prop} {L:Env} {w w0:World} {O:List BE} {rest:List Oper} {d:Nat} {ty t kt et:TypeId} {pos:String} {af:Array Edge} {x y x':Operand}
 {κ β:Type} [DecidableEq κ] {enc:κ->Value} {ev':β->Value} {l:List (κ×β)} {k:κ} {H:PH}
omit [DecidableEq κ] in
theorem RE[Dr](enc:κ->Value)(β:Type)(hn:Nat.blt d n.n=true)(hL:AU w0 O w)
  (h:∀ w' b,AU w0 (Ny enc b ([]:List (κ×β)) []::O) w'->Le (fz w O) (fz w' (Ny enc b ([]:List (κ×β)) []::O))->S P n ops Q rest ((d,.map (some b))::L) w'):S P n ops Q (⟨some d,.makeMap t none,ty,pos,af,none⟩::rest) L w:=by
 have hb:∀ b,(BE.obj w.heap.size (.map (mE enc 0 (([]:List (κ×β)).map Prod.fst) []).toArray ([]:List (κ×β)).length)).block=some b->w.heap.size<=b:=fun b e=>by cases e;exact Nat.le_refl _
 refine Dl (v:=.map (some w.heap.size)) (w':=w.alloc (.map #[] 0)) rfl rfl hn (fun ρ hρ=>?_) (h _ _ (hL.new (C2 w _) (World.alloc_heap_new w _) hb) (N6 hL (C2 w (.map #[] 0)) hb));simp [execOp,Instr.makeMap,newObj,Sem.run]
end
section
variable {κ α:Type} (cw:α->List Value) (e:TypeId) (sz:Nat)
def mR(x:List α)(v:Value):BE:=.row v e sz x.length (x.flatMap cw)
def mT:List (κ×List α)->List Value->List BE
 | x::l,v::vs=>mR cw e sz x.2 v::mT l vs
 | _,_=>[]
end
section
variable {κ α:Type} {cw:α->List Value} {e:TypeId} {sz:Nat}
theorem Xq:∀ {l:List (κ×List α)} {vs:List Value},l.length=vs.length->∀ {i:Nat} {k:κ} {x:List α},l[i]? = some (k,x)->Dx (mT cw e sz l vs) i=some (mR cw e sz x (vs.getD i default))
 | y::l,v::vs,h,0,k,x,hx=>by simp at hx;subst hx;rfl
 | y::l,v::vs,h,i+1,k,x,hx=>by
  have:=Xq (l:=l) (vs:=vs) (by simpa using h) (i:=i) (by simpa using hx)
  simpa [mT,Dx] using this
theorem Xr:∀ {l:List (κ×List α)} {vs:List Value},l.length=vs.length->∀ {i:Nat} (k:κ) (x:List α) (v:Value),i<l.length->CK (mT cw e sz l vs) i (mR cw e sz x v)=mT cw e sz (l.set i (k,x)) (vs.set i v)
 | y::l,u::vs,h,0,k,x,v,_=>rfl
 | y::l,u::vs,h,i+1,k,x,v,hi=>by
  have:=Xr (l:=l) (vs:=vs) (by simpa using h) (i:=i) k x v (by simpa using hi);simp [mT,CK,this]
theorem S5(k:κ)(x:List α)(v:Value):∀ {l:List (κ×List α)} {vs:List Value},l.length=vs.length->mT cw e sz (l++[(k,x)]) (vs++[v])=mT cw e sz l vs++[mR cw e sz x v]
 | [],[],_=>rfl
 | y::l,u::vs,h=>by
  have:=S5 k x v (l:=l) (vs:=vs) (by simpa using h);simp [mT,this]
end
section
variable {P:Program} {n:Sz} {ops:Array Oper} {Q:Exit->Act->World->Prop} {L:Env} {w w0:World} {O:List BE} {rest:List Oper} {d:Nat} {ty ty' t mt kt et e:TypeId} {pos pos':String} {af af':Array Edge} {x y x' m':Operand}
 {κ α:Type} [DecidableEq κ] {enc:κ->Value} {cw:α->List Value} {sz:Nat} {l:List (κ×List α)} {vs:List Value} {k:κ} {H:PH} {A:List BE}
def AaU(cw:α->List Value)(e:TypeId)(sz:Nat)(l:List (κ×List α))(vs:List Value)(k:κ)(y:List α)(v:Value)(T:List BE):Prop:=
 v.oneCell'=true/\l.length=vs.length/\T.Perm (mT cw e sz (Go.L.DY k y l) (Uv k v (l.map Prod.fst) vs))
theorem Xs[Dr]{r:Rp α}{bt:Nat}{zz u:Value}{z:α}(hr:∀ G (x:α) c,r.rel G x c↔c=cw x)(hsz:r.sz=sz)(hx:ev L x=some (Uu (.slice none 0 0) k (l.map Prod.fst) vs))(hy:ev L y=some u)(ht:P.underlying t=some (.slice e))(hz:Zr P e zz sz bt)(hzs:zz.cells.size=sz)(g:0<sz)(hn:Nat.blt d n.n=true)
  (hH:Le H (hp w0)) (hL:AU w0 (A++mT cw e sz l vs) w) (hl:l.length=vs.length) (hu:AA r (gz H w0 w (A++mT cw e sz l vs)) u [z]) (hby:Ij bt ((Go.L.Ct [] k l).length+1))
  (h:∀ v' w' T,AaU cw e sz l vs k (Go.L.Ct [] k l++[z]) v' T->AU w0 (A++T) w'->Le (fz w (A++mT cw e sz l vs)) (fz w' (A++T))->S P n ops Q rest ((d,v')::L) w') :
  S P n ops Q (⟨some d,.call ⟨.builtin .append,#[x,y],#[t,t]⟩,ty,pos,af,none⟩::rest) L w:=by
 have hel:∃ news,news=cw z/\Src (hp w) sz u 1 news:=by
  obtain⟨news,b,h2⟩:=hu.elems
  have h3:news=cw z:=by
   cases b with
   | cons hc ht=>cases ht;rw [List.append_nil];exact(hr _ _ _).1 hc
  rw [hsz] at h2;exact⟨news,h3,h2.mono (Al hH hL)⟩
 obtain⟨news,rfl,hsrc⟩:=hel;have hone:∀ c∈cw z,c.oneCell'=true:=fun c hc=>r.one (H:=H) ((hr H z (cw z)).2 rfl) c hc
 cases hmi:mI k (l.map Prod.fst) with
 | some m=>
  obtain⟨b,h2⟩:=RD hmi;have h1':m<l.length:=by simpa using b
  have hg:=PM ([]:List α) hmi;have hrow:=Xq (cw:=cw) (e:=e) (sz:=sz) hl hg;have hlk:Uu (.slice none 0 0) k (l.map Prod.fst) vs=vs.getD m default:=by unfold Uu;rw [hmi]
  rw [hlk] at hx;have hO:Dx (A++mT cw e sz l vs) (A.length+m)=some (.row (vs.getD m default) e sz (Go.L.Ct [] k l).length ((Go.L.Ct [] k l).flatMap cw)):=by rw [NS];exact hrow
  refine Qg (A.length+m) hx hy ht hz hzs g hn hL hO hsrc hone hby fun v' w' hL' hle'=>?_;have p:(.row v' e sz ((Go.L.Ct [] k l).length+1) ((Go.L.Ct [] k l).flatMap cw++cw z):BE)=mR cw e sz (Go.L.Ct [] k l++[z]) v':=by simp [mR]
  rw [p,Tx,Xr hl k _ _ h1'] at hL' hle';have f:Uv k v' (l.map Prod.fst) vs=vs.set m v':=by unfold Uv;rw [hmi]
  refine h v' w' _ ⟨?_,hl,?_⟩ hL' hle'
  ·have j:(l.set m (k,Go.L.Ct [] k l++[z])).length=(vs.set m v').length:=by simp [hl]
   have o:(l.set m (k,Go.L.Ct [] k l++[z]))[m]? = some (k,Go.L.Ct [] k l++[z]):=by simp [h1']
   have a:=Xq (cw:=cw) (e:=e) (sz:=sz) j o;have hgv:(vs.set m v').getD m default=v':=by simp [List.getD_eq_getElem?_getD,show m<vs.length by omega]
   rw [hgv] at a;have:=hL'.at (i:=A.length+m) (r:=mR cw e sz (Go.L.Ct [] k l++[z]) v') (by rw [NS];exact a);exact row_one this
  ·rw [f,MX hmi]
 | none=>
  have hg:=PL ([]:List α) hmi;have hlk:Uu (.slice none 0 0) k (l.map Prod.fst) vs=.slice none 0 0:=by unfold Uu;rw [hmi]
  rw [hlk] at hx;have hnil:=PI hL e sz;have hby':Ij bt (0+1):=by rw [hg] at hby;exact hby
  refine Qg 0 hx hy ht hz hzs g hn hnil.1 rfl hsrc hone hby' fun v' w' hL' hle'=>?_
  have hp:(A++(mT cw e sz l vs++[mR cw e sz [z] v'])).Perm (.row v' e sz (0+1) ([]++cw z)::(A++mT cw e sz l vs)):=by
   rw [<- List.append_assoc];have:(mR cw e sz [z] v':BE)=.row v' e sz (0+1) ([]++cw z):=by simp [mR]
   rw [this];exact List.perm_append_singleton _ _
  have f:Uv k v' (l.map Prod.fst) vs=vs++[v']:=by unfold Uv;rw [hmi]
  refine h v' w' (mT cw e sz l vs++[mR cw e sz [z] v']) ⟨row_one (hL'.at (i:=0) rfl),hl,?_⟩ (hL'.perm hp) ?_
  ·rw [f,MW hmi,hg,List.nil_append,S5 k [z] v' hl]
  ·rw [HG hp];exact hnil.2.trans hle'
theorem AaV[Dr](ib:Nat){b:Nat}{v:Value}{yl:List α}{T:List BE}(hpd:AaU cw e sz l vs k yl v T)(hm:ev L m'=some (.map (some b)))(hkx:ev L x'=some (enc k))(hv:ev L x=some v)(hmt:P.underlying mt=some (.map kt et))(hk:Mb P kt enc)
  (hL:AU w0 (A++T) w) (hib:Dx A ib=some (Ny enc b l vs))
  (h:∀ vs' w',(Go.L.DY k yl l).length=vs'.length->AU w0 (CK A ib (Ny enc b (Go.L.DY k yl l) vs')++mT cw e sz (Go.L.DY k yl l) vs') w'->
   Le (fz w (A++T)) (fz w' (CK A ib (Ny enc b (Go.L.DY k yl l) vs')++mT cw e sz (Go.L.DY k yl l) vs'))->S P n ops Q rest L w') :
  S P n ops Q (⟨none,.mapUpdate mt m' x' x,ty,pos,af,none⟩::rest) L w:=by
 obtain⟨_,hl,hpm⟩:=hpd;have hb:w.heap[b]? = some (.map (mE enc 0 (l.map Prod.fst) vs).toArray l.length):=hL.at (I9 T hib);have hur:=Uw (k:=k) (v:=v) (l:=l.map Prod.fst) (vs:=vs) hk hmt (by rw [List.length_map];exact hb) (by simp [hl]);rw [Qu (y:=yl),List.length_map] at hur;have hp:=hL.putAt (.map (mE enc 0 ((Go.L.DY k yl l).map Prod.fst) (Uv k v (l.map Prod.fst) vs)).toArray (Go.L.DY k yl l).length) (I9 T hib);rw [KZ _ _ hib] at hp;have a:=List.Perm.append_left (CK A ib (Ny enc b (Go.L.DY k yl l) (Uv k v (l.map Prod.fst) vs))) hpm.symm;have hlen:=AaT (k:=k) (v:=v) (l:=l.map Prod.fst) (vs:=vs) (by simp [hl]);rw [Qu (y:=yl),List.length_map] at hlen;refine KW (w':=_) rfl rfl (fun ρ hρ=>?_) (h (Uv k v (l.map Prod.fst) vs) _ hlen (hp.1.perm a) ?_)
 ·simp [execOp,hρ m' _ hm,hρ x' _ hkx,hρ x _ hv,hur]
 ·rw [HG a];exact hp.2
end
def Rr{κ β:Type}(enc:κ->Value)(r:Rp β)(H:PH)(v:Value)(l:List (κ×β)):Prop:=
 ∃ b vs,v=.map (some b)/\H b=some (.map (mE enc 0 (l.map Prod.fst) vs).toArray l.length)/\l.length=vs.length/\∀ i x,l[i]? = some x->r.rel H x.2 [vs.getD i default]
theorem Rr.mono{κ β:Type}{enc:κ->Value}{r:Rp β}{H H':PH}{v:Value}{l:List (κ×β)}(h:Rr enc r H v l)(hs:Le H H'):Rr enc r H' v l:=by
 obtain⟨b,vs,a,h2,h3,c⟩:=h;exact⟨b,vs,a,hs _ _ h2,h3,fun i x hx=>r.mono hs (c i x hx)⟩
section
variable {P:Program} {L:Env} {w w0:World} {ty t kt et e:TypeId} {x y:Operand} {κ α:Type} [DecidableEq κ] {enc:κ->Value} {cw:α->List Value} {r:Rp α} {sz:Nat} {l:List (κ×List α)} {vs:List Value} {k:κ} {H:PH} {A:List BE}
omit [DecidableEq κ] in
theorem Vq[Dr](hsz:r.sz=sz)(hr:∀ G (x:α) c,r.rel G x c↔c=cw x)(hH:Le H (hp w0)):∀ {l:List (κ×List α)} {vs:List Value},l.length=vs.length->AU w0 (A++mT cw e sz l vs) w->AU w0 A w/\Le (fz w (A++mT cw e sz l vs)) (fz w A)/\∀ i x,l[i]? = some x->AA r (gz H w0 w A) (vs.getD i default) x.2
 | [],[],_,hL=>⟨by simpa [mT] using hL,by simp only [mT,List.append_nil];exact Le.refl _,fun i x hx=>by cases hx⟩
 | y::l,v::vs,hn,hL=>by
  have hi:Dx (A++mT cw e sz (y::l) (v::vs)) (A.length+0)=some (.row v e r.sz y.2.length (y.2.flatMap cw)):=by rw [NS,hsz];rfl
  have hel:AF r (gz H w0 w (A++mT cw e sz (y::l) (v::vs))) y.2 (y.2.flatMap cw):=by
   generalize gz H w0 w (A++mT cw e sz (y::l) (v::vs))=G
   induction y.2 with
   | nil=>exact .nil
   | cons a m ih=>rw [List.flatMap_cons];exact .cons ((hr _ _ _).2 rfl) ih
  have hv:=hL.C8 hH hi hel;have b:=hL.AV hi;have d:=An (w:=w) hi;rw [Ty] at hv b d;obtain⟨f,h2,h3⟩:=Vq hsz hr hH (l:=l) (vs:=vs) (by simpa using hn) b;refine⟨f,d.trans h2,fun i x hx=>?_⟩
  cases i with
  | zero=>simp at hx;subst hx;exact hv.mono (Aa hH h2)
  | succ i=>simpa using h3 i x (by simpa using hx)
 | [],_::_,h,_=>by cases h
 | _::_,[],h,_=>by cases h
omit [DecidableEq κ] in
theorem Vr[Dr](ib:Nat){b:Nat}(hsz:r.sz=sz)(hr:∀ G (x:α) c,r.rel G x c↔c=cw x)(hH:Le H (hp w0))(hl:l.length=vs.length)(hL:AU w0 (A++mT cw e sz l vs) w)(hib:Dx A ib=some (Ny enc b l vs)):
  AU w0 (Kt A ib) w/\Le (fz w (A++mT cw e sz l vs)) (fz w (Kt A ib))/\Rr enc (.vec r) (gz H w0 w (Kt A ib)) (.map (some b)) l:=by
 obtain⟨a,h2,h3⟩:=Vq hsz hr hH hl hL;have d:=An (w:=w) hib;have hb:=a.at hib;refine⟨a.AV hib,h2.trans d,b,vs,rfl,?_,hl,fun i x hx=>⟨_,rfl,(h3 i x hx).mono (Aa hH d)⟩⟩;have hge:=a.own _ ((Dy hib).mem_iff.2 (.head _)) b rfl;have f:fz w (Kt A ib) b=w.heap[b]?:=Qd hib rfl a.YN;refine NP b _ ?_;unfold nf;rw [if_pos hge,f];exact hb
theorem AbD[Dr]{v:Value}(hm:Rr enc (.vec r) H v l)(hk:Mb P kt enc)(ht:P.underlying t=some (.map kt et))(hz:Mz P et (.slice none 0 0))(hx:ev L x=some v)(hy:ev L y=some (enc k))(hs:Le H (hp w)):
  ∃ u,Bt P L w (.lookup t x y false) ty u/\AA r H u (Go.L.Ct [] k l):=by
 obtain⟨b,vs,rfl,h2,h3,d⟩:=hm;refine⟨Uu (.slice none 0 0) k (l.map Prod.fst) vs,fun w' hx' ρ hρ dst pos af g=>?_,?_⟩
 ·have:=Qt (k:=k) (l:=l.map Prod.fst) (vs:=vs) hk ht hz (hx'.le _ _ (hs _ _ h2)) (by simp [h3]);simp [execOp,hρ x _ hx,hρ y _ hy,this]
 ·unfold Uu
  cases hmi:mI k (l.map Prod.fst) with
  | none=>rw [PL [] hmi];exact AA.nil r H
  | some m=>
   obtain⟨u,a,c⟩:=d m _ (PM [] hmi);simp only [List.cons.injEq,and_true] at a
   show AA r H (vs.getD m default) _
   rw [a];exact c
end
theorem Tz(a b:List UInt8):((⟨a.toArray⟩:ByteArray)==⟨b.toArray⟩)=decide (a=b):=by
 have:((⟨a.toArray⟩:ByteArray)==⟨b.toArray⟩)=(a.toArray==b.toArray):=rfl;rw [this,Bool.eq_iff_iff];simp
def encS(s:List UInt8):Value:=.string ⟨s.toArray⟩
theorem VX{P:Program}{kt:TypeId}(hd:P.underlying kt=some .string):Mb P kt encS:=
 ⟨fun b k w=>by
   obtain⟨d,he⟩:∃ d,10000=d+1:=⟨9999,rfl⟩;rw [he];simp [Instr.checkKey,encS,run_underlying hd],
  fun k=>by simp [Instr.sameBits,encS,Tz],
  ⟨_,hd,.inl fun a b=>by simp only [Instr.sameNow,encS,Tz]⟩⟩
section
variable {P:Program} {n:Sz} {ops:Array Oper} {Q:Exit->Act->World->Prop} {L:Env} {w:World} {rest:List Oper} {d:Nat} {ty t kt et:TypeId} {pos:String} {af:Array Edge} {x y:Operand}
 {κ α:Type} [DecidableEq κ] {enc:κ->Value} {r:Rp α} {l:List (κ×List α)} {k:κ} {H:PH} {v:Value}
theorem Vs[Dr](hx:ev L x=some v)(hy:ev L y=some (enc k))(ht:P.underlying t=some (.map kt et))(hk:Mb P kt enc)(hz:Mz P et (.slice none 0 0))(hm:Rr enc (.vec r) H v l)(hs:Le H (hp w))(hn:Nat.blt d n.n=true)
  (h:∀ u,AA r H u (Go.L.Ct [] k l)->S P n ops Q rest ((d,u)::L) w):S P n ops Q (⟨some d,.lookup t x y false,ty,pos,af,none⟩::rest) L w:=by
 obtain⟨u,a,h2⟩:=AbD (ty:=ty) hm hk ht hz hx hy hs;exact Ah a hn (h u h2)
end
abbrev VY(h:Int×Int):List Value:=[.int .i64 h.1,.int .i64 h.2]
theorem Xt:∀ (G:PH) (x:Int×Int) (c:List Value),(Rp.pair (.int .i64) (.int .i64)).rel G x c↔c=VY x:=
 fun _ _ _=>⟨fun⟨_,_,h,a,h2⟩=>by subst a;subst h2;exact h,fun h=>⟨_,_,h,rfl,rfl⟩⟩
abbrev cwI(h:Int):List Value:=[.int .i64 h]
theorem Aa2:∀ (G:PH) (x:Int) (c:List Value),(Rp.int .i64).rel G x c↔c=cwI x:=fun _ _ _=>Iff.rfl
end Go.E
namespace Go.E
open Go Go.RowKit
def Qw(ops:Array Oper)(j:Nat):Bool:=match ops[j]? with
 | some oj=>(List.range ops.size).all fun k=>k==j||oj.after.any fun e=>Region.binds .any e&&e.on==k
 | none=>false
theorem VZ{ops:Array Oper}{i j:Nat}{oj:Oper}(hj:ops[j]? = some oj)(hi:i<ops.size)(hne:i≠j)(hnot:∀ e∈oj.after,Region.binds .any e=true->e.on≠i):Qw ops j=false:=by
 unfold Qw;rw [hj];simp only
 cases h:(List.range ops.size).all (fun k=>k==j||oj.after.any fun e=>Region.binds .any e&&e.on==k) with
 | false=>rfl
 | true=>
  have a:=List.all_eq_true.1 h i (List.mem_range.2 hi);simp only [Bool.or_eq_true,beq_iff_eq,hne,false_or] at a;obtain⟨e,he,hb⟩:=Array.any_eq_true'.1 a;simp only [Bool.and_eq_true,beq_iff_eq] at hb;exact absurd hb.2 (hnot e he hb.1)
def YP(ops:Array Oper)(j k:Nat):Bool:=match ops[j]? with
 | some oj=>oj.after.any fun e=>Region.binds .any e&&e.on==k
 | none=>false
def Vt(ops:Array Oper)(j:Nat):List Nat->Bool
 | []=>true
 | x::r=>(YP ops j x||r.any fun y=>YP ops y x)&&Vt ops j r
def RF(ops:Array Oper)(j:Nat)(c:List Nat):Bool:=Vt ops j c&&(List.range ops.size).all fun k=>k==j||c.contains k||YP ops k j
def ClP(ops:Array Oper)(listed:Array Bool):Prop:=∀ k x,YP ops k x=true->listed.getD k true=true->listed.getD x true=true
def ClB(ops:Array Oper)(listed:Array Bool):Bool:=Nat.ble listed.size ops.size&&(List.range ops.size).all fun k=>!(listed.getD k true)||(List.range ops.size).all fun x=>!(YP ops k x)||listed.getD x true
theorem Xu{ops:Array Oper}{listed:Array Bool}(h:ClB ops listed=true):ClP ops listed:=fun k x hd hk=>by
 simp only [ClB,Bool.and_eq_true,List.all_eq_true,List.mem_range,Bool.or_eq_true,Bool.not_eq_true'] at h
 have hk':k<ops.size:=by
  rcases Nat.lt_or_ge k ops.size with a | a
  ·exact a
  ·simp [YP,Array.getElem?_eq_none a] at hd
 rcases Nat.lt_or_ge x ops.size with hx | hx
 ·rcases h.2 k hk' with a | a
  ·rw [a] at hk;cases hk
  ·rcases a x hx with h2 | h2
   ·rw [h2] at hd;cases hd
   ·exact h2
 ·have:=Nat.le_of_ble_eq_true h.1;rw [Array.getD_eq_getD_getElem?,Array.getElem?_eq_none (by omega)];rfl
theorem Vu{l:Array Bool}{k:Nat}(h:l.getD k false=true):l.getD k true=true:=by
 rw [Array.getD_eq_getD_getElem?] at *
 cases hq:l[k]? with
 | none=>rfl
 | some b=>rw [hq] at h;exact h
theorem Pj{ops:Array Oper}{listed:Array Bool}{j:Nat}(hc:ClP ops listed)(hj:∀ x,YP ops j x=true->listed.getD x true=true):∀ (c:List Nat),Vt ops j c=true->∀ x∈c,listed.getD x true=true
 | [],_,x,hx=>by cases hx
 | y::r,h,x,hx=>by
  simp only [Vt,Bool.and_eq_true,Bool.or_eq_true,List.any_eq_true] at h;have ih:=Pj hc hj r h.2
  rcases List.mem_cons.1 hx with rfl | hx
  ·rcases h.1 with a | ⟨z,hz,a⟩
   ·exact hj _ a
   ·exact hc z _ a (ih z hz)
  ·exact ih x hx
section
variable (Inv:World->Prop) (P:Program) (ops:Array Oper) (Q:Exit->Act->World->Prop)
def KM:Nat->Array Bool->Act->World->Prop
 | 0,listed,a,w=>Region.ready .any ops listed=[]/\Q .normal a w
 | m+1,listed,a,w=>(Region.ready .any ops listed=[]->Q .normal a w)/\
  ∀ i∈Region.ready .any ops listed,wpOp P ops Q i (fun a' w'=>(Qw ops i=true\/(∃ c,RF ops i c=true)\/Inv w')/\KM m (listed.setIfInBounds i true) a' w') a w
def IX(o:Oper)(v:Value)(a:Act):Prop:=
 (Region.wanted o (yielded ops a.tmps)=true/\∀ w,Inv w->(execOp a.eval o).run P w=.ok (.value v) w)\/
 (Region.wanted o (yielded ops a.tmps)=false/\v=undef)
end
section
variable {Inv:World->Prop} {P:Program} {ops:Array Oper} {Q:Exit->Act->World->Prop}
theorem Qx:∀ (m:Nat) (listed:Array Bool) (a:Act) (w:World),KM Inv P ops Q m listed a w->wpAny P .any ops Q m listed a w
 | 0,_,_,_,h=>h
 | m+1,_listed,_a,_w,h=>⟨h.1,fun i hi=>wpOp_mono (fun _a' _w' k=>Qx m _ _ _ k.2) (h.2 i hi)⟩
theorem IX.same{o:Oper}{v:Value}{a a':Act}(hy:IX Inv P ops o v a)(he:execOp a'.eval o=execOp a.eval o)(hw:Region.wanted o (yielded ops a'.tmps)=Region.wanted o (yielded ops a.tmps)):IX Inv P ops o v a':=by
 unfold IX at *;rw [he,hw];exact hy
theorem IX.op{i:Nat}{o:Oper}{v:Value}{a:Act}{w:World}(hi:ops[i]? = some o)(hy:IX Inv P ops o v a)(hw:Inv w){K:Act->World->Prop}(h:K (a.put o.dst v) w):wpOp P ops Q i K a w:=by
 unfold wpOp;simp only [hi]
 rcases hy with ⟨b,hv⟩ | ⟨b,rfl⟩
 ·simp only [b,if_true,Oper.wp,hv w hw,Oper.upon];exact .inl h
 ·simp only [b,Bool.false_eq_true,if_false];exact h
theorem Zu{j:Nat}{oi oj:Oper}{v:Value}(hj:ops[j]? = some oj)(hap:oi.apart ops oj=true)(hsi:∀ cs b,oi.op≠.select cs b)(hsj:∀ cs b,oj.op≠.select cs b)
  (hQ:∀ c a w,Q (.panic c) (a.put oi.dst v) w->Q (.panic c) a w) {K:Act->World->Prop} {a:Act} {w:World} (hy:IX Inv P ops oi v a) (h:wpOp P ops Q j K (a.put oi.dst v) w) :
  wpOp P ops Q j (fun a' w'=>IX Inv P ops oi v a'/\K (a'.put oi.dst v) w') a w:=by
 obtain⟨g,h2,h3⟩:=Oper.apart_spec hap;have keep:∀ a,IX Inv P ops oi v a->∀ u,IX Inv P ops oi v (a.put oj.dst u):=fun a hy u=>hy.same (execOp_put oi hsi a oj.dst u h3) (wanted_put oi a oj.dst u h3);unfold wpOp at *;simp only [hj] at *;rw [wanted_put oj a oi.dst v g] at h
 split
 ·rename_i hw;simp only [hw,if_true] at h
  rcases h with h | ⟨ha,hl⟩
  case inr=>exact .inr ⟨by unfold Oper.asks at *;rw [execOp_put oj hsj a oi.dst v g] at ha;exact ha,hl⟩
  refine .inl ?_;unfold Oper.wp at *;rw [execOp_put oj hsj a oi.dst v g] at h;generalize (execOp a.eval oj).run P w=r at *
  cases r with
  | ok x w'=>
   cases x <;> simp only [Oper.upon] at h ⊢
   case value u=>exact⟨keep a hy u,by rw [<- Act.put_comm a v u h2];exact h⟩
   case skip=>exact⟨keep a hy _,by rw [<- Act.put_comm a v undef h2];exact h⟩
   case defer d=>
    refine⟨keep {a with defers:=d::a.defers} (hy.same rfl rfl) _,?_⟩;rw [<- Act.put_comm _ v undef h2,<- Act.put_defers];exact h
   case enter f args=>
    refine h.mono fun e w'' he=>?_
    cases e with
    | returned u=>exact⟨keep a hy u,by rw [<- Act.put_comm a v u h2];exact he⟩
    | panicked c=>exact hQ _ _ _ he
    | outgrown=>exact he
   case row row args=>exact Rows.mono h fun u w'' he=>⟨keep a hy u,by rw [<- Act.put_comm a v u h2];exact he⟩
  | halt x w'=>
   cases x <;> simp only [Oper.upon] at h ⊢
   case panic u=>exact hQ _ _ _ h
 ·rename_i hw;simp only [hw] at h;exact⟨keep a hy _,by rw [<- Act.put_comm a v undef h2];exact h⟩
theorem N9{i:Nat}{oi:Oper}{v:Value}(hi:ops[i]? = some oi)(hsel:∀ (j:Nat) (o:Oper) cs b,ops[j]? = some o->o.op≠.select cs b)(hQ:∀ c a w,Q (.panic c) (a.put oi.dst v) w->Q (.panic c) a w):
  ∀
   (m:Nat) (listed:Array Bool) (a:Act) (w:World),
   (∀ j oj,ops[j]? = some oj->j≠i->listed.getD j true=false->(∀ e∈oj.after,Region.binds .any e=true->e.on≠i)->oi.apart ops oj=true)->
   i∈Region.ready .any ops listed->ClP ops listed->Inv w->IX Inv P ops oi v a->KM Inv P ops Q m (listed.setIfInBounds i true) (a.put oi.dst v) w->KM Inv P ops Q (m+1) listed a w:=by
 intro m
 induction m with
 | zero=>
  intro listed a w _ hr _ hw hy H;refine⟨fun h=>(by rw [h] at hr;cases hr),fun j hj=>?_⟩
  by_cases hji:j=i
  ·subst hji;exact hy.op hi hw ⟨.inr (.inr hw),H⟩
  ·have:=ready_mono hj hji;rw [H.1] at this
   cases this
 | succ m ih=>
  intro listed a w hfree hr hcl hw hy H;refine⟨fun h=>(by rw [h] at hr;cases hr),fun j hj=>?_⟩
  by_cases hji:j=i
  ·subst hji;exact hy.op hi hw ⟨.inr (.inr hw),H⟩
  ·have d:=H.2 j (ready_mono hj hji);obtain⟨hjun,oj,hoj,hall⟩:=mem_ready.1 hj
   have hnot:∀ e∈oj.after,Region.binds .any e=true->e.on≠i:=fun e he hb heq=>by
    have d:=hall e he hb;have f:=(mem_ready.1 hr).1;rw [heq] at d
    rcases Nat.lt_or_ge i listed.size with h' | h'
    ·simp [h'] at f d;rw [f] at d;cases d
    ·simp [Array.getElem?_eq_none h'] at d
   have h2:=Zu hoj (hfree j oj hoj hji hjun hnot) (fun cs b=>hsel i oi cs b hi) (fun cs b=>hsel j oj cs b hoj) hQ hy d
   have hfree':∀ k ok,ops[k]? = some ok->k≠i->(listed.setIfInBounds j true).getD k true=false->
     (∀ e∈ok.after,Region.binds .any e=true->e.on≠i)->oi.apart ops ok=true:=fun k ok hk hki hun hno=>by
    refine hfree k ok hk hki ?_ hno
    by_cases hjk:j=k
    ·subst hjk;exact hjun
    ·rw [getD_set_ne true hjk] at hun;exact hun
   have hri:i∈Region.ready .any ops (listed.setIfInBounds j true):=ready_mono hr (Ne.symm hji);refine wpOp_mono (fun a' w' ⟨hy',hI,hk⟩=>?_) h2
   have hset:KM Inv P ops Q m ((listed.setIfInBounds j true).setIfInBounds i true) (a'.put oi.dst v) w':=by
    rw [Array.setIfInBounds_comm _ _ hji];exact hk
   have hi':=(Array.getElem?_eq_some_iff.1 hi).1
   have hjd:∀ x,YP ops j x=true->listed.getD x true=true:=fun x hx=>by
    simp only [YP,hoj] at hx;obtain⟨e,he,hb⟩:=Array.any_eq_true'.1 hx;simp only [Bool.and_eq_true,beq_iff_eq] at hb;rw [<- hb.2];exact Vu (hall e he hb.1)
   have hiun:=(mem_ready.1 hr).1
   have hI':Inv w':=by
    rcases hI.resolve_left (by rw [VZ hoj hi' (Ne.symm hji) hnot];simp) with ⟨c,hc⟩ | hI
    ·exfalso
     simp only [RF,Bool.and_eq_true,List.all_eq_true,List.mem_range,Bool.or_eq_true,beq_iff_eq] at hc
     rcases hc.2 i hi' with (h3 | h3) | h3
     ·exact hji h3.symm
     ·have g:=Pj hcl hjd c hc.1 i (by simpa using h3);rw [hiun] at g;cases g
     ·obtain⟨_,oi',hoi',hall'⟩:=mem_ready.1 hr;simp only [YP,hoi'] at h3;obtain⟨e,he,hb⟩:=Array.any_eq_true'.1 h3;simp only [Bool.and_eq_true,beq_iff_eq] at hb;have l:=Vu (hall' e he hb.1);rw [hb.2,hjun] at l;cases l
    ·exact hI
   have hcl':ClP ops (listed.setIfInBounds j true):=fun k x hd hk=>by
    by_cases hxj:x=j
    ·subst hxj;rw [Array.getD_eq_getD_getElem?,Array.getElem?_setIfInBounds]
     by_cases hs:x<listed.size
     ·simp [hs]
     ·simp [Array.getElem?_eq_none (Nat.le_of_not_lt hs),hs]
    ·rw [getD_set_ne true (Ne.symm hxj)]
     by_cases hkj:k=j
     ·subst hkj;exact hjd x hd
     ·rw [getD_set_ne true (Ne.symm hkj)] at hk;exact hcl k x hd hk
   exact⟨.inr (.inr hI'),ih _ a' w' hfree' hri hcl' hI' hy' hset⟩
end
def Xv(Inv:World->Prop)(P:Program)(l:List Oper)(Q:Exit->Act->World->Prop)(fuel i:Nat)(listed:Array Bool):Exit->Act->World->Prop:=Exit.then (fun a w=>(Qw l.toArray i=true\/(∃ c,RF l.toArray i c=true)\/Inv w)/\KM Inv P l.toArray Q fuel listed a w) Q
def Nw(Inv:World->Prop)(P:Program)(n:Sz)(l:List Oper)(Q:Exit->Act->World->Prop)(fuel:Nat)(listed:Array Bool)(L:Env)(w:World):Prop:=∀ a,Fr n a L->KM Inv P l.toArray Q fuel listed a w
section
variable {Inv:World->Prop} {P:Program} {n:Sz} {l:List Oper} {Q:Exit->Act->World->Prop} {L:Env} {w:World} {y:Code} {fuel:Nat} {m:Nat} {done:List Nat}
theorem Xw[Dr]{id:Nat}(Inv:World->World->Prop)(hm:P.follows .mixedOrders=true)(hl:l.length=m)(h:∀ w',Ext w w'->Nw (Inv w') P n l Q m (Ma m []) L w'):W P n (.region id l.toArray true) Q L w:=fun a fr=>by
 refine wp_region_any hm ?_;have:=Qx _ _ _ _ (h _ JI a fr);subst hl
 simpa [Ma] using this
theorem RG{i:Nat}{o:Oper}(ho:IN l i=some o)(h:S P n l.toArray (Xv Inv P l Q fuel i (Ma m (i::done))) [o] L w):
  ∀ a,Fr n a L->wpOp P l.toArray Q i (fun a' w'=>(Qw l.toArray i=true\/(∃ c,RF l.toArray i c=true)\/Inv w')/\KM Inv P l.toArray Q fuel ((Ma m done).setIfInBounds i true) a' w') a w:=
 fun a fr=>VT ho (h a fr) (fun e a w hne he=>by cases e <;> first | exact absurd rfl hne | exact he)
theorem Qy{rs:List Nat}{listed:Array Bool}{a:Act}(hr:Region.ready .any l.toArray listed=rs)(hne:rs≠[])
  (h:∀ i∈rs,wpOp P l.toArray Q i (fun a' w'=>(Qw l.toArray i=true\/(∃ c,RF l.toArray i c=true)\/Inv w')/\KM Inv P l.toArray Q fuel (listed.setIfInBounds i true) a' w') a w):KM Inv P l.toArray Q (fuel+1) listed a w:=
 ⟨fun e=>by rw [hr] at e;exact absurd e hne,fun i hi=>h i (by rw [<- hr];exact hi)⟩
theorem Er{i:Nat}{o:Oper}(hr:Region.ready .any l.toArray (Ma m done)=[i])(ho:IN l i=some o)(h:S P n l.toArray (Xv Inv P l Q fuel i (Ma m (i::done))) [o] L w):Nw Inv P n l Q (fuel+1) (Ma m done) L w:=
 fun a fr=>Qy hr (by simp) fun k hk=>by
  obtain rfl:k=i:=by simpa using hk
  exact RG ho h a fr
theorem WH{i j:Nat}{o p:Oper}(hr:Region.ready .any l.toArray (Ma m done)=[i,j])(ho:IN l i=some o)(hp:IN l j=some p)(h:S P n l.toArray (Xv Inv P l Q fuel i (Ma m (i::done))) [o] L w)(h':S P n l.toArray (Xv Inv P l Q fuel j (Ma m (j::done))) [p] L w):Nw Inv P n l Q (fuel+1) (Ma m done) L w:=
 fun a fr=>Qy hr (by simp) fun k hk=>by
  have hk':k=i\/k=j:=by simpa using hk
  rcases hk' with rfl | rfl
  ·exact RG ho h a fr
  ·exact RG hp h' a fr
theorem NI3{i j s:Nat}{o p q:Oper}(hr:Region.ready .any l.toArray (Ma m done)=[i,j,s])(ho:IN l i=some o)(hp:IN l j=some p)(hq:IN l s=some q)(h:S P n l.toArray (Xv Inv P l Q fuel i (Ma m (i::done))) [o] L w)(h':S P n l.toArray (Xv Inv P l Q fuel j (Ma m (j::done))) [p] L w)(h'':S P n l.toArray (Xv Inv P l Q fuel s (Ma m (s::done))) [q] L w):Nw Inv P n l Q (fuel+1) (Ma m done) L w:=
 fun a fr=>Qy hr (by simp) fun k hk=>by
  have hk':k=i\/k=j\/k=s:=by simpa using hk
  rcases hk' with rfl | rfl | rfl
  ·exact RG ho h a fr
  ·exact RG hp h' a fr
  ·exact RG hq h'' a fr
theorem AaW{i:Nat}(hI:Inv w)(h:Nw Inv P n l Q fuel (Ma m done) L w):S P n l.toArray (Xv Inv P l Q fuel i (Ma m done)) [] L w:=fun a fr=>⟨.inr (.inr hI),h a fr⟩
theorem F9{i:Nat}(hl:Qw l.toArray i=true)(h:Nw Inv P n l Q fuel (Ma m done) L w):S P n l.toArray (Xv Inv P l Q fuel i (Ma m done)) [] L w:=fun a fr=>⟨.inl hl,h a fr⟩
theorem C1{i:Nat}(c:List Nat)(hl:RF l.toArray i c=true)(h:Nw Inv P n l Q fuel (Ma m done) L w):S P n l.toArray (Xv Inv P l Q fuel i (Ma m done)) [] L w:=fun a fr=>⟨.inr (.inl ⟨c,hl⟩),h a fr⟩
theorem D6(hr:Region.ready .any l.toArray (Ma m done)=[])(h:At n Q .normal L w):Nw Inv P n l Q 0 (Ma m done) L w:=fun a fr=>⟨hr,h a fr⟩
theorem La{s:Nat}{b:Bool}{listed:Array Bool}(_hb:gt L s=some (.bool b))(a:b=true->Nw Inv P n l Q fuel listed L w)(h2:b=false->Nw Inv P n l Q fuel listed L w):Nw Inv P n l Q fuel listed L w:=by
 cases b
 ·exact h2 rfl
 ·exact a rfl
variable {d:Nat} {op:Op} {ty:TypeId} {pos:String} {af:Array Edge}
theorem A1[Dr](i:Nat){v:Value}(hq:Ho Q)(hI:Inv w)(hc:(OC l m done i&&ClB l.toArray (Ma m done))=true)(ho:IN l i=some ⟨some d,op,ty,pos,af,none⟩)(hr:∀ w,Inv w->Bt P L w op ty v)(hn:Nat.blt d n.n=true)
  (h:Nw Inv P n l Q fuel (Ma m (i::done)) ((d,v)::L) w):Nw Inv P n l Q (fuel+1) (Ma m done) L w:=fun a fr=>by
 simp only [OC,Bool.and_eq_true] at hc;obtain⟨⟨⟨b,h2⟩,h3⟩,e⟩:=hc;have ho':l.toArray[i]? = some ⟨some d,op,ty,pos,af,none⟩:=by rw [IP] at ho;simpa using ho
 exact N9 (v:=v) ho' (Region.noSelect_spec b) (fun c a w k=>hq c a _ _ w k) _ _ a w (Region.free_spec ho' h2) (by simpa using h3) (Xu e) hI
  (.inl ⟨by simp [Region.wanted],fun w' hw'=>hr w' hw' w' (Ext.refl _) _ fr.PV _ _ _ _⟩) (h _ (fr.put hn))
theorem Gx[Dr](i:Nat){v:Value}{j s:Nat}{want b:Bool}{oj:Oper}(hq:Ho Q)(hI:Inv w)(hc:(OC l m done i&&ClB l.toArray (Ma m done))=true)(ho:IN l i=some ⟨some d,op,ty,pos,af,some (j,want)⟩)(hj:IN l j=some oj)(hd:oj.dst=some s)(hb:gt L s=some (.bool b))(hw:b=want)(hr:∀ w,Inv w->Bt P L w op ty v)(hn:Nat.blt d n.n=true)
  (h:Nw Inv P n l Q fuel (Ma m (i::done)) ((d,v)::L) w):Nw Inv P n l Q (fuel+1) (Ma m done) L w:=fun a fr=>by
 simp only [OC,Bool.and_eq_true] at hc;obtain⟨⟨⟨f,h2⟩,h3⟩,g⟩:=hc;have ho':l.toArray[i]? = some ⟨some d,op,ty,pos,af,some (j,want)⟩:=by rw [IP] at ho;simpa using ho
 have hj':l.toArray[j]? = some oj:=by rw [IP] at hj;simpa using hj
 have hy:yielded l.toArray a.tmps j=some b:=by simp only [yielded,hj',Option.bind_some,hd,fr.get s _ hb]
 refine N9 (v:=v) ho' (Region.noSelect_spec f) (fun c a w k=>hq c a _ _ w k) _ _ a w (Region.free_spec ho' h2) (by simpa using h3) (Xu g) hI
  (.inl ⟨by simp [Region.wanted,hy,hw],fun w' hw'=>?_⟩) (h _ (fr.put hn))
 have e:execOp a.eval ⟨some d,op,ty,pos,af,some (j,want)⟩=execOp a.eval ⟨some d,op,ty,pos,af,none⟩:=rfl;rw [e];exact hr w' hw' w' (Ext.refl _) _ fr.PV _ _ _ _
theorem BS(i:Nat){j s:Nat}{want b:Bool}{oj:Oper}(hq:Ho Q)(hI:Inv w)(hc:(OC l m done i&&ClB l.toArray (Ma m done))=true)(ho:IN l i=some ⟨some d,op,ty,pos,af,some (j,want)⟩)(hj:IN l j=some oj)(hd:oj.dst=some s)(hb:gt L s=some (.bool b))(hw:b = !want)(hn:Nat.blt d n.n=true)
  (h:Nw Inv P n l Q fuel (Ma m (i::done)) ((d,undef)::L) w):Nw Inv P n l Q (fuel+1) (Ma m done) L w:=fun a fr=>by
 simp only [OC,Bool.and_eq_true] at hc;obtain⟨⟨⟨e,h2⟩,h3⟩,f⟩:=hc;have ho':l.toArray[i]? = some ⟨some d,op,ty,pos,af,some (j,want)⟩:=by rw [IP] at ho;simpa using ho
 have hj':l.toArray[j]? = some oj:=by rw [IP] at hj;simpa using hj
 have hy:yielded l.toArray a.tmps j=some b:=by simp only [yielded,hj',Option.bind_some,hd,fr.get s _ hb]
 exact N9 (v:=undef) ho' (Region.noSelect_spec e) (fun c a w k=>hq c a _ _ w k) _ _ a w (Region.free_spec ho' h2) (by simpa using h3) (Xu f) hI
  (.inr ⟨by simp [Region.wanted,hy,hw],rfl⟩) (h _ (fr.put hn))
theorem Ux{w:World}{b:Nat}{cs:List Value}{t:TypeId}(h:w.heap[b]? = some (.cells cs.toArray t (0,0))):G9 (hp w) ⟨b,0,none⟩ cs:=
 ⟨rfl,fun j u hu=>by
  show Gp (hp w) (Addr.add ⟨b,0,none⟩ j)=some u
  simp only [Addr.add_lit,Gp,hp,h]
  simpa using hu⟩
theorem M6[Dr]{b off:Nat}{cs:List Value}{t t':TypeId}{x:Operand}{u:Value}{dd:TypeDesc}(hx:ev L x=some (.pointer (some ⟨b,off,none⟩)))(ht:P.underlying t=some dd)(hd:Qb dd=true)(h:w.heap[b]? = some (.cells cs.toArray t' (0,0)))(hu:nth cs off=some u):Bt P L w (.load t x) ty u:=by
 have a:=(Ux h).add off;obtain⟨c,hc⟩:=Qe cs off u hu;rw [hc] at a;simp only [Addr.add_lit,Nat.zero_add] at a;exact Bu hx ht hd a (Le.refl _)
theorem JL[Dr]{b:Nat}{cs:List Value}{t t':TypeId}{x:Operand}{dd:TypeDesc}{zz:Value}{bt:Nat}(hx:ev L x=some (.pointer (some ⟨b,0,none⟩)))(ht:P.underlying t=some dd)(hd:Tm dd=true)(hz:Zr P t zz cs.length bt)(h:w.heap[b]? = some (.cells cs.toArray t' (0,0))):Bt P L w (.load t x) ty (.agg cs.toArray):=
 C7 hx ht hd hz (Ux h) (Le.refl _)
theorem Zv[Dr]{κ:Type}[DecidableEq κ]{enc:κ->Value}{l:List κ}{vs:List Value}{k:κ}{b m:Nat}{t kt et:TypeId}{x y:Operand}{z:Value}(hx:ev L x=some (.map (some b)))(hy:ev L y=some (enc k))(ht:P.underlying t=some (.map kt et))(hk:Mb P kt enc)(hz:Mz P et z)
  (h:w.heap[b]? = some (.map (mE enc 0 l vs).toArray m)) (hl:l.length=vs.length):Bt P L w (.lookup t x y false) ty (Uu z k l vs):=fun w' hx' ρ hρ dst pos af g=>by
 have hb:=hx'.le b _ h;have:=Qt (k:=k) hk ht hz hb hl;simp [execOp,hρ x _ hx,hρ y _ hy,this]
end
end Go.E
namespace Go.E
open Go Go.RowKit
section
variable {P:Program} {L:Env} {w w0:World} {O:List BE} {x y:Operand} {ty t t' e src dst u T:TypeId} {b:Nat} {cs:List Value}
end
def BAd(b:Nat)(v:Value):Prop:=v=.pointer none\/v=.pointer (some ⟨b,0,none⟩)
theorem BAd.one{b:Nat}{v:Value}(h:BAd b v):v.oneCell'=true:=by rcases h with rfl | rfl <;> rfl
section
variable {P:Program} {n:Sz} {ops:Array Oper} {Q:Exit->Act->World->Prop} {L:Env} {w w0:World} {O:List BE} {rest:List Oper} {d:Nat} {ty pt it e:TypeId} {pos:String} {af:Array Edge} {x y:Operand} {H:PH}
end
end Go.E
end
noncomputable section
namespace Go.L
inductive Pv where
 | mk (kind number:Int) (bytes:List UInt8) (names:List (List UInt8)) (parts:List Pv)
instance:Inhabited Pv:=⟨.mk 0 0 [] [] []⟩
abbrev PvF:Type:=Int×Int×List UInt8×List (List UInt8)×List Pv
def Pv.f:Pv->PvF
 | .mk k n b ns ps=>(k,n,b,ns,ps)
end Go.L
namespace Go.E
open Go Go.L
variable {α β:Type}
def Rp.via(r:Rp β)(f:α->β):Rp α:=⟨r.sz,fun H x c=>r.rel H (f x) c,fun h=>r.len h,fun hs h=>r.mono hs h,fun h=>r.one h⟩
def Rp.no(α:Type)(n:Nat):Rp α:=⟨n,fun _ _ _=>False,fun h=>h.elim,fun _ h=>h,fun h=>h.elim⟩
theorem AA.Xx{r s:Rp α}{H:PH}{v:Value}{l:List α}(hz:r.sz=s.sz)(h:AA r H v l)(hrel:∀ x∈l,∀ c,r.rel H x c->s.rel H x c):AA s H v l:=by
 obtain⟨a,cap,b,h2,h3,d,e⟩:=h.ex;refine⟨a,cap,b,h2,h3,d,fun A hA hl=>?_⟩;obtain⟨f,g⟩:=e A hA hl;refine⟨f,fun i x hx=>?_⟩;obtain⟨c,hc,hcell⟩:=g i x hx;exact⟨c,hrel x (List.mem_of_getElem? hx) c hc,fun j u hu=>by rw [<- hz];exact hcell j u hu⟩
def Rp.fields(r:Rp Pv):Rp PvF:=.pair (.int .i64) (.pair (.int .i64) (.pair (.vec .byte) (.pair (.vec .st) (.vec r))))
def Rp.Kz:Nat->Rp Pv
 | 0=>.no Pv 5
 | d+1=>(Rp.fields (Rp.Kz d)).via Pv.f
theorem Rp.M7:∀ d,(Rp.Kz d).sz=5
 | 0=>rfl
 | _+1=>rfl
theorem Rp.RH{r s:Rp Pv}{H:PH}{x:PvF}{c:List Value}(hz:r.sz=s.sz)(hrel:∀ y∈x.2.2.2.2,∀ c,r.rel H y c->s.rel H y c)(h:(Rp.fields r).rel H x c):(Rp.fields s).rel H x c:=by
 obtain⟨c1,c2,a,b,c3,c4,d,h2,c5,c6,e,h3,c7,c8,f,g,v,i,j⟩:=h;exact⟨c1,c2,a,b,c3,c4,d,h2,c5,c6,e,h3,c7,c8,f,g,v,i,j.Xx hz hrel⟩
theorem Rp.Qz{H:PH}:∀ (d:Nat) (x:Pv) (c:List Value),(Rp.Kz d).rel H x c->(Rp.Kz (d+1)).rel H x c
 | 0,_,_,h=>h.elim
 | d+1,x,c,h=>Rp.RH (r:=Rp.Kz d) (s:=Rp.Kz (d+1)) (by rw [Rp.M7,Rp.M7]) (fun y _ c h=>Rp.Qz d y c h) h
theorem Rp.T0{H:PH}{d e:Nat}(h:d<=e){x:Pv}{c:List Value}(hx:(Rp.Kz d).rel H x c):(Rp.Kz e).rel H x c:=by
 induction h with
 | refl=>exact hx
 | step _ ih=>exact Rp.Qz _ _ _ ih
def Rp.tree:Rp Pv:=⟨5,fun H x c=>∃ d,(Rp.Kz d).rel H x c,fun h=>by obtain⟨d,h⟩:=h;rw [(Rp.Kz d).len h,Rp.M7],fun hs h=>by obtain⟨d,h⟩:=h;exact⟨d,(Rp.Kz d).mono hs h⟩,fun h=>by obtain⟨d,h⟩:=h;exact(Rp.Kz d).one h⟩
theorem Rp.IA{H:PH}{x:Pv}{c:List Value}(h:Rp.tree.rel H x c):(Rp.fields Rp.tree).rel H x.f c:=by
 obtain⟨d,h⟩:=h
 cases d with
 | zero=>exact h.elim
 | succ d=>exact Rp.RH (r:=Rp.Kz d) (s:=Rp.tree) (Rp.M7 d) (fun y _ c h=>⟨d,h⟩) h
theorem AA.bound{H:PH}{v:Value}{l:List Pv}(h:AA Rp.tree H v l):∃ d,AA (Rp.Kz d) H v l:=by
 obtain⟨a,cap,b,h2,h3,f,g⟩:=h.ex
 cases a with
 | none=>exact⟨0,none,cap,b,h2,h3,f,fun A hA=>by cases hA⟩
 | some A=>
  have key:∀ n,∃ d,∀ i x,i<n->l≠[]->l[i]? = some x->∃ c,(Rp.Kz d).rel H x c/\∀ j u,c[j]? = some u->Gp H (A.add (i * 5+j))=some u:=by
   intro n
   induction n with
   | zero=>exact⟨0,fun i x hi=>absurd hi (Nat.not_lt_zero i)⟩
   | succ n ih=>
    obtain⟨d,hd⟩:=ih
    by_cases hl:l=[]
    ·exact⟨0,fun i x _ hn=>absurd hl hn⟩
    cases hx:l[n]? with
    | none=>
     refine⟨d,fun i x hi hn he=>?_⟩
     rcases Nat.lt_succ_iff_lt_or_eq.1 hi with hi | rfl
     ·exact hd i x hi hn he
     ·rw [hx] at he
      cases he
    | some y=>
     obtain⟨c,⟨e,hc⟩,hcell⟩:=(g A rfl hl).2 n y hx;refine⟨max d e,fun i x hi hn he=>?_⟩
     rcases Nat.lt_succ_iff_lt_or_eq.1 hi with hi | rfl
     ·obtain⟨c',k,m⟩:=hd i x hi hn he;exact⟨c',Rp.T0 (Nat.le_max_left ..) k,m⟩
     ·rw [hx] at he
      cases he
      exact⟨c,Rp.T0 (Nat.le_max_right ..) hc,hcell⟩
  obtain⟨d,hd⟩:=key l.length;refine⟨d,some A,cap,b,h2,h3,f,fun B hB hl=>?_⟩
  cases hB
  refine⟨(g A rfl hl).1,fun i x hx=>?_⟩;rw [Rp.M7];exact hd i x (List.getElem?_eq_some_iff.1 hx).1 hl hx
theorem Rp.Dt{H:PH}{x:Pv}{c:List Value}(h:(Rp.fields Rp.tree).rel H x.f c):Rp.tree.rel H x c:=by
 obtain⟨c1,c2,a,b,c3,c4,e,h2,c5,c6,g,h3,c7,c8,i,j,v,k,l⟩:=h;obtain⟨d,hd⟩:=l.bound;exact⟨d+1,c1,c2,a,b,c3,c4,e,h2,c5,c6,g,h3,c7,c8,i,j,v,k,hd⟩
end Go.E
namespace Go.E
open Go Go.RowKit
def IB(h:List UInt8×Int×Int×List UInt8):Value:=.agg #[.string ⟨h.1.toArray⟩,.int .i64 h.2.1,.int .i64 h.2.2.1,.string ⟨h.2.2.2.toArray⟩]
theorem Xy{P:Program}{kt:TypeId}{fs:Array Field}(hd:P.underlying kt=some (.struct fs))(hc:∀ (b:Bool) (s m:List UInt8) (x y:Int) w,(Instr.checkKey b 10000 kt (.agg #[.string ⟨s.toArray⟩,.int .i64 x,.int .i64 y,.string ⟨m.toArray⟩])).run P w=.ok () w)
  (he:∀ (s s' m m':List UInt8) (x x' y y':Int) w,(Op.equalIn 10000 kt (.agg #[.string ⟨s.toArray⟩,.int .i64 x,.int .i64 y,.string ⟨m.toArray⟩]) (.agg #[.string ⟨s'.toArray⟩,.int .i64 x',.int .i64 y',.string ⟨m'.toArray⟩])).run P w=.ok (decide (s=s'/\x=x'/\y=y'/\m=m')) w):Mb P kt IB:=
 ⟨fun b k w=>hc b k.1 k.2.2.2 k.2.1 k.2.2.1 w,
  fun k=>by
   obtain⟨d,he⟩:∃ d,10000=d+1:=⟨9999,rfl⟩;rw [he]
   cases d <;> simp [Instr.sameBits,IB,Tz],
  ⟨_,hd,.inr ⟨fun a b=>rfl,fun a b w=>by
   obtain⟨a1,a2,a3,a4⟩:=a;obtain⟨c,e,f,g⟩:=b;have:=he a1 c a4 g a2 e a3 f w;unfold Op.equal;rw [show Op.maxDepth=10000 from rfl];simp only [IB];rw [this]
   congr 1
   rw [Bool.eq_iff_iff];simp⟩⟩⟩
section
variable {P:Program} {L:Env} {w:World} {t t' ty:TypeId} {x y:Operand}
theorem S6{v:Nat}(h:v<2 ^ 64):IntKind.u64.wrap (v:Int)=(v:Int):=by
 simp only [IntKind.wrap];simp [IntKind.bits,IntKind.signed] <;> omega
theorem AaX[Dr]{op:BinOp}{c:Nat}{p q:Int}(hx:ev L x=some (.int .u64 p))(hy:ev L y=some (.int .u64 q))(ho:Ab6 op p.toNat q.toNat=some c)(h:(0<=p/\p<2 ^ 64)/\(0<=q/\q<2 ^ 64)):Bt P L w (.binOp op t x y t') ty (.int .u64 (c:Int)):=by
 intro w' _ ρ hρ dst pos af g;obtain⟨a,rfl⟩:=Int.eq_ofNat_of_zero_le h.1.1;obtain⟨b,rfl⟩:=Int.eq_ofNat_of_zero_le h.2.1;rw [Int.toNat_natCast,Int.toNat_natCast] at ho;have ha:a<2 ^ 64:=by omega
 have hb:b<2 ^ 64:=by omega
 have ea:(BitVec.ofInt 64 (a:Int)).toNat=a:=by simp;omega
 have eb:(BitVec.ofInt 64 (b:Int)).toNat=b:=by simp;omega
 cases op <;> simp only [Ab6,Option.some.injEq,reduceCtorEq] at ho <;> subst ho
 ·have e:(Op.intBits .and .u64 (a:Int) (b:Int)).run P w'=.ok (.int .u64 ((a &&& b:Nat):Int)) w':=by
   show Result.ok (Value.int .u64 (IntKind.u64.wrap ((BitVec.ofInt 64 (a:Int) &&& BitVec.ofInt 64 (b:Int)).toNat:Int))) w'=_
   rw [BitVec.toNat_and,ea,eb,S6 (Nat.and_lt_two_pow _ hb)]
  simp only [execOp,hρ x _ hx,hρ y _ hy,eqGuard,binOp,Sem.run_bind,ne_eq,not_true_eq_false,if_false,Bool.not_false,if_true,Sem.run_pure,Result.andThen_ok,e]
 ·have e:(Op.intBits .or .u64 (a:Int) (b:Int)).run P w'=.ok (.int .u64 ((a ||| b:Nat):Int)) w':=by
   show Result.ok (Value.int .u64 (IntKind.u64.wrap ((BitVec.ofInt 64 (a:Int) ||| BitVec.ofInt 64 (b:Int)).toNat:Int))) w'=_
   rw [BitVec.toNat_or,ea,eb,S6 (Nat.or_lt_two_pow ha hb)]
  simp only [execOp,hρ x _ hx,hρ y _ hy,eqGuard,binOp,Sem.run_bind,ne_eq,not_true_eq_false,if_false,Bool.not_false,if_true,Sem.run_pure,Result.andThen_ok,e]
 ·have e:(Op.intBits .xor .u64 (a:Int) (b:Int)).run P w'=.ok (.int .u64 ((a ^^^ b:Nat):Int)) w':=by
   show Result.ok (Value.int .u64 (IntKind.u64.wrap ((BitVec.ofInt 64 (a:Int) ^^^ BitVec.ofInt 64 (b:Int)).toNat:Int))) w'=_
   rw [BitVec.toNat_xor,ea,eb,S6 (Nat.xor_lt_two_pow ha hb)]
  simp only [execOp,hρ x _ hx,hρ y _ hy,eqGuard,binOp,Sem.run_bind,ne_eq,not_true_eq_false,if_false,Bool.not_false,if_true,Sem.run_pure,Result.andThen_ok,e]
end
end Go.E
end
noncomputable section
namespace Go.E
open Go Go.RowKit
section
variable {P:Program} {L:Env} {w:World} {t ty:TypeId} {x a b:Operand} {l:List UInt8} {k k':IntKind} {i j:Int}
theorem LA(l:List UInt8)(a b:Nat):(⟨l.toArray⟩:ByteArray).extract a b=⟨((l.drop a).take (b - a)).toArray⟩:=by
 apply ByteArray.ext;rw [ByteArray.data_extract];simp [List.extract_eq_take_drop]
theorem Aa3[Dr]{lo hi:Option Operand}(hx:ev L x=some (.string ⟨l.toArray⟩))(ht:P.underlying t=some .string)(a b:Nat)(ha:loB L lo a)(hb:hiB L hi b l.length)(d:a<=b)(h2:b<=l.length):
  Bt P L w (.slice t x lo hi none) ty (.string ⟨((l.drop a).take (b - a)).toArray⟩):=by
 intro w' _ ρ hρ dst pos af g;have hs:(ByteArray.mk l.toArray).size=l.length:=by simp [ByteArray.size]
 have i:(a:Int)<=(b:Int):=by omega
 have j:(b:Int)<=(l.length:Int):=by omega
 have k:(a:Int)<=(l.length:Int):=by omega
 cases lo with
 | none=>
  simp only [loB] at ha;subst ha
  cases hi with
  | none=>
   simp only [hiB] at hb;subst hb;simp [execOp,hρ x _ hx,Instr.sliceAt,run_underlying ht,Instr.slice,Instr.sliceBounds,hs,LA]
  | some c=>
   obtain⟨f,hb⟩:=hb;simp [execOp,hρ x _ hx,hρ c _ hb,Instr.sliceAt,run_underlying ht,Instr.slice,Instr.sliceBounds,Instr.sliceBound,asIntOf,hs,h2,LA]
 | some e=>
  obtain⟨m,ha⟩:=ha
  cases hi with
  | none=>
   simp only [hiB] at hb;subst hb;simp [execOp,hρ x _ hx,hρ e _ ha,Instr.sliceAt,run_underlying ht,Instr.slice,Instr.sliceBounds,Instr.sliceBound,asIntOf,hs,d,LA]
  | some c=>
   obtain⟨f,hb⟩:=hb;simp [execOp,hρ x _ hx,hρ e _ ha,hρ c _ hb,Instr.sliceAt,run_underlying ht,Instr.slice,Instr.sliceBounds,Instr.sliceBound,asIntOf,hs,d,h2,LA]
theorem Uy[Dr](hx:ev L x=some (.string ⟨l.toArray⟩))(ha:ev L a=some (.int k i))(ht:P.underlying t=some .string)(hc:0<=i/\i<=(l.length:Int)):
  Bt P L w (.slice t x (some a) none none) ty (.string ⟨(l.drop i.toNat).toArray⟩):=by
 have:=Aa3 (P:=P) (w:=w) (ty:=ty) hx ht i.toNat l.length (lo:=some a) (hi:=none) ⟨k,by rw [Int.toNat_of_nonneg (by omega)];exact ha⟩ rfl (by omega) (by omega)
 rwa [List.take_of_length_le (by simp)] at this
theorem Xz[Dr](hx:ev L x=some (.string ⟨l.toArray⟩))(hb:ev L b=some (.int k' j))(ht:P.underlying t=some .string)(hc:0<=j/\j<=(l.length:Int)):
  Bt P L w (.slice t x none (some b) none) ty (.string ⟨(l.take j.toNat).toArray⟩):=by
 have:=Aa3 (P:=P) (w:=w) (ty:=ty) hx ht 0 j.toNat (lo:=none) (hi:=some b) rfl ⟨k',by rw [Int.toNat_of_nonneg (by omega)];exact hb⟩ (by omega) (by omega)
 simpa using this
end
section
variable {P:Program} {n:Sz} {Q:Exit->Act->World->Prop} {L:Env} {w w0:World} {O:List BE} {lop:List Oper} {ix:Nat} {tr:Tr}
 {d:Nat} {ty:TypeId} {pos:String} {af:Array Edge} {α:Type} {r:Rp α} {x a b:Operand} {v:Value} {t t' e:TypeId} {H:PH} {l:List α} {k k':IntKind} {i j:Int} {zz:Value} {bt:Nat} {jg sg:Nat} {want bb:Bool} {oj:Oper}
theorem Q0[Dr]{l:List UInt8}{u:TypeDesc}(ho:IN lop ix=some ⟨some d,.convert t' t x,ty,pos,af,none⟩)(hx:ev L x=some (.string ⟨l.toArray⟩))(ht:P.underlying t'=some u)(ht':P.underlying t=some (.slice e))(he:P.underlying e=some (.int .u8))(hn:Nat.blt d n.n=true)(hL:AU w0 O w)(hl:l.length<=9223372036854775807)
  (h:∀ v w',Ext w w'->AU w0 O w'->Le (fz w O) (fz w' O)->AA .byte (gz H w0 w' O) v l->D P n lop Q tr ((d,v)::L) w'):D P n lop Q (.h ix tr) L w:=by
 have hs:(ByteArray.mk l.toArray).size=l.length:=by simp [ByteArray.size]
 refine Vb (R:=fun a u w'=>u=.slice (some ⟨a.heap.size,0,none⟩) l.length (grownCap a l.length 0 e)/\w'=Lib.bytesWorld a e ⟨l.toArray⟩) ho hn (fun a b ρ hρ=>?_) (fun a u w' b j hR=>?_)
 ·have:=Lib.run_convert_string_bytes (P:=P) a t' t e ⟨l.toArray⟩ ht ht' he;rw [hs] at this;exact⟨_,_,by simp [execOp,hρ x _ hx,this],(OD a e hl).1,rfl,rfl⟩
 ·obtain⟨rfl,rfl⟩:=hR;obtain⟨g,h2⟩:=OD a e hl;have c:=hL.call b;exact h _ _ (b.trans g) (c.call g) ((AP hL b).trans (AP c g)) (h2.mono (Qk c))
end
section
variable {P:Program} {n:Sz} {ops:Array Oper} {Q:Exit->Act->World->Prop} {L:Env} {w w0:World} {O:List BE} {l:List Oper} {i:Nat} {t:Tr} {rest:List Oper}
 {d:Nat} {ty:TypeId} {pos:String} {af:Array Edge} {f:FuncId} {args:List Operand} {vs:List Value} {at_:Array TypeId} {fo:Operand}
theorem Q1[Dr]{R:Value->World->Prop}(hf:ev L fo=some (.func (.func f) #[] #[]))(ha:O1 L args=some vs)(hn:Nat.blt d n.n=true)(hL:AU w0 O w)(hok:Ok P f vs w (fun v w'=>Ext w w'/\R v w'))
  (h:∀ v w',R v w'->Ext w w'->AU w0 O w'->Le (fz w O) (fz w' O)->S P n ops Q rest ((d,v)::L) w'):S P n ops Q (⟨some d,.call ⟨.value fo,args.toArray,at_⟩,ty,pos,af,none⟩::rest) L w:=
 Es (cap:=[]) (R:=fun v w'=>Ext w w'/\R v w') hf ha hn (by rw [List.append_nil];exact hok) fun v w' hh=>h v w' hh.2 hh.1 (hL.call hh.1) (AP hL hh.1)
end
end Go.E
namespace Go.E
open Go
theorem Q2(place:Nat->Option (Nat×Nat)):∀ (l m:List (Nat×Value)) (cells:Array Value),l.map (fun p=>(p.1,p.2.cells))=m.map (fun p=>(p.1,p.2.cells))->Instr.fill place cells l=Instr.fill place cells m
 | [],[],_,_=>rfl
 | [],_::_,_,h=>by cases h
 | _::_,[],_,h=>by cases h
 | (i,v)::l,(j,u)::m,cells,h=>by
  simp only [List.map_cons,List.cons.injEq,Prod.mk.injEq] at h;obtain⟨⟨rfl,a⟩,h2⟩:=h;unfold Instr.fill;rw [a]
  split
  ·rfl
  ·split
   ·rfl
   ·exact Q2 place l m _ h2
theorem T1{P:Program}{t:TypeId}{n:Nat}{ps qs:Array (Nat×Value)}{w:World}(h:ps.toList.map (fun p=>(p.1,p.2.cells))=qs.toList.map (fun p=>(p.1,p.2.cells))):(Instr.buildSlice t n ps).run P w=(Instr.buildSlice t n qs).run P w:=by
 unfold Instr.buildSlice;simp only [Q2 _ _ _ _ h]
theorem Ju{v:Value}(h:v.oneCell'=true):v.cells=(Value.agg #[v]).cells:=by
 cases v <;> first | rfl | cases h
end Go.E
namespace Go.E
open Go
theorem AbF {P : Program} {t : TypeId} {f0 f1 f2 f3 : Field} {d f : IntKind} (ht : P.underlying t = some (.struct (P.fieldsOf t))) (hp : P.stoodInHeld t = false) (hf : (P.fieldsOf t).toList = [f0, f1, f2, f3]) (i : f0.name ≠ "_" /\ f0.offset = 0) (j : f1.name ≠ "_" /\ f1.offset = 1) (h2 : f2.name ≠ "_" /\ f2.offset = 2) (h3 : f3.name ≠ "_" /\ f3.offset = 3)
  (k:P.underlying f0.type=some .string) (l:P.underlying f1.type=some (.int d)) (o:P.underlying f2.type=some (.int f)) (p:P.underlying f3.type=some .string) (s m:List UInt8) (a b:Int) (g h:List UInt8) (c e:Int) (w:World) :
  (Op.equalIn 10000 t (.agg #[.string ⟨s.toArray⟩,.int d a,.int f b,.string ⟨m.toArray⟩]) (.agg #[.string ⟨g.toArray⟩,.int d c,.int f e,.string ⟨h.toArray⟩])).run P w=.ok (decide (s=g/\a=c/\b=e/\m=h)) w:=by
 rw [run_equalIn_struct w 9999 t _ _ ht hp,hf]
 have hs:∀ (dd:Nat) (s m:List UInt8),(Op.equalIn (dd+1) f0.type (.string ⟨s.toArray⟩) (.string ⟨m.toArray⟩)).run P w=.ok (decide (s=m)) w:=fun dd s m=>by
  simp [Op.equalIn,run_underlying k,Tz]
 have q:∀ (dd:Nat) (s m:List UInt8),(Op.equalIn (dd+1) f3.type (.string ⟨s.toArray⟩) (.string ⟨m.toArray⟩)).run P w=.ok (decide (s=m)) w:=fun dd s m=>by
  simp [Op.equalIn,run_underlying p,Tz]
 have key:∀ dd:Nat,(Op.eqFields (dd+1) #[.string ⟨s.toArray⟩,.int d a,.int f b,.string ⟨m.toArray⟩] #[.string ⟨g.toArray⟩,.int d c,.int f e,.string ⟨h.toArray⟩] [f0,f1,f2,f3]).run P w=.ok (decide (s=g/\a=c/\b=e/\m=h)) w:=by
  intro dd
  by_cases z:s=g <;> by_cases e1:a=c <;> by_cases e2:b=e <;> by_cases e3:m=h <;>
   simp [Op.eqFields,i.1,j.1,h2.1,h3.1,i.2,j.2,h2.2,h3.2,part,isAgg,run_underlying k,run_underlying l,run_underlying o,run_underlying p,hs,q,run_equalIn_int w dd _ _ _ _ _ l,run_equalIn_int w dd _ _ _ _ _ o,z,e1,e2,e3]
 exact key 9998
end Go.E
namespace Go.E
open Go Go.RowKit
section
variable {P:Program} {n:Sz} {ops:Array Oper} {Q:Exit->Act->World->Prop} {L:Env} {w w0:World} {O:List BE} {rest:List Oper}
 {ty:TypeId} {pos:String} {af:Array Edge} {α:Type} {r:Rp α} {x y:Operand} {u v:Value} {t e:TypeId} {H:PH}
end
end Go.E
end
noncomputable section
namespace Go.Proofs.YtekmbcbgknmhiaaGreatDoor
open Go Go.E Go.RowKit
theorem mixed:Tryz.prog.follows .mixedOrders=true:=by kernel_rfl
theorem Dd:Zr Tryz.prog 3 (.int .i64 0) 1 8:=by unfold Zr;kernel_rfl
theorem YQ:Zr Tryz.prog 4 (.bool false) 1 1:=by unfold Zr;kernel_rfl
theorem NK:Zr Tryz.prog 5 (.int .u8 0) 1 1:=by unfold Zr;kernel_rfl
theorem Kq:Zr Tryz.prog 9 (.string .empty) 1 16:=by unfold Zr;kernel_rfl
theorem LC:Zr Tryz.prog 22 (.slice none 0 0) 1 24:=by unfold Zr;kernel_rfl
theorem Hv:Zr Tryz.prog 23 (.slice none 0 0) 1 24:=by unfold Zr;kernel_rfl
theorem Jo:Zr Tryz.prog 24 (.slice none 0 0) 1 24:=by unfold Zr;kernel_rfl
theorem Bm:Zr Tryz.prog 26 (.agg #[.int .i64 0,.slice none 0 0,.string .empty,.slice none 0 0,.int .i64 0,.int .i64 0,.slice none 0 0]) 7 112:=by unfold Zr;kernel_rfl
theorem AI:Zr Tryz.prog 28 (.agg #[.int .i64 0,.int .i64 0]) 2 16:=by unfold Zr;kernel_rfl
theorem Uz:Zr Tryz.prog 44 (.slice none 0 0) 1 24:=by unfold Zr;kernel_rfl
theorem KN:Zr Tryz.prog 46 (.agg #[.int .i64 0,.slice none 0 0]) 2 32:=by unfold Zr;kernel_rfl
theorem Zw:Zr Tryz.prog 47 (.slice none 0 0) 1 24:=by unfold Zr;kernel_rfl
theorem Mj:Zr Tryz.prog 49 (.agg #[.int .i64 0,.slice none 0 0]) 2 32:=by unfold Zr;kernel_rfl
theorem IJ:Zr Tryz.prog 50 (.slice none 0 0) 1 24:=by unfold Zr;kernel_rfl
theorem I3:Zr Tryz.prog 52 (.agg #[.int .i64 0,.slice none 0 0,.int .i64 0,.slice none 0 0,.slice none 0 0]) 5 88:=by unfold Zr;kernel_rfl
theorem Rs:Zr Tryz.prog 58 (.slice none 0 0) 1 24:=by unfold Zr;kernel_rfl
theorem T2:Zr Tryz.prog 62 (.slice none 0 0) 1 24:=by unfold Zr;kernel_rfl
theorem Fz:Zr Tryz.prog 64 (.agg #[.int .i64 0,.int .i64 0,.slice none 0 0,.slice none 0 0,.slice none 0 0]) 5 88:=by unfold Zr;kernel_rfl
theorem U0:Zr Tryz.prog 66 (.agg #[.slice none 0 0,.int .i64 0,.int .i64 0,.slice none 0 0,.slice none 0 0,.slice none 0 0]) 6 112:=by unfold Zr;kernel_rfl
theorem Zx:Zr Tryz.prog 82 (.agg #[]) 0 0:=by unfold Zr;kernel_rfl
theorem AaY:Zr Tryz.prog 96 (.agg #[.slice none 0 0]) 1 24:=by unfold Zr;kernel_rfl
theorem Fq:Zr Tryz.prog 98 (.agg #[.slice none 0 0,.slice none 0 0,.slice none 0 0]) 3 72:=by unfold Zr;kernel_rfl
theorem X0:Zr Tryz.prog 109 (.slice none 0 0) 1 24:=by unfold Zr;kernel_rfl
theorem AbG:Zr Tryz.prog 131 (.slice none 0 0) 1 24:=by unfold Zr;kernel_rfl
theorem Lb:Zr Tryz.prog 135 (.agg #[.string .empty,.int .i64 0,.int .i64 0]) 3 32:=by unfold Zr;kernel_rfl
theorem Kb:Zr Tryz.prog 137 (.agg #[.int .i64 0,.int .i64 0]) 2 16:=by unfold Zr;kernel_rfl
theorem Aa4:Zr Tryz.prog 139 (.map none) 1 8:=by unfold Zr;kernel_rfl
theorem K0:Zr Tryz.prog 142 (.agg #[.string .empty,.int .i64 0,.int .i64 0,.string .empty]) 4 48:=by unfold Zr;kernel_rfl
theorem Nz:Zr Tryz.prog 192 (.agg #[.string .empty,.slice none 0 0]) 2 40:=by unfold Zr;kernel_rfl
theorem RI:Zr Tryz.prog 203 (.agg #[.string .empty,.int .i64 0,.int .i64 0,.string .empty,.slice none 0 0]) 5 72:=by unfold Zr;kernel_rfl
theorem S7(w:World):(Instr.build 26 #[]).run Tryz.prog w=.ok (.agg #[.int .i64 0,.slice none 0 0,.string .empty,.slice none 0 0,.int .i64 0,.int .i64 0,.slice none 0 0]) w:=by kernel_rfl
theorem Zy(a:Int)(w:World):(Instr.build 26 #[(0,.int .i64 a)]).run Tryz.prog w=.ok (.agg #[.int .i64 a,.slice none 0 0,.string .empty,.slice none 0 0,.int .i64 0,.int .i64 0,.slice none 0 0]) w:=by kernel_rfl
theorem RJ(b:Int)(a:Value)(c:a.oneCell'=true)(w:World):(Instr.build 26 #[(0,.int .i64 b),(1,a)]).run Tryz.prog w=.ok (.agg #[.int .i64 b,a,.string .empty,.slice none 0 0,.int .i64 0,.int .i64 0,.slice none 0 0]) w:=by cases a <;> first | (simp [Value.oneCell'] at c;done) | kernel_rfl
theorem T3(c:Int)(a:Value)(d:a.oneCell'=true)(b:Value)(e:b.oneCell'=true)(w:World):(Instr.build 26 #[(0,.int .i64 c),(1,a),(6,b)]).run Tryz.prog w=.ok (.agg #[.int .i64 c,a,.string .empty,.slice none 0 0,.int .i64 0,.int .i64 0,b]) w:=by cases a <;> first | (simp [Value.oneCell'] at d;done) | cases b <;> first | (simp [Value.oneCell'] at e;done) | kernel_rfl
theorem Lc(b:Int)(a:Value)(c:a.oneCell'=true)(w:World):(Instr.build 26 #[(0,.int .i64 b),(6,a)]).run Tryz.prog w=.ok (.agg #[.int .i64 b,.slice none 0 0,.string .empty,.slice none 0 0,.int .i64 0,.int .i64 0,a]) w:=by cases a <;> first | (simp [Value.oneCell'] at c;done) | kernel_rfl
theorem BL(w:World):(Instr.build 28 #[]).run Tryz.prog w=.ok (.agg #[.int .i64 0,.int .i64 0]) w:=by kernel_rfl
theorem Jv(a:Int)(b:Int)(w:World):(Instr.build 28 #[(0,.int .i64 a),(1,.int .i64 b)]).run Tryz.prog w=.ok (.agg #[.int .i64 a,.int .i64 b]) w:=by kernel_rfl
theorem S8(w:World):(Instr.build 46 #[]).run Tryz.prog w=.ok (.agg #[.int .i64 0,.slice none 0 0]) w:=by kernel_rfl
theorem Zz(a:Int)(w:World):(Instr.build 46 #[(0,.int .i64 a)]).run Tryz.prog w=.ok (.agg #[.int .i64 a,.slice none 0 0]) w:=by kernel_rfl
theorem S9(w:World):(Instr.build 49 #[]).run Tryz.prog w=.ok (.agg #[.int .i64 0,.slice none 0 0]) w:=by kernel_rfl
theorem Z0(a:Int)(w:World):(Instr.build 49 #[(0,.int .i64 a)]).run Tryz.prog w=.ok (.agg #[.int .i64 a,.slice none 0 0]) w:=by kernel_rfl
theorem PN(w:World):(Instr.build 52 #[]).run Tryz.prog w=.ok (.agg #[.int .i64 0,.slice none 0 0,.int .i64 0,.slice none 0 0,.slice none 0 0]) w:=by kernel_rfl
theorem Wa(a:Int)(b:Int)(w:World):(Instr.build 64 #[(0,.int .i64 a),(1,.int .i64 b)]).run Tryz.prog w=.ok (.agg #[.int .i64 a,.int .i64 b,.slice none 0 0,.slice none 0 0,.slice none 0 0]) w:=by kernel_rfl
theorem RL(f:Value)(g:f.oneCell'=true)(a b c d e:Value)(w:World):(Instr.build 66 #[(0,f),(1,.agg #[a,b,c,d,e])]).run Tryz.prog w=.ok (.agg #[f,a,b,c,d,e]) w:=by cases f <;> first | (simp [Value.oneCell'] at g;done) | kernel_rfl
theorem Z1(w:World):(Instr.build 82 #[]).run Tryz.prog w=.ok (.agg #[]) w:=by kernel_rfl
theorem Z2(a:Value)(b:a.oneCell'=true)(w:World):(Instr.build 86 #[(0,a)]).run Tryz.prog w=.ok (.agg #[a,.int .i64 0]) w:=by cases a <;> first | (simp [Value.oneCell'] at b;done) | kernel_rfl
theorem Z3(a:Value)(b:a.oneCell'=true)(w:World):(Instr.build 96 #[(0,a)]).run Tryz.prog w=.ok (.agg #[a]) w:=by cases a <;> first | (simp [Value.oneCell'] at b;done) | kernel_rfl
theorem Vv(w:World):(Instr.build 98 #[]).run Tryz.prog w=.ok (.agg #[.slice none 0 0,.slice none 0 0,.slice none 0 0]) w:=by kernel_rfl
theorem IC(a:Value)(b:Value)(d:b.oneCell'=true)(c:Value)(h2:c.oneCell'=true)(w:World):(Instr.build 98 #[(0,.agg #[a]),(1,b),(2,c)]).run Tryz.prog w=.ok (.agg #[a,b,c]) w:=by cases b <;> first | (simp [Value.oneCell'] at d;done) | cases c <;> first | (simp [Value.oneCell'] at h2;done) | kernel_rfl
theorem X1(a:Int)(w:World):(Instr.build 135 #[(1,.int .i64 a)]).run Tryz.prog w=.ok (.agg #[.string .empty,.int .i64 a,.int .i64 0]) w:=by kernel_rfl
theorem U1(a:Int)(b:Int)(w:World):(Instr.build 137 #[(0,.int .i64 a),(1,.int .i64 b)]).run Tryz.prog w=.ok (.agg #[.int .i64 a,.int .i64 b]) w:=by kernel_rfl
theorem X2(a:Int)(w:World):(Instr.build 137 #[(1,.int .i64 a)]).run Tryz.prog w=.ok (.agg #[.int .i64 0,.int .i64 a]) w:=by kernel_rfl
theorem Q3(a:Value)(e:a.oneCell'=true)(c:Int)(d:Int)(b:Value)(h3:b.oneCell'=true)(w:World):(Instr.build 142 #[(0,a),(1,.int .i64 c),(2,.int .i64 d),(3,b)]).run Tryz.prog w=.ok (.agg #[a,.int .i64 c,.int .i64 d,b]) w:=by cases a <;> first | (simp [Value.oneCell'] at e;done) | cases b <;> first | (simp [Value.oneCell'] at h3;done) | kernel_rfl
theorem U2(a:Value)(c:a.oneCell'=true)(b:Value)(d:b.oneCell'=true)(w:World):(Instr.build 192 #[(0,a),(1,b)]).run Tryz.prog w=.ok (.agg #[a,b]) w:=by cases a <;> first | (simp [Value.oneCell'] at c;done) | cases b <;> first | (simp [Value.oneCell'] at d;done) | kernel_rfl
theorem U3(a b c d:Value)(e:Value)(f:e.oneCell'=true)(w:World):(Instr.build 203 #[(0,.agg #[a,b,c,d]),(1,e)]).run Tryz.prog w=.ok (.agg #[a,b,c,d,e]) w:=by cases e <;> first | (simp [Value.oneCell'] at f;done) | kernel_rfl
theorem Z4(w:World):(Instr.buildSlice 22 0 #[]).run Tryz.prog w=.ok (.slice (some ⟨w.heap.size,0,none⟩) 0 0) (w.alloc (.cells #[] 9)):=by kernel_rfl
theorem NT(a:Value)(b:a.oneCell'=true)(w:World):(Instr.buildSlice 22 1 #[(0,a)]).run Tryz.prog w=.ok (.slice (some ⟨w.heap.size,0,none⟩) 1 1) (w.alloc (.cells #[a] 9)):=by cases a <;> first | (simp [Value.oneCell'] at b;done) | kernel_rfl
theorem Z5(w:World):(Instr.buildSlice 23 0 #[]).run Tryz.prog w=.ok (.slice (some ⟨w.heap.size,0,none⟩) 0 0) (w.alloc (.cells #[] 5)):=by kernel_rfl
theorem Vw(a:Int)(w:World):(Instr.buildSlice 23 1 #[(0,.int .u8 a)]).run Tryz.prog w=.ok (.slice (some ⟨w.heap.size,0,none⟩) 1 1) (w.alloc (.cells #[.int .u8 a] 5)):=by kernel_rfl
theorem Vx(a:Int)(b:Int)(w:World):(Instr.buildSlice 23 2 #[(0,.int .u8 a),(1,.int .u8 b)]).run Tryz.prog w=.ok (.slice (some ⟨w.heap.size,0,none⟩) 2 2) (w.alloc (.cells #[.int .u8 a,.int .u8 b] 5)):=by kernel_rfl
theorem Z6(a:Int)(b:Int)(c:Int)(w:World):(Instr.buildSlice 23 3 #[(0,.int .u8 a),(1,.int .u8 b),(2,.int .u8 c)]).run Tryz.prog w=.ok (.slice (some ⟨w.heap.size,0,none⟩) 3 3) (w.alloc (.cells #[.int .u8 a,.int .u8 b,.int .u8 c] 5)):=by kernel_rfl
theorem KE(a b c d e f g:Value)(w:World):(Instr.buildSlice 24 1 #[(0,.agg #[a,b,c,d,e,f,g])]).run Tryz.prog w=.ok (.slice (some ⟨w.heap.size,0,none⟩) 1 1) (w.alloc (.cells #[a,b,c,d,e,f,g] 26)):=by kernel_rfl
theorem Z7(a b c d e f:Value)(g h i j k l:Value)(w:World):(Instr.buildSlice 42 2 #[(0,.agg #[a,b,c,d,e,f]),(1,.agg #[g,h,i,j,k,l])]).run Tryz.prog w=.ok (.slice (some ⟨w.heap.size,0,none⟩) 2 2) (w.alloc (.cells #[a,b,c,d,e,f,g,h,i,j,k,l] 66)):=by kernel_rfl
theorem PO(a:Bool)(b:Bool)(w:World):(Instr.buildSlice 43 2 #[(0,.bool a),(1,.bool b)]).run Tryz.prog w=.ok (.slice (some ⟨w.heap.size,0,none⟩) 2 2) (w.alloc (.cells #[.bool a,.bool b] 4)):=by kernel_rfl
theorem Z8(a b:Value)(w:World):(Instr.buildSlice 44 1 #[(0,.agg #[a,b])]).run Tryz.prog w=.ok (.slice (some ⟨w.heap.size,0,none⟩) 1 1) (w.alloc (.cells #[a,b] 192)):=by kernel_rfl
theorem Z9(a b c d e:Value)(w:World):(Instr.buildSlice 47 1 #[(0,.agg #[a,b,c,d,e])]).run Tryz.prog w=.ok (.slice (some ⟨w.heap.size,0,none⟩) 1 1) (w.alloc (.cells #[a,b,c,d,e] 203)):=by kernel_rfl
theorem NU(a b c:Value)(w:World):(Instr.buildSlice 50 1 #[(0,.agg #[a,b,c])]).run Tryz.prog w=.ok (.slice (some ⟨w.heap.size,0,none⟩) 1 1) (w.alloc (.cells #[a,b,c] 98)):=by kernel_rfl
theorem ZA(w:World):(Instr.buildSlice 58 0 #[]).run Tryz.prog w=.ok (.slice (some ⟨w.heap.size,0,none⟩) 0 0) (w.alloc (.cells #[] 3)):=by kernel_rfl
theorem HJ(a:Int)(w:World):(Instr.buildSlice 58 1 #[(0,.int .i64 a)]).run Tryz.prog w=.ok (.slice (some ⟨w.heap.size,0,none⟩) 1 1) (w.alloc (.cells #[.int .i64 a] 3)):=by kernel_rfl
theorem Vy(a:Int)(b:Int)(w:World):(Instr.buildSlice 58 2 #[(0,.int .i64 a),(1,.int .i64 b)]).run Tryz.prog w=.ok (.slice (some ⟨w.heap.size,0,none⟩) 2 2) (w.alloc (.cells #[.int .i64 a,.int .i64 b] 3)):=by kernel_rfl
theorem Vz(a:Int)(b:Int)(c:Int)(d:Int)(w:World):(Instr.buildSlice 58 4 #[(0,.int .i64 a),(1,.int .i64 b),(2,.int .i64 c),(3,.int .i64 d)]).run Tryz.prog w=.ok (.slice (some ⟨w.heap.size,0,none⟩) 4 4) (w.alloc (.cells #[.int .i64 a,.int .i64 b,.int .i64 c,.int .i64 d] 3)):=by kernel_rfl
theorem Iu(a b c d e:Value)(w:World):(Instr.buildSlice 62 1 #[(0,.agg #[a,b,c,d,e])]).run Tryz.prog w=.ok (.slice (some ⟨w.heap.size,0,none⟩) 1 1) (w.alloc (.cells #[a,b,c,d,e] 64)):=by kernel_rfl
theorem Kg(a:Value)(b:a.oneCell'=true)(w:World):(Instr.buildSlice 94 1 #[(0,a)]).run Tryz.prog w=.ok (.slice (some ⟨w.heap.size,0,none⟩) 1 1) (w.alloc (.cells #[a] 23)):=by cases a <;> first | (simp [Value.oneCell'] at b;done) | kernel_rfl
theorem NV(a:Value)(f:a.oneCell'=true)(b:Value)(g:b.oneCell'=true)(c:Value)(h2:c.oneCell'=true)(d:Value)(h3:d.oneCell'=true)(e:Value)(h:e.oneCell'=true)(w:World):(Instr.buildSlice 94 5 #[(0,a),(1,b),(2,c),(3,d),(4,e)]).run Tryz.prog w=.ok (.slice (some ⟨w.heap.size,0,none⟩) 5 5) (w.alloc (.cells #[a,b,c,d,e] 23)):=
 (T1 (qs:=#[(0,.agg #[a]),(1,.agg #[b]),(2,.agg #[c]),(3,.agg #[d]),(4,.agg #[e])]) (by show([(0,a.cells),(1,b.cells),(2,c.cells),(3,d.cells),(4,e.cells)]:List (Nat×Array Value))=[(0,(Value.agg #[a]).cells),(1,(Value.agg #[b]).cells),(2,(Value.agg #[c]).cells),(3,(Value.agg #[d]).cells),(4,(Value.agg #[e]).cells)];rw [Ju f,Ju g,Ju h2,Ju h3,Ju h])).trans (by kernel_rfl)
theorem X3(w:World):(Instr.buildSlice 109 0 #[]).run Tryz.prog w=.ok (.slice (some ⟨w.heap.size,0,none⟩) 0 0) (w.alloc (.cells #[] 137)):=by kernel_rfl
theorem X4(a b:Value)(w:World):(Instr.buildSlice 109 1 #[(0,.agg #[a,b])]).run Tryz.prog w=.ok (.slice (some ⟨w.heap.size,0,none⟩) 1 1) (w.alloc (.cells #[a,b] 137)):=by kernel_rfl
theorem X5(a b c:Value)(w:World):(Instr.buildSlice 131 1 #[(0,.agg #[a,b,c])]).run Tryz.prog w=.ok (.slice (some ⟨w.heap.size,0,none⟩) 1 1) (w.alloc (.cells #[a,b,c] 135)):=by kernel_rfl
theorem X6(a:Value)(c:a.oneCell'=true)(b:Value)(d:b.oneCell'=true)(w:World):(Instr.buildSlice 180 2 #[(0,a),(1,b)]).run Tryz.prog w=.ok (.slice (some ⟨w.heap.size,0,none⟩) 2 2) (w.alloc (.cells #[a,b] 58)):=
 (T1 (qs:=#[(0,.agg #[a]),(1,.agg #[b])]) (by show([(0,a.cells),(1,b.cells)]:List (Nat×Array Value))=[(0,(Value.agg #[a]).cells),(1,(Value.agg #[b]).cells)];rw [Ju c,Ju d])).trans (by kernel_rfl)
theorem X7(a b c d:Value)(w:World):(Instr.buildSlice 196 1 #[(0,.agg #[a,b,c,d])]).run Tryz.prog w=.ok (.slice (some ⟨w.heap.size,0,none⟩) 1 1) (w.alloc (.cells #[a,b,c,d] 142)):=by kernel_rfl
theorem ID:Tryz.prog.eqGuardType Tryz.prog.depth 28=false:=by kernel_rfl
theorem Ld(a b c e:Int)(w:World):(Op.equalIn 10000 28 (.agg #[.int .i64 a,.int .i64 b]) (.agg #[.int .i64 c,.int .i64 e])).run Tryz.prog w=.ok (decide (a=c/\b=e)) w:=
 AaM (by kernel_rfl) (by kernel_rfl) (by kernel_rfl : (Tryz.prog.fieldsOf 28).toList = [{ name := "Code", type := 3, offset := 0, embedded := false, tag := "", pkgPath := "", byteOffset := 0 }, { name := "Index", type := 3, offset := 1, embedded := false, tag := "", pkgPath := "", byteOffset := 8 }]) ⟨by decide, rfl⟩ ⟨by decide, rfl⟩ Tryz.underlying3 Tryz.underlying3 a b c e w
theorem AbH(s m:List UInt8)(x y:Int)(a b:List UInt8)(c y2:Int)(w:World):(Op.equalIn 10000 142 (.agg #[.string ⟨s.toArray⟩,.int .i64 x,.int .i64 y,.string ⟨m.toArray⟩]) (.agg #[.string ⟨a.toArray⟩,.int .i64 c,.int .i64 y2,.string ⟨b.toArray⟩])).run Tryz.prog w=.ok (decide (s=a/\x=c/\y=y2/\m=b)) w:=
 AbF (by kernel_rfl) (by kernel_rfl) (by kernel_rfl : (Tryz.prog.fieldsOf 142).toList = [{ name := "path", type := 9, offset := 0, embedded := false, tag := "", pkgPath := "scriptorium/shapes", byteOffset := 0 }, { name := "kind", type := 3, offset := 1, embedded := false, tag := "", pkgPath := "scriptorium/shapes", byteOffset := 16 }, { name := "number", type := 3, offset := 2, embedded := false, tag := "", pkgPath := "scriptorium/shapes", byteOffset := 24 }, { name := "text", type := 9, offset := 3, embedded := false, tag := "", pkgPath := "scriptorium/shapes", byteOffset := 32 }]) ⟨by decide, rfl⟩ ⟨by decide, rfl⟩ ⟨by decide, rfl⟩ ⟨by decide, rfl⟩ Tryz.underlying9 Tryz.underlying3 Tryz.underlying3 Tryz.underlying9 s m x y a b c y2 w
theorem AaZ:Mb Tryz.prog 9 encS:=VX Tryz.underlying9
theorem X8:Mb Tryz.prog 142 IB:=Xy Tryz.underlying142 (fun _ _ _ _ _ _=>by kernel_rfl) (fun s a m b x c y y2 w=>AbH s m x y a b c y2 w)
end Go.Proofs.YtekmbcbgknmhiaaGreatDoor
end
noncomputable section
namespace Go.L
def E0(r:Int):List UInt8:=(Go.Utf8.encode r).data.toList
def OI(l:List UInt8)(p:Nat):Nat×Nat:=Go.Utf8.decode ⟨l.toArray⟩ p
def Du{κ α:Type}[DecidableEq κ](k:κ)(l:List (κ×List α)):List (κ×List α):=DY k (Ct [] k l) l
end Go.L
namespace Go.E
open Go Go.RowKit
section
variable {P:Program} {n:Sz} {ops:Array Oper} {Q:Exit->Act->World->Prop} {L:Env} {w w0:World} {O:List BE} {rest:List Oper} {d:Nat} {ty t t':TypeId} {pos:String} {af:Array Edge} {x y x':Operand} {l:List UInt8}
theorem AbI[Dr]{a:Int}(hx:ev L x=some (.int .i32 a))(ht:P.underlying t=some (.int .i32))(ht':P.underlying t'=some .string):Bt P L w (.convert t t' x) ty (.string ⟨(Go.L.E0 a).toArray⟩):=by
 intro w' _ ρ hρ dst pos af g;have e:(⟨(Go.L.E0 a).toArray⟩:ByteArray)=Utf8.encode a:=by unfold Go.L.E0;rw [Array.toArray_toList]
 rw [e];simp [execOp,hρ x _ hx,convert,run_underlying ht,run_underlying ht',Conv.intToString]
theorem T5[Dr](hx:ev L x=some (.string ⟨l.toArray⟩))(ht:P.underlying t=some .string)(hn:Nat.blt d n.n=true)(hL:AU w0 O w)
  (h:∀ w' b,AU w0 (.obj b (.stringIter ⟨l.toArray⟩ 0)::O) w'->Le (fz w O) (fz w' (.obj b (.stringIter ⟨l.toArray⟩ 0)::O))->S P n ops Q rest ((d,.pointer (some ⟨b,0,none⟩))::L) w'):S P n ops Q (⟨some d,.range t x,ty,pos,af,none⟩::rest) L w:=by
 have hb:∀ b,(BE.obj w.heap.size (.stringIter ⟨l.toArray⟩ 0)).block=some b->w.heap.size<=b:=fun b e=>by cases e;exact Nat.le_refl _
 refine Dl (v:=.pointer (some ⟨w.heap.size,0,none⟩)) (w':=w.alloc (.stringIter ⟨l.toArray⟩ 0)) rfl rfl hn (fun ρ hρ=>?_) (h _ _ (hL.new (C2 w _) (World.alloc_heap_new w _) hb) (N6 hL (C2 w _) hb));simp [execOp,Instr.range,run_underlying ht,hρ x _ hx,newObj,Sem.run]
theorem V0[Dr](i:Nat){b p:Nat}(hx:ev L x=some (.pointer (some ⟨b,0,none⟩)))(hn:Nat.blt d n.n=true)(hL:AU w0 O w)(hi:Dx O i=some (.obj b (.stringIter ⟨l.toArray⟩ p)))
  (a:p<l.length->∀ w',AU w0 (CK O i (.obj b (.stringIter ⟨l.toArray⟩ (p+(Go.L.OI l p).2)))) w'->Le (fz w O) (fz w' (CK O i (.obj b (.stringIter ⟨l.toArray⟩ (p+(Go.L.OI l p).2)))))->S P n ops Q rest ((d,.tuple #[.bool true,.int .i64 (p:Int),.int .i32 ((Go.L.OI l p).1:Int)])::L) w')
  (h2 : ¬ p<l.length->S P n ops Q rest ((d,.tuple #[.bool false])::L) w):S P n ops Q (⟨some d,.next x true,ty,pos,af,none⟩::rest) L w:=by
 have hb:w.heap[b]? = some (.stringIter ⟨l.toArray⟩ p):=hL.at hi;have hs:(ByteArray.mk l.toArray).size=l.length:=by simp [ByteArray.size]
 by_cases hp:p<l.length
 ·have hr:=Lib.run_next_any_at (P:=P) w b ⟨l.toArray⟩ p ty hb (by rw [hs];exact hp);have hput:=hL.putAt (.stringIter ⟨l.toArray⟩ (p+(Go.L.OI l p).2)) hi;refine Dl (v:=.tuple #[.bool true,.int .i64 (p:Int),.int .i32 ((Go.L.OI l p).1:Int)]) (w':=_) rfl rfl hn (fun ρ hρ=>?_) (a hp _ hput.1 hput.2);have e:w.iterAt b ⟨l.toArray⟩ (p+(Utf8.decode ⟨l.toArray⟩ p).2)=w.putObj b (.stringIter ⟨l.toArray⟩ (p+(Go.L.OI l p).2)):=rfl;rw [e] at hr;simp [execOp,hρ x _ hx,hr,Go.L.OI]
 ·have hr:=Lib.run_next_end_at (P:=P) w b ⟨l.toArray⟩ p ty hb (by rw [hs];exact hp);refine Dl (v:=.tuple #[.bool false]) (w':=w) rfl rfl hn (fun ρ hρ=>?_) (h2 hp);simp [execOp,hρ x _ hx,hr]
end
section
variable {κ:Type} {enc:κ->Value} {k:κ}
theorem V1:∀ (l:List κ) (vs:List Value) (i m:Nat),l.length=vs.length->l[m]? = some k->(mE enc i l vs).modify m (fun e=>{e with key:=enc k})=mE enc i l vs
 | b::l,u::vs,i,0,_,h=>by simp at h;subst h;simp [mE]
 | b::l,u::vs,i,m+1,hl,h=>by
  have:=V1 l vs (i+1) m (by simpa using hl) (by simpa using h);simp only [mE,List.modify_succ_cons,this]
theorem V2{v:Value}:∀ (l:List κ) (vs:List Value) (i m:Nat),l.length=vs.length->(mE enc i l vs).modify m (fun e=>{e with val:=v})=mE enc i l (vs.set m v)
 | [],[],_,_,_=>by simp [mE]
 | b::l,u::vs,i,0,_=>by simp [mE]
 | b::l,u::vs,i,m+1,hl=>by
  have:=V2 (v:=v) l vs (i+1) m (by simpa using hl);simp only [mE,List.modify_succ_cons,List.set_cons_succ,this]
theorem MY:∀ (l:List κ) (vs:List Value) (i m:Nat),l.length=vs.length->m<l.length->(mE enc i l vs).findIdx? (fun e=>(e.born:Int)==((i+m:Nat):Int))=some m
 | b::l,u::vs,i,0,_,_=>by simp [mE,List.findIdx?_cons]
 | b::l,u::vs,i,m+1,hl,h=>by
  have:=MY l vs (i+1) m (by simpa using hl) (by simpa using h);rw [show i+(m+1)=i+1+m by omega];have hne:((i:Int)==((i+1+m:Nat):Int))=false:=by simp;omega
  simp only [mE,List.findIdx?_cons,hne,Bool.false_eq_true,if_false,this,Option.map_some]
end
section
variable {κ α:Type} [DecidableEq κ] {k:κ} {l:List (κ×List α)}
theorem LD{m:Nat}(h:mI k (l.map Prod.fst)=some m):Go.L.Du k l=l:=by
 unfold Go.L.Du;rw [MX h];have:=PM ([]:List α) h;obtain⟨a,h2⟩:=List.getElem?_eq_some_iff.1 this
 conv=>lhs;rw [<- h2]
 exact List.set_getElem_self a
theorem LF(h:mI k (l.map Prod.fst)=none):Go.L.Du k l=l++[(k,[])]:=by
 unfold Go.L.Du;rw [MW h,PL [] h]
theorem Q4:Go.L.Ct [] k (Go.L.Du k l)=Go.L.Ct [] k l:=by
 cases h:mI k (l.map Prod.fst) with
 | some m=>rw [LD h]
 | none=>
  rw [LF h];clear h
  induction l with
  | nil=>simp [Go.L.Ct]
  | cons a l ih=>
   obtain⟨a,y⟩:=a;simp only [List.cons_append,Go.L.Ct]
   split
   ·rfl
   ·exact ih
theorem X9:∃ m,mI k ((Go.L.Du k l).map Prod.fst)=some m:=by
 cases h:mI k (l.map Prod.fst) with
 | some m=>rw [LD h];exact⟨m,h⟩
 | none=>
  rw [LF h];clear h
  induction l with
  | nil=>exact⟨0,by simp [mI]⟩
  | cons a l ih=>
   obtain⟨a,y⟩:=a;obtain⟨m,hm⟩:=ih;simp only [List.cons_append,List.map_cons,mI]
   split
   ·exact⟨_,rfl⟩
   ·rw [hm];exact⟨_,rfl⟩
theorem T6{y z:List α}:∀ {l:List (κ×List α)},mI k (l.map Prod.fst)=none->Go.L.DY k y (l++[(k,z)])=Go.L.DY k y l
 | [],_=>by simp [Go.L.DY]
 | (a,x)::l,h=>by
  simp only [List.map_cons,mI] at h
  split at h
  ·cases h
  ·rename_i e;simp only [List.cons_append,Go.L.DY,if_neg e];rw [T6 (by cases b:mI k (l.map Prod.fst) <;> simp_all)]
theorem Q5{y:List α}:Go.L.DY k y (Go.L.Du k l)=Go.L.DY k y l:=by
 cases h:mI k (l.map Prod.fst) with
 | some m=>rw [LD h]
 | none=>rw [LF h,T6 h]
def M8(k:κ)(l:List κ):Int:=match mI k l with | some m=>(m:Int) | none=>0
end
section
variable {P:Program} {n:Sz} {ops:Array Oper} {Q:Exit->Act->World->Prop} {L:Env} {w w0:World} {O:List BE} {rest:List Oper} {d:Nat} {ty ty' t mt kt et e:TypeId} {pos pos':String} {af af':Array Edge} {x y x' m':Operand}
 {κ α:Type} [DecidableEq κ] {enc:κ->Value} {cw:α->List Value} {sz:Nat} {l:List (κ×List α)} {vs:List Value} {k:κ} {H:PH} {A:List BE}
theorem U4[Dr](ib:Nat){b:Nat}(hx:ev L x=some (.map (some b)))(hy:ev L y=some (enc k))(ht:P.underlying t=some (.map kt et))(hk:Mb P kt enc)(hz:Mz P et (.slice none 0 0))(hn:Nat.blt d n.n=true)(hL:AU w0 (A++mT cw e sz l vs) w)
  (hib:Dx A ib=some (Ny enc b l vs)) (hl:l.length=vs.length)
  (h:∀ vs' w',(Go.L.Du k l).length=vs'.length->AU w0 (CK A ib (Ny enc b (Go.L.Du k l) vs')++mT cw e sz (Go.L.Du k l) vs') w'->
   Le (fz w (A++mT cw e sz l vs)) (fz w' (CK A ib (Ny enc b (Go.L.Du k l) vs')++mT cw e sz (Go.L.Du k l) vs'))->
   S P n ops Q rest ((d,.tuple #[Uu (.slice none 0 0) k ((Go.L.Du k l).map Prod.fst) vs',.int .i64 (M8 k ((Go.L.Du k l).map Prod.fst))])::L) w') :
  S P n ops Q (⟨some d,.mapEntry t x y,ty,pos,af,none⟩::rest) L w:=by
 have hb:w.heap[b]? = some (.map (mE enc 0 (l.map Prod.fst) vs).toArray l.length):=hL.at (I9 _ hib);have hg:(getObj b).run P w=.ok (.map (mE enc 0 (l.map Prod.fst) vs).toArray l.length) w:=by simp [getObj,Sem.run,hb]
 have hs:∀ o,(setObj b o).run P w=.ok () (w.putObj b o):=fun o=>by simp [setObj,Sem.run,hb,World.putObj]
 have hll:(l.map Prod.fst).length=vs.length:=by rw [List.length_map];exact hl
 cases hm:mI k (l.map Prod.fst) with
 | some m=>
  obtain⟨f,h2⟩:=RD hm;have he:=OG (enc:=enc) (l.map Prod.fst) vs 0 m k hll h2;have hp:=hL.putAt (.map (mE enc 0 (l.map Prod.fst) vs).toArray l.length) (I9 _ hib);rw [KZ _ _ hib] at hp;have h':=h vs (w.putObj b (.map (mE enc 0 (l.map Prod.fst) vs).toArray l.length));rw [LD hm] at h';have g:(mE enc 0 (l.map Prod.fst) vs).toArray.modify m (fun e=>{e with key:=enc k})=(mE enc 0 (l.map Prod.fst) vs).toArray:=by rw [List.modify_toArray,V1 _ vs 0 m hll h2]
  refine Dl (v:=_) (w':=_) rfl rfl hn (fun ρ hρ=>?_) (h' hl hp.1 hp.2)
  have hr:(Instr.mapEntry t (.map (some b)) (enc k)).run P w=.ok (.tuple #[Uu (.slice none 0 0) k (l.map Prod.fst) vs,.int .i64 (M8 k (l.map Prod.fst))]) (w.putObj b (.map (mE enc 0 (l.map Prod.fst) vs).toArray l.length)):=by
   simp only [Instr.mapEntry,Sem.run_bind,run_underlying ht,Result.andThen,hg,hk.check];rw [PK hk hll,hm];simp only [Option.map_some,Sem.run_bind,Result.andThen,List.getElem?_toArray,he,Option.getD_some,Instr.keyThatStays,hk.bits,if_true];simp only [Sem.run_pure,Nat.zero_add];rw [g,hs];simp [Uu,M8,hm,goInt]
  simp [execOp,hρ x _ hx,hρ y _ hy,hr]
 | none=>
  have hp:=hL.putAt (.map (mE enc 0 (l.map Prod.fst++[k]) (vs++[.slice none 0 0])).toArray (l.length+1)) (I9 _ hib);rw [KZ _ _ hib] at hp;have hnil:=PI hp.1 e sz;have h':=h (vs++[.slice none 0 0]) (w.putObj b (.map (mE enc 0 (l.map Prod.fst++[k]) (vs++[.slice none 0 0])).toArray (l.length+1)));rw [LF hm] at h';have hpush:=S4 (enc:=enc) (k:=k) (v:=.slice none 0 0) (l.map Prod.fst) vs 0 hll;rw [Nat.zero_add] at hpush;have c:(l++[(k,([]:List α))]).map Prod.fst=l.map Prod.fst++[k]:=by simp
  have i:(l++[(k,([]:List α))]).length=l.length+1:=by simp
  have hB:(.obj b (.map (mE enc 0 (l.map Prod.fst++[k]) (vs++[.slice none 0 0])).toArray (l.length+1)):BE)=Ny enc b (l++[(k,([]:List α))]) (vs++[.slice none 0 0]):=by unfold Ny;rw [c,i]
  rw [hB] at hp hnil
  have hperm:(CK A ib (Ny enc b (l++[(k,([]:List α))]) (vs++[.slice none 0 0]))++mT cw e sz (l++[(k,([]:List α))]) (vs++[.slice none 0 0])).Perm (.row (.slice none 0 0) e sz 0 []::(CK A ib (Ny enc b (l++[(k,([]:List α))]) (vs++[.slice none 0 0]))++mT cw e sz l vs)):=by
   rw [S5 k [] (.slice none 0 0) hl,<- List.append_assoc];exact List.perm_append_singleton _ _
  have hmm:mI k (l.map Prod.fst++[k])=some l.length:=by
   have hmk:∀ (ks:List κ),mI k ks=none->mI k (ks++[k])=some ks.length:=by
    intro ks
    induction ks with
    | nil=>intro _;simp [mI]
    | cons a ks ih=>
     intro hh;simp only [mI] at hh
     split at hh
     ·cases hh
     ·rename_i ee;simp only [List.cons_append,mI,if_neg ee];rw [ih (by cases f:mI k ks <;> simp_all)];simp
   have:=hmk _ hm
   rwa [List.length_map] at this
  refine Dl (v:=_) (w':=_) rfl rfl hn (fun ρ hρ=>?_) (h' (by simp [hl]) (hnil.1.perm hperm) (by rw [HG hperm];exact hp.2.trans hnil.2))
  have hr:(Instr.mapEntry t (.map (some b)) (enc k)).run P w=.ok (.tuple #[Uu (.slice none 0 0) k ((l++[(k,([]:List α))]).map Prod.fst) (vs++[.slice none 0 0]),.int .i64 (M8 k ((l++[(k,([]:List α))]).map Prod.fst))]) (w.putObj b (.map (mE enc 0 (l.map Prod.fst++[k]) (vs++[.slice none 0 0])).toArray (l.length+1))):=by
   rw [c];simp only [Instr.mapEntry,Sem.run_bind,run_underlying ht,Result.andThen,hg,hk.check];rw [PK hk hll,hm];have hz':(zeroValue et).run P w=.ok (.slice none 0 0) w:=hz w;simp only [Option.map_none,Sem.run_bind,Result.andThen,hz',List.push_toArray];rw [List.length_map] at hpush;rw [hpush,hs];simp [Uu,M8,hmm,goInt,hl]
  simp [execOp,hρ x _ hx,hρ y _ hy,hr]
theorem Aba[Dr](ib:Nat){b:Nat}{v:Value}{yl:List α}{T:List BE}(hpd:AaU cw e sz (Go.L.Du k l) vs k yl v T)(hm:ev L m'=some (.map (some b)))(hkx:ev L x'=some (.int .i64 (M8 k ((Go.L.Du k l).map Prod.fst))))(hv:ev L x=some v)
  (hL:AU w0 (A++T) w) (hib:Dx A ib=some (Ny enc b (Go.L.Du k l) vs))
  (h:∀ vs' w',(Go.L.DY k yl l).length=vs'.length->AU w0 (CK A ib (Ny enc b (Go.L.DY k yl l) vs')++mT cw e sz (Go.L.DY k yl l) vs') w'->
   Le (fz w (A++T)) (fz w' (CK A ib (Ny enc b (Go.L.DY k yl l) vs')++mT cw e sz (Go.L.DY k yl l) vs'))->S P n ops Q rest L w') :
  S P n ops Q (⟨none,.entryStore mt m' x' x,ty,pos,af,none⟩::rest) L w:=by
 obtain⟨_,hl,hpm⟩:=hpd;obtain⟨m,hmi⟩:=X9 (k:=k) (l:=l);rw [Q5] at hpm;have hll:((Go.L.Du k l).map Prod.fst).length=vs.length:=by rw [List.length_map];exact hl
 obtain⟨c,h2⟩:=RD hmi;have hb:w.heap[b]? = some (.map (mE enc 0 ((Go.L.Du k l).map Prod.fst) vs).toArray (Go.L.Du k l).length):=hL.at (I9 T hib);have hg:(getObj b).run P w=.ok (.map (mE enc 0 ((Go.L.Du k l).map Prod.fst) vs).toArray (Go.L.Du k l).length) w:=by simp [getObj,Sem.run,hb]
 have hs:∀ o,(setObj b o).run P w=.ok () (w.putObj b o):=fun o=>by simp [setObj,Sem.run,hb,World.putObj]
 have hU:Uv k v ((Go.L.Du k l).map Prod.fst) vs=vs.set m v:=by unfold Uv;rw [hmi]
 have hK:(Go.L.DY k yl l).map Prod.fst=(Go.L.Du k l).map Prod.fst:=by
  have:=Qu (k:=k) (y:=yl) (l:=Go.L.Du k l);rw [Q5] at this;rw [<- this];unfold upK;rw [hmi]
 have hlen:(Go.L.DY k yl l).length=(Go.L.Du k l).length:=by have:=congrArg List.length hK;simpa using this
 have hf:=MY (enc:=enc) _ vs 0 m hll c;rw [Nat.zero_add] at hf;have hp:=hL.putAt (.map (mE enc 0 ((Go.L.DY k yl l).map Prod.fst) (vs.set m v)).toArray (Go.L.DY k yl l).length) (I9 T hib);rw [KZ _ _ hib] at hp;have a:=List.Perm.append_left (CK A ib (Ny enc b (Go.L.DY k yl l) (Uv k v ((Go.L.Du k l).map Prod.fst) vs))) hpm.symm;rw [hU] at a
 have hr:(Instr.entryStore mt (.map (some b)) (.int .i64 (M8 k ((Go.L.Du k l).map Prod.fst))) v).run P w=.ok () (w.putObj b (.map (mE enc 0 ((Go.L.DY k yl l).map Prod.fst) (vs.set m v)).toArray (Go.L.DY k yl l).length)):=by
  simp only [Instr.entryStore,Sem.run_bind,Result.andThen,hg,M8,hmi,asInt,asIntOf];simp only [Sem.run_bind,Sem.run_pure,Result.andThen,List.findIdx?_toArray,hf,List.modify_toArray];rw [V2 _ vs 0 m hll,hs,hK,hlen]
 refine KW (w':=_) rfl rfl (fun ρ hρ=>?_) (h (vs.set m v) _ (by rw [hlen,List.length_set];exact hl) (hp.1.perm a) ?_)
 ·simp [execOp,hρ m' _ hm,hρ x' _ hkx,hρ x _ hv,hr]
 ·rw [HG a];exact hp.2
end
end Go.E
end
noncomputable section
namespace Go.E
open Go Go.RowKit
def AbJ(v v':Value)(lo:Nat):Prop:=∃ a m cap,v=.slice a m cap/\lo<=m/\m<=cap/\v'=.slice (if cap=lo then a else a.map (·.add lo)) (m - lo) (cap - lo)
theorem AbJ.vec{α:Type}{r:Rp α}{H:PH}{v v':Value}{lo:Nat}{l:List α}(h:AbJ v v' lo)(hv:AA r H v l)(hr:r.sz=1):AA r H v' (l.drop lo):=by
 obtain⟨a,m,cap,rfl,c,h2,rfl⟩:=h;obtain⟨a',cap',he⟩:=hv.header;have hm:m=l.length:=by cases he;rfl
 subst hm;obtain⟨a2,f,g,hs⟩:=hv.sub lo l.length c (Nat.le_refl _)
 cases g
 rw [hr,Nat.mul_one,List.take_of_length_le (by simp)] at hs;exact hs
section
variable {P:Program} {n:Sz} {ops:Array Oper} {Q:Exit->Act->World->Prop} {L:Env} {w w0:World} {O:List BE} {rest:List Oper} {d:Nat}
 {ty:TypeId} {pos:String} {af:Array Edge} {α:Type} {r:Rp α} {x a b:Operand} {v:Value} {t e:TypeId} {H:PH} {k:IntKind} {lo:Int} {m:Nat} {zz:Value} {bt:Nat} {xs:List Value}
end
end Go.E
end
noncomputable section
namespace Go
abbrev No:Int->Value:=Value.int .i64
abbrev Aaq:Value:=.slice none 0 0
abbrev Aas(b:Nat):Value:=.pointer (some ⟨b,0,none⟩)
abbrev Aat(l:List UInt8):Value:=.string ⟨l.toArray⟩
abbrev Aaz:=List UInt8
abbrev Aa1:List Value:=[.int .i64 0,.slice none 0 0,.string ⟨([]:List UInt8).toArray⟩,.slice none 0 0,.int .i64 0,.int .i64 0,.slice none 0 0]
end Go
namespace Go.Proofs.YtekmbcbgknmhiaaGreatDoor
open Go Go.E Go.RowKit Go.L
set_option maxHeartbeats 1000000
set_option maxRecDepth 10000
open _root_.Go.Proofs.Tryz
def CN(a0:Aaz)(a1:Aaz):Option Int:=
 some ((Lib.compareBytes a0 a1))
theorem IK[Dr](w:World)(H:PH)(_hH:Le H (hp w)){a0 a1:Aaz}{r:Int}(h:CN a0 a1=some r):
  Ok prog 238 [Aat a0,Aat a1] w (fun v w'=>Ext w w'/\v=No r):=by
 refine Aw (n:=8) [(0,(Aat a0)),(1,(Aat a1))] func238 rfl fun hL=>AD 1 rfl<|Bs 2 rfl<|Ah (AaP func304 rfl rfl (by kernel_rfl) (by kernel_rfl) rfl rfl) rfl<|A4 1 rfl<|Ax ?_
 cases h
 refine Am rfl ⟨hL.ext,rfl⟩
def strings_Compare(a0:Aaz)(a1:Aaz):Option Int:=
 Option.bind (CN a0 a1) (fun a=>some a)
theorem I4[Dr](w:World)(H:PH)(hH:Le H (hp w)){a0 a1:Aaz}{r:Int}(h:strings_Compare a0 a1=some r):
  Ok prog 188 [Aat a0,Aat a1] w (fun v w'=>Ext w w'/\v=No r):=by
 refine Aw (n:=8) [(0,(Aat a0)),(1,(Aat a1))] func188 rfl fun hL=>AD 1 rfl<|Bs 2 rfl<|Aq h fun e a h=>A8 rfl rfl hL (IK _ _ (Al hH hL) a) fun f d b c=>A4 1 rfl<|Ax ?_
 cases h
 refine Am rfl ⟨b.ext,rfl⟩
def cmp_isNaN_int(a0:Int):Option Bool:=
 some (!decide (a0=a0))
theorem Lg[Dr](w:World)(H:PH)(_hH:Le H (hp w)){a0:Int}{r:Bool}(h:cmp_isNaN_int a0=some r):
  Ok prog 239 [No a0] w (fun v w'=>Ext w w'/\v=.bool r):=by
 refine Aw (n:=6) [(0,No a0)] func239 rfl fun hL=>AD 1 rfl<|AD 4 rfl<|Ax ?_
 cases h
 refine Am rfl ⟨hL.ext,rfl⟩
def GU(a0 a1:Int):Option Int:=
 Option.bind (cmp_isNaN_int a0) (fun b=>Option.bind (cmp_isNaN_int a1) (fun a=>if b then(if a then some (0) else some ((-1))) else(if a then some (1) else(if a0<a1 then some ((-1)) else(if a1<a0 then some (1) else some (0))))))
theorem K1[Dr](w:World)(H:PH)(hH:Le H (hp w)){a0 a1 r:Int}(h:GU a0 a1=some r):
  Ok prog 189 [No a0,No a1] w (fun v w'=>Ext w w'/\v=No r):=by
 refine Aw (n:=20) [(0,No a0),(1,No a1)] func189 rfl fun hL=>AD 1 rfl<|Bs 1 rfl<|Aq h fun p f h=>A8 rfl rfl hL (Lg _ _ (Al hH hL) f) fun q m b k=>A4 1 rfl<|Bs 1 rfl<|Aq h fun s g h=>A8 rfl rfl b (Lg _ _ (Al hH b) g) fun t o a l=>A4 1 rfl<|A9<|AD 1 rfl<|By rfl h (fun i h=>?_) (fun i h=>?_)
 ·refine A9<|AD 1 rfl<|By rfl h (fun j h=>?_) (fun j h=>?_)
  ·refine AD 1 rfl<|Ax ?_
   iterate 2 refine Ay ?_
   cases h
   refine Am rfl ⟨a.ext,rfl⟩
  refine Au<|Ar<|AD 1 rfl<|Ax<|Ay ?_
  cases h
  refine Am rfl ⟨a.ext,rfl⟩
 refine Au<|Ar<|A9<|AD 1 rfl<|By rfl h (fun c h=>?_) (fun c h=>?_)
 ·refine AD 1 rfl<|Ax<|Ay ?_
  cases h
  refine Am rfl ⟨a.ext,rfl⟩
 refine Au<|Ar<|A9<|AD 3 rfl<|AO rfl h (fun d h=>?_) (fun d h=>?_)
 ·refine AD 1 rfl<|Ax<|Ay ?_
  cases h
  refine Am rfl ⟨a.ext,rfl⟩
 refine Au<|Ar<|A9<|AD 3 rfl<|AO rfl h (fun e h=>?_) (fun e h=>?_)
 ·refine AD 1 rfl<|Ax<|Ay ?_
  cases h
  refine Am rfl ⟨a.ext,rfl⟩
 refine Au<|Ar<|AD 1 rfl<|Ax ?_
 cases h
 refine Am rfl ⟨a.ext,rfl⟩
def N0:Option Int:=
 some (0)
def E1(a0:List Int):Int->Option ((Int) ⊕ (Int)):=fun a=>
 if a<(a0.length:Int) then Bh (0<=a/\a<(a0.length:Int)) (if a0.getD a.toNat default=0 then Bh (C0 (a+1)) (some (Sum.inl (a+1))) else Option.map Sum.inr (some (a0.getD a.toNat default))) else Option.map Sum.inr N0
def N1(a0:List Int)(s:Int):Option Int:=Go.L.run (E1 a0) s
def LG(a0:List Int):Option Int:=
 (N1 a0) (0:Int)
theorem Rt[Dr](w:World)(H:PH)(hH:Le H (hp w)){a0:List Int}{b:Value}(e:AA (.int .i64) H b a0){r:Int}(h:LG a0=some r):
  Ok prog 187 [b] w (fun v w'=>Ext w w'/\v=No r):=by
 refine Aw (n:=18) [(0,b)] func187 rfl fun hL=>AD 1 rfl<|AD 1 rfl<|Bw (σ:=Unit) (fun(_:Unit)=>[(3,No 0)]) (fun(_:Unit) wr=>AU w [] wr/\N0=some r) ?_ ?_
 ·refine Bs 1 rfl<|Ah (Bj rfl Aa8 e) rfl<|A4 1 rfl<|A2 ?_;obtain⟨f,h⟩:=AY h;refine B8 (σ:=Int×Nat) (fun⟨a,n⟩=>[(3,No 0),(6,b),(7,No (a0.length:Int)),(8,No a)]) (fun⟨a,n⟩ wr=>AU w [] wr/\GR (E1 a0) n a=some r) (fun⟨a,n⟩=>n) (0,f) (Sub.of rfl) ⟨hL,h⟩ ?_;rintro⟨a,nn36⟩ o ⟨c,h⟩;obtain⟨f,q,rfl,h,d⟩:=AX h;refine AD 1 rfl<|A9<|AO rfl h (fun i h=>?_) (fun i h=>?_)
  ·refine Au<|Ar<|A9<|A2<|Ai<|AB h fun g h=>Be rfl rfl Aa8 Dd e a.toNat (Hc g) (Ba g) rfl ?_;rintro s _ rfl j;refine Ah (Bu rfl AaA rfl j (hH.trans c.arg)) rfl<|A4 1 rfl<|AD 3 rfl<|Cf rfl h (fun k h=>?_) (fun k h=>?_)
   ·refine AD 2 rfl<|Ax<|Az<|Ay<|Cv ?_;have h:=CV.out h d;refine Az<|BH ?_
    cases h
    refine Am rfl ⟨c.ext,rfl⟩
   refine Au<|AJ<|Ar<|Av<|AB h fun l h=>Ah (AK rfl l) rfl<|As 1 rfl<|AQ ?_;have h:=CV.again h d;refine AW ((a+1),f) (Sub.of rfl) ⟨c,h⟩ (Nat.lt_succ_self _)
  refine B5<|AE<|A7 ?_;have h:=CV.out h d;refine Bk<|A6 () (Sub.of rfl) ⟨c,h⟩
 rintro _ p ⟨m,h⟩;refine AD 2 rfl<|Ax ?_
 cases h
 refine Am rfl ⟨m.ext,rfl⟩
def Ic(a0:Aaz×Int×Int×Aaz)(a1:Aaz×Int×Int×Aaz):Option Int:=
 Option.bind (strings_Compare a0.1 a1.1) (fun c=>Option.bind (GU a0.2.1 a1.2.1) (fun d=>Option.bind (GU a0.2.2.1 a1.2.2.1) (fun e=>Option.bind (strings_Compare a0.2.2.2 a1.2.2.2) (fun a=>Option.bind (LG ([c,d,e,a])) (fun b=>some b)))))
theorem LH[Dr](w:World)(H:PH)(hH:Le H (hp w)){a0 a1:Aaz×Int×Int×Aaz}{r:Int}(h:Ic a0 a1=some r):
  Ok prog 137 [.agg #[Aat a0.1,No a0.2.1,No a0.2.2.1,Aat a0.2.2.2],.agg #[Aat a1.1,No a1.2.1,No a1.2.2.1,Aat a1.2.2.2]] w (fun v w'=>Ext w w'/\v=No r):=by
 refine Aw (n:=27) [(0,.agg #[Aat a0.1,No a0.2.1,No a0.2.2.1,Aat a0.2.2.2]),(1,.agg #[Aat a1.1,No a1.2.1,No a1.2.2.1,Aat a1.2.2.2])] func137 rfl fun hL=>Ai<|Dq (t:=142) rfl rfl rfl hL fun w1 b1 j y _=>Dq (t:=142) rfl rfl rfl j fun w2 b2 k z _=>A4 1 rfl<|IQ (.q 0 (.q 1 (.q 2 (.q 3 (.q 4 (.q 5 (.q 6 (.q 7 (.q 8 (.q 9 (.q 10 (.q 11 (.q 12 (.q 13 (.q 14 (.q 15 (.q 16 (.q 17 (.q 18 (.q 19 (.h 20 (.q 21 (.q 22 (.tail 23)))))))))))))))))))))))) mixed (by kernel_rfl) (fun w3 m=>?_);have a:=k.call m;refine FK (Af rfl AaE rfl Kq) rfl rfl<|FK (Ag 1 rfl AaQ rfl a rfl) rfl rfl<|FK (Af rfl AaE rfl Kq) rfl rfl<|FK (Ag 0 rfl AaQ rfl a rfl) rfl rfl<|Aq h fun x5 o h=>KK rfl rfl rfl (fun w6 ag=>I4 _ _ (Le.refl _) o)<|FK (Af rfl AaE rfl Dd) rfl rfl<|FK (Ag 1 rfl AaA rfl a rfl) rfl rfl<|FK (Af rfl AaE rfl Dd) rfl rfl<|FK (Ag 0 rfl AaA rfl a rfl) rfl rfl<|Aq h fun x7 p h=>KK rfl rfl rfl (fun w8 ah=>K1 _ _ (Le.refl _) p)<|FK (Af rfl AaE rfl Dd) rfl rfl ?_
 refine FK (Ag 1 rfl AaA rfl a rfl) rfl rfl<|FK (Af rfl AaE rfl Dd) rfl rfl<|FK (Ag 0 rfl AaA rfl a rfl) rfl rfl<|Aq h fun x9 s h=>KK rfl rfl rfl (fun ai ad=>K1 _ _ (Le.refl _) s)<|FK (Af rfl AaE rfl Kq) rfl rfl<|FK (Ag 1 rfl AaQ rfl a rfl) rfl rfl<|FK (Af rfl AaE rfl Kq) rfl rfl<|FK (Ag 0 rfl AaQ rfl a rfl) rfl rfl<|Aq h fun u c h=>KK rfl rfl rfl (fun aj ae=>I4 _ _ (Le.refl _) c)<|OB (r:=(.int .i64)) (l:=[x5,x7,x9,u]) rfl rfl (fun _=>Vz _ _ _ _ _) rfl (B2 4) hH a (.c1 rfl (.c1 rfl (.c1 rfl (.c1 rfl .nil)))) fun ak al af b x d=>Aq h fun am e h=>KK rfl rfl rfl (fun an f=>Rt _ _ (Le.refl _) ((d.mono (Al hH b)).mono f.le) e)<|GQ 1 rfl<|DX (fun ao g=>?_);have i:=b.call g;refine Ac<|Ax ?_
 cases h
 refine Am rfl ⟨i.ext,rfl⟩
def KO(a0:Aaz)(a1:Aaz):Option Int:=
 some ((Lib.compareBytes a0 a1))
theorem OJ[Dr](w:World)(H:PH)(hH:Le H (hp w)){a0 a1:Aaz}{a b:Value}(c:AA .byte H a a0)(d:AA .byte H b a1){r:Int}(h:KO a0 a1=some r):
  Ok prog 175 [a,b] w (fun v w'=>Ext w w'/\v=No r):=by
 refine Aw (n:=8) [(0,a),(1,b)] func175 rfl fun hL=>AD 1 rfl<|Bs 2 rfl<|Ah (AaO func227 rfl rfl (by kernel_rfl) (by kernel_rfl) rfl rfl c (hH.trans hL.arg) d (hH.trans hL.arg)) rfl<|A4 1 rfl<|Ax ?_
 cases h
 refine Am rfl ⟨hL.ext,rfl⟩
def K2(a0 a1:Int)(a:Aaz):Option Int:=
 Bh (0<=a0/\a0<=(a.length:Int)) (Bh (0<=a1/\a1<=(a.length:Int)) (Option.bind (KO (a.drop a0.toNat) (a.drop a1.toNat)) (fun b=>some b)))
theorem NW[Dr](w:World)(H:PH)(hH:Le H (hp w)){a0 a1:Int}{i:Aaz}{b:Value}{f:Addr}(c:AA .byte H b i)(d:G9 H f [b]){r:Int}(h:K2 a0 a1 i=some r):
  Ok prog 174 [No a0,No a1,.pointer (some f)] w (fun v w'=>Ext w w'/\v=No r):=by
 refine Aw (n:=13) [(0,No a0),(1,No a1),(2,.pointer (some f))] func174 rfl fun hL=>AD 1 rfl<|IQ (.q 0 (.q 1 (.q 2 (.q 3 (.q 4 (.q 5 (.q 6 (.q 7 (.tail 8))))))))) mixed (by kernel_rfl) (fun t j=>?_);have a:=hL.call j;refine FK (Bu rfl Abj rfl d (hH.trans a.arg)) rfl rfl<|GQ 1 rfl<|AB h fun k h=>Tu rfl rfl rfl Abj NK c k rfl fun u l=>FK (Bu rfl Abj rfl d (hH.trans a.arg)) rfl rfl<|GQ 1 rfl<|AB h fun m h=>Tu rfl rfl rfl Abj NK c m rfl fun x o=>Aq h fun y p h=>KK rfl rfl rfl (fun z e=>OJ _ _ (Le.refl _) ((l.mono (hH.trans a.arg)).mono e.le) ((o.mono (hH.trans a.arg)).mono e.le) p)<|GQ 1 rfl<|DX (fun w9 s=>?_);have g:=a.call s;refine Ac<|Ax ?_
 cases h
 refine Am rfl ⟨g.ext,rfl⟩
end Go.Proofs.YtekmbcbgknmhiaaGreatDoor
end
noncomputable section
namespace Go.E
open Go Go.RowKit
instance Ac3:Dr:=⟨false⟩
theorem Ext.off{w w':World}(h:Below w.heap.size w w'):Ext w w':=⟨h,fun o=>absurd o (by decide)⟩
end Go.E
end
noncomputable section
namespace Go.E
open Go Go.RowKit Go.Sort Go.Proofs Go.Shelf
theorem T7[Dr]{w w':World}(hd:Dr.on=true)(h:Ext w w'):∃ q os,w'=grow (w.drewN q) os:=by
 refine⟨w'.drawn - w.drawn,w'.heap.extract w.heap.size w'.heap.size,?_⟩;have hd:=h.drawn hd
 have hh:w.heap++w'.heap.extract w.heap.size w'.heap.size=w'.heap:=by
  apply Array.ext_getElem?;intro k
  rcases Nat.lt_or_ge k w.heap.size with hk | hk
  ·rw [Array.getElem?_append_left hk,h.block k hk]
  ·rw [Array.getElem?_append_right hk,Array.getElem?_extract];have:=h.size
   split
   ·congr 1;omega
   ·rw [Array.getElem?_eq_none (by omega)]
 obtain⟨heap,tape,drawn,os,output⟩:=w;obtain⟨heap',tape',drawn',os',output'⟩:=w';have a:=h.os;have h2:=h.tape;have h3:=h.output;simp only at a h2 h3 hd hh;subst a;subst h2;subst h3;simp only [grow,World.drewN,World.mk.injEq,and_true,true_and];exact⟨hh.symm,by omega⟩
section
variable {α:Type} [Inhabited α]
theorem K3(enc:α->Value)(w:World)(g m:Nat)(d:Array α)(os:Array Obj)(k:Nat)(hk:k<w.heap.size):(sortWorld enc w g 0 m d os).heap[k]? = if k=g then(w.heap[k]?).map (onCells (putCells enc 0 d)) else w.heap[k]?:=by
 unfold sortWorld grow putRow mapBlock Sort.ahead;simp only;rw [Array.getElem?_append_left (by simpa using hk),Array.getElem?_modify]
 by_cases h:g=k
 ·subst h;simp
 ·rw [if_neg h,if_neg (fun e=>h e.symm)]
theorem Mc(enc:α->Value)(w:World)(g m:Nat)(d:Array α)(os:Array Obj):w.grownBy (sortWorld enc w g 0 m d os) (some g):=
 ⟨rfl,rfl,rfl,by simp [sortWorld,grow,putRow,mapBlock,Sort.ahead],fun k hk hne=>by rw [K3 enc w g m d os k hk,if_neg (fun e=>hne (by rw [e]))]⟩
theorem Ru(enc:α->Value)(d:Array α)(c:Array Value)(h:d.size<=c.size):(putCells enc 0 d c).toList.take d.size=d.toList.map enc:=by
 apply List.ext_getElem?;intro k;rw [List.getElem?_take]
 by_cases hk:k<d.size
 ·rw [if_pos hk];have hkc:k<c.size:=by omega
  simp [putCells,hk,hkc]
 ·rw [if_neg hk,List.getElem?_eq_none (by simp;omega)]
theorem V3{enc:α->Value}{w:World}{e:TypeId}{g cap n sz m:Nat}{xs:List Value}{d:Array α}{os:Array Obj}(ho:w.ownsRow 0 e sz (.slice (some ⟨g,0,none⟩) n cap) n xs)(hl:d.size=xs.length):
  (sortWorld enc w g 0 m d os).ownsRow 0 e sz (.slice (some ⟨g,0,none⟩) n cap) n (d.toList.map enc):=by
 obtain⟨a,h2⟩:=ho;refine⟨by simp;omega,?_⟩
 rcases h2 with ⟨hc,_⟩ | ⟨g',cap',cur,hv,hb,hg,hnc,hcm,hcs,htake⟩
 ·cases hc
 ·cases hv
  have hgl:=lt_of_heap hg;have hle:n * sz<=cap * sz:=Nat.mul_le_mul_right _ hnc;refine .inr ⟨g,cap,putCells enc 0 d cur,rfl,hb,?_,hnc,hcm,by simp [putCells,hcs],?_⟩
  ·rw [K3 enc w g m _ os g hgl,if_pos rfl,hg]
   rfl
  ·have:=Ru enc d cur (by omega);rw [show n * sz=d.size by omega];exact this
theorem MZ{enc:α->Value}{w:World}{e:TypeId}{g cap n sz:Nat}{xs:List Value}{d:Array α}(ho:w.ownsRow 0 e sz (.slice (some ⟨g,0,none⟩) n cap) n xs)(hd:d.toList.map enc=xs):Holds enc w g 0 d/\g<w.heap.size:=by
 obtain⟨b,h2⟩:=ho;have hsz:d.size=xs.length:=by rw [<- hd];simp
 rcases h2 with ⟨hc,_⟩ | ⟨g',cap',cur,hv,hb,hg,hnc,hcm,hcs,htake⟩
 ·cases hc
 ·cases hv
  have hle:n * sz<=cap * sz:=Nat.mul_le_mul_right _ hnc;refine⟨fun j hj=>?_,lt_of_heap hg⟩
  constructor
  ·have a:xs[j]? = some (enc d[j]!):=by rw [<- hd];simp [hj]
   have:cur.toList[j]? = some (enc d[j]!):=by
    rw [<- htake,List.getElem?_take,if_pos (by omega)] at a;exact a
   simp only [World.cell?,hg,Nat.zero_add]
   simpa using this
  ·simp [World.frozen?,hg]
end
theorem ZB{w:World}{e:TypeId}{g cap n q:Nat}{xs:List Value}(ho:w.ownsRow 0 e 1 (.slice (some ⟨g,0,none⟩) n cap) n xs)(hq:q<=n):w.ownsRow 0 e 1 (.slice (some ⟨g,0,none⟩) q cap) q (xs.take q):=by
 obtain⟨a,h2⟩:=ho
 rcases h2 with ⟨hc,_⟩ | ⟨g',cap',cur,hv,hb,hg,hnc,hcm,hcs,htake⟩
 ·cases hc
 ·cases hv
  refine⟨by rw [List.length_take,a];omega,.inr ⟨g,cap,cur,rfl,hb,hg,by omega,hcm,hcs,?_⟩⟩;rw [<- htake,List.take_take,Nat.mul_one,Nat.mul_one,Nat.min_eq_left hq]
section
variable {P:Program} {n:Sz} {ops:Array Oper} {Q:Exit->Act->World->Prop} {L:Env} {w w0:World} {O:List BE} {rest:List Oper} {d:Nat} {ty:TypeId} {pos:String} {af:Array Edge} {v:Value} {e:TypeId} {H:PH} {α β:Type} [Inhabited β] {r:Rp α}
theorem Q6[Dr]{f i sz:Nat}{at_:Array TypeId}{args:List Operand}{l l':List α}{xs ys:List Value}{dd:Array β}{enc:β->Value}{fa:List Value}(hc:Hu P f)(ha:O1 L args=some (v::fa))(hn:Nat.blt d n.n=true)(hL:AU w0 O w)(hi:Dx O i=some (.row v e sz l.length xs))(hd:dd.toList.map enc=ys)(hl:l'.length=l.length)(hy:ys.length=xs.length)(hys:l.length=0->ys=xs)
  (hnil:v=.slice none 0 0->Calls P f (v::fa).toArray w fun e w'=>e=.returned (.tuple #[])/\w'=w)
  (hs:∀ g cap,v=.slice (some ⟨g,0,none⟩) l.length cap->l.length<=cap->Calls P f (v::fa).toArray w fun e w'=>e=.returned (.tuple #[])/\∃ m os,w'=sortWorld enc w g 0 m dd os)
  (h:∀ w',AU w0 (CK O i (.row v e sz l'.length ys)) w'->Le (fz w O) (fz w' (CK O i (.row v e sz l'.length ys)))->S P n ops Q rest ((d,.tuple #[])::L) w') :
  S P n ops Q (⟨some d,.call ⟨.value (.func f),args.toArray,at_⟩,ty,pos,af,none⟩::rest) L w:=by
 have hown:w.ownsRow 0 e sz v l.length xs:=hL.at hi;rw [hl] at h
 rcases hown.2 with ⟨hv,c⟩ | ⟨j,cap,cur,hv,k,o,hnc,_⟩
 ·refine O4 rfl fun a fr=>?_;unfold Oper.wp;rw [JG hc ha _ fr.PV];refine(hnil hv).mono fun en w' ⟨he,hw⟩=>?_;subst he;subst hw;have hyx:=hys c;subst hyx;exact h w' (hL.KL hi (Nat.le_refl _) (World.grownBy.refl _ _) (hL.at hi) (fun b e=>.inl e)) (Hb (r':=.row v e sz l.length ys) hL hi (World.grownBy.refl _ _) (fun b e=>.inl e)) _ (fr.put hn)
 ·refine O4 rfl fun a fr=>?_;unfold Oper.wp;rw [JG hc ha _ fr.PV];refine(hs j cap hv hnc).mono fun en w' ⟨he,m,os,hw⟩=>?_;subst he;have hgr:=Mc enc w j m dd os;rw [<- hw] at hgr
  have hok:(BE.row v e sz l.length ys).ok w':=by
   rw [hw,hv,<- hd];refine V3 (by rw [<- hv];exact hown) ?_;have:dd.toList.length=ys.length:=by rw [<- hd];simp
   simpa [hy] using this
  have hdr:w.drawn<=w'.drawn:=by rw [hw];exact Nat.le_add_right _ _
  have hgr':w.grownBy w' (BE.row v e sz l.length xs).block:=by rw [hv];exact hgr
  exact h w' (hL.KL hi hdr hgr' hok (fun b e=>.inl e)) (Hb (r':=.row v e sz l.length ys) hL hi hgr' (fun b e=>.inl e)) _ (fr.put hn)
theorem Wb[Dr]{f i:Nat}{at_:Array TypeId}{args:List Operand}{l:List α}{l':List β}{z:β}{xs:List Value}{enc:β->Value}(hc:Hu P f)(ha:O1 L args=some [v])(hn:Nat.blt d n.n=true)(hL:AU w0 O w)(hi:Dx O i=some (.row v e 1 l.length xs))(hle:l'.length<=l.length)
  (hnil:v=.slice none 0 0->Calls P f #[v] w fun e w'=>e=.returned v/\w'=w)
  (hs:∀ g cap,v=.slice (some ⟨g,0,none⟩) l.length cap->l.length<=cap->Calls P f #[v] w fun e w'=>e=.returned (.slice (some ⟨g,0,none⟩) l'.length cap)/\∃ q,w'=putRow enc (Sort.ahead w q) g 0 (l'++List.replicate (l.length - l'.length) z).toArray)
  (h:∀ v' w',AU w0 (CK O i (.row v' e 1 l'.length (l'.map enc))) w'->Le (fz w O) (fz w' (CK O i (.row v' e 1 l'.length (l'.map enc))))->S P n ops Q rest ((d,v')::L) w') :
  S P n ops Q (⟨some d,.call ⟨.value (.func f),args.toArray,at_⟩,ty,pos,af,none⟩::rest) L w:=by
 have hown:w.ownsRow 0 e 1 v l.length xs:=hL.at hi
 rcases hown.2 with ⟨hv,k⟩ | ⟨c,cap,cur,hv,t,u,hnc,_⟩
 ·have o:l'=[]:=List.eq_nil_of_length_eq_zero (by omega);subst o;refine O4 rfl fun a fr=>?_;unfold Oper.wp;rw [JG hc ha _ fr.PV];refine(hnil hv).mono fun en w' ⟨he,hw⟩=>?_;subst he;subst hw;have p:xs=[]:=List.eq_nil_of_length_eq_zero (by rw [hown.1,k])
  have hok:(BE.row v e 1 ([]:List β).length (([]:List β).map enc)).ok w':=by
   have:=hL.at hi;rw [k,p] at this;exact this
  exact h v w' (hL.KL hi (Nat.le_refl _) (World.grownBy.refl _ _) hok (fun b e=>.inl e)) (Hb (r':=.row v e 1 ([]:List β).length (([]:List β).map enc)) hL hi (World.grownBy.refl _ _) (fun b e=>.inl e)) _ (fr.put hn)
 ·refine O4 rfl fun a fr=>?_;unfold Oper.wp;rw [JG hc ha _ fr.PV];refine(hs c cap hv hnc).mono fun en w' ⟨he,q,hw⟩=>?_;subst he;have j:w'=sortWorld enc w c 0 q (l'++List.replicate (l.length - l'.length) z).toArray #[]:=by rw [hw];unfold sortWorld;rw [grow_empty]
  have hgr:=Mc enc w c q (l'++List.replicate (l.length - l'.length) z).toArray #[];rw [<- j] at hgr
  have hok:(BE.row (.slice (some ⟨c,0,none⟩) l'.length cap) e 1 l'.length (l'.map enc)).ok w':=by
   have s:w'.ownsRow 0 e 1 (.slice (some ⟨c,0,none⟩) l.length cap) l.length ((l'++List.replicate (l.length - l'.length) z).map enc):=by
    have r:=V3 (enc:=enc) (m:=q) (d:=(l'++List.replicate (l.length - l'.length) z).toArray) (os:=#[]) (by rw [<- hv];exact hown) (by have:=hown.1;simp;omega);rw [<- j] at r
    simpa using r
   have h2:=ZB s hle
   rwa [List.map_append,List.take_left' (by simp)] at h2
  have hdr:w.drawn<=w'.drawn:=by rw [j];exact Nat.le_add_right _ _
  have hgr':w.grownBy w' (BE.row v e 1 l.length xs).block:=by rw [hv];exact hgr
  have hb:∀ b,(BE.row (.slice (some ⟨c,0,none⟩) l'.length cap) e 1 l'.length (l'.map enc)).block=some b->(BE.row v e 1 l.length xs).block=some b:=fun b e=>by rw [hv];exact e
  exact h _ w' (hL.KL hi hdr hgr' hok (fun b e=>.inl (hb b e))) (Hb (r':=.row (.slice (some ⟨c,0,none⟩) l'.length cap) e 1 l'.length (l'.map enc)) hL hi hgr' (fun b e=>.inl (hb b e))) _ (fr.put hn)
end
theorem Q7{H:PH}{l:List Int}{xs:List Value}(h:AF (.int .i64) H l xs):l.map (Value.int .i64)=xs:=by
 induction h with
 | nil=>rfl
 | cons h _ ih=>cases h;rw [List.map_cons,ih];rfl
theorem NY(H:PH):∀ l:List Int,AF (.int .i64) H l (l.map (Value.int .i64))
 | []=>.nil
 | _::l=>.cons (c:=[_]) rfl (NY H l)
section
variable {P:Program} {n:Sz} {ops:Array Oper} {Q:Exit->Act->World->Prop} {L:Env} {w w0:World} {O:List BE} {rest:List Oper} {d:Nat} {ty:TypeId} {pos:String} {af:Array Edge} {v:Value} {e:TypeId} {H:PH} {ρr:Go.Shelf.Ren} {f i:Nat} {at_:Array TypeId} {args:List Operand} {xs:List Value}
def Acs(l:List (List UInt8)):List (List UInt8):=l.mergeSort fun x y=>decide (x<=y)
def Lh(l:List Int):List Int:=l.mergeSort fun x y=>decide (x<=y)
theorem ZC[Dr]{l:List Int}(Ls:Lays.n189 P ρr)(hf:ρr.f 189=f)(hc:Hu P f)(ha:O1 L args=some [v])(hn:Nat.blt d n.n=true)(hH:Le H (hp w0))(hL:AU w0 O w)(hi:Dx O i=some (.row v e 1 l.length xs))(he:AF (.int .i64) (gz H w0 w O) l xs)(hlen:l.length<4611686018427387904)
  (h:∀ w' xs',AU w0 (CK O i (.row v e 1 (Lh l).length xs')) w'->Le (fz w O) (fz w' (CK O i (.row v e 1 (Lh l).length xs')))->AF (.int .i64) (gz H w0 w' (CK O i (.row v e 1 (Lh l).length xs'))) (Lh l) xs'->S P n ops Q rest ((d,.tuple #[])::L) w') :
  S P n ops Q (⟨some d,.call ⟨.value (.func f),args.toArray,at_⟩,ty,pos,af,none⟩::rest) L w:=by
 have hxs:=Q7 he;have hll:(Lh l).length=l.length:=List.length_mergeSort _;subst hf;refine Q6 (l':=Lh l) (enc:=Value.int .i64) (dd:=(Lh l).toArray) (ys:=(Lh l).map (Value.int .i64)) hc ha hn hL hi (by simp) hll (by rw [<- hxs];simp [hll]) (fun a=>?_) (fun hv=>?_) (fun g cap hv hcap=>?_) (fun w' b h2=>h w' _ b h2 (NY _ _))
 ·have:l=[]:=List.eq_nil_of_length_eq_zero a;subst this;rw [<- hxs,show Lh []=[] from List.mergeSort_nil]
 ·subst hv;exact Any.slices_Sort_int_none Ls none 0 w
 ·have hown:w.ownsRow 0 e 1 v l.length xs:=hL.at hi;rw [hv] at hown;obtain⟨hH',hblk⟩:=MZ (enc:=Value.int .i64) (d:=l.toArray) hown (by simpa using hxs);subst hv;exact Any.slices_Sort_int Ls g 0 cap l w hH' hblk hlen
theorem Q8{α:Type}[Inhabited α][DecidableEq α](l:List α):(Lib.compact l).length<=l.length:=by
 unfold Lib.compact Lib.compactUpTo;rw [List.length_map];exact Nat.le_trans (List.length_filter_le _ _) (by simp)
theorem ZD[Dr]{l:List Int}(Ls:Lays2.n20 P ρr)(hf:ρr.f 20=f)(hc:Hu P f)(ha:O1 L args=some [v])(hn:Nat.blt d n.n=true)(hH:Le H (hp w0))(hL:AU w0 O w)(hi:Dx O i=some (.row v e 1 l.length xs))(he:AF (.int .i64) (gz H w0 w O) l xs)(hlen:l.length<=9223372036854775807)
  (h:∀ v' w' xs',AU w0 (CK O i (.row v' e 1 (Lib.compact l).length xs')) w'->Le (fz w O) (fz w' (CK O i (.row v' e 1 (Lib.compact l).length xs')))->AF (.int .i64) (gz H w0 w' (CK O i (.row v' e 1 (Lib.compact l).length xs'))) (Lib.compact l) xs'->S P n ops Q rest ((d,v')::L) w') :
  S P n ops Q (⟨some d,.call ⟨.value (.func f),args.toArray,at_⟩,ty,pos,af,none⟩::rest) L w:=by
 have hxs:=Q7 he;subst hf;refine Wb (l':=Lib.compact l) (enc:=Value.int .i64) (z:=0) hc ha hn hL hi (Q8 l) (fun hv=>?_) (fun g cap hv hcap=>?_) (fun v' w' a h2=>h v' w' _ a h2 (NY _ _))
 ·subst hv;exact Any.slices_Compact_int_empty Ls none 0 w
 ·have hown:w.ownsRow 0 e 1 v l.length xs:=hL.at hi;rw [hv] at hown;obtain⟨hH',hblk⟩:=MZ (enc:=Value.int .i64) (d:=l.toArray) hown (by simpa using hxs);subst hv;exact Any.slices_Compact_int Ls g 0 cap l w hH' hlen hcap
end
end Go.E
end
noncomputable section
namespace Go.E
open Go Go.RowKit
structure Cb (P:Program) (a:World) (H:PH) (f:FuncId) (cap:List Value) {σ:Type} (J:σ->List BE->PH->Prop) (step:σ->List UInt8×Int×Int×List UInt8->Option σ):Prop where
 mono:∀ {s:σ} {R:List BE} {G G':PH},Le G G'->J s R G->J s R G'
 ok:∀ {w:World} {O R:List BE} {s s':σ} {x:List UInt8×Int×Int×List UInt8},AU a (HAppend.hAppend O R) w->J s R (gz H a w (HAppend.hAppend O R))->step s x=some s'->
  Ok P f (IB x::cap) w (fun v w'=>v=.tuple #[]/\∃ R':List BE,AU a (HAppend.hAppend O R') w'/\Le (fz w (HAppend.hAppend O R)) (fz w' (HAppend.hAppend O R'))/\J s' R' (gz H a w' (HAppend.hAppend O R')))
section
variable {P:Program} {n:Sz} {ops:Array Oper} {Q:Exit->Act->World->Prop} {L:Env} {w w0:World} {O:List BE} {rest:List Oper} {d:Nat} {ty t t':TypeId} {pos:String} {af:Array Edge} {x y:Operand} {v:Value} {e:TypeId} {pv:Value}
theorem RM(i off:Nat){b:Nat}{cs vs ns:List Value}{a:TypeId}{zz:Value}{bt:Nat}(hx:ev L x=some (.pointer (some ⟨b,off,none⟩)))(hy:ev L y=some v)(hc:v.cells.toList=vs)(hz:Zr P t zz vs.length bt)(hL:AU w0 O w)(hi:Dx O i=some (.box b cs a))(hlen:Nat.ble (off+vs.length) cs.length=true)(hns:cs.take off++vs++cs.drop (off+vs.length)=ns)(c:∀ u∈vs,u.oneCell'=true)
  (h:∀ w',AU w0 (CK O i (.box b ns a)) w'->Le (fz w O) (fz w' (CK O i (.box b ns a)))->S P n ops Q rest L w'):S P n ops Q (⟨none,.store t x y,ty,pos,af,none⟩::rest) L w:=by
 subst hc;have hlen':=Nat.le_of_ble_eq_true hlen;obtain⟨inf,d,g,f,j⟩:=hz.parts;have hb:w.heap[b]? = some (.cells cs.toArray a (0,0)):=hL.at hi;have hst:=run_storeCells_at P b off a v.cells.toList 0 cs.toArray w hb (by simp at hlen' ⊢;omega) c;simp only [Nat.add_zero,List.toList_toArray] at hst;rw [hns] at hst;have hsz:v.cells.size=inf.size:=by rw [f];simp
 refine KW (w':=w.setRow b ns.toArray) rfl rfl (fun ρ hρ=>by
  simp [execOp,hρ x _ hx,hρ y _ hy,Instr.storeAt,Instr.sureAddr,storeVar,sizeOf,typeInfo,d,hsz,hst]) ?_
 have hg:=M1 w b ns.toArray
 have hnl:ns.length=cs.length:=by
  rw [<- hns];simp only [List.length_append,List.length_take,List.length_drop];omega
 have hok:BE.ok (w.setRow b ns.toArray) (.box b ns a):=by
  show(w.setRow b ns.toArray).heap[b]? = _
  exact KX w b cs.toArray ns.toArray a hb
 exact h _ (hL.KL hi (Nat.le_refl _) hg hok (fun b' e=>.inl e)) (Hb hL hi hg (fun b' e=>.inl e))
theorem Abb{α:Type}{r:Rp α}{l:List α}{H:PH}{b c:Operand}{k k':IntKind}{zz:Value}{bt:Nat}(hx:ev L x=some v)(hb:ev L b=some (.int k (l.length:Int)))(hc:ev L c=some (.int k' (l.length:Int)))(ht:P.underlying t=some (.slice e))(he:Zr P e zz r.sz bt)(hv:AA r H v l)(hn:Nat.blt d n.n=true)
  (h:∀ v',AA r H v' l->S P n ops Q rest ((d,v')::L) w):S P n ops Q (⟨some d,.slice t x none (some b) (some c),ty,pos,af,none⟩::rest) L w:=by
 obtain⟨inf,i,q,s,u⟩:=he.parts;obtain⟨A,cap,j,o,p,a,f⟩:=hv.ex;subst j
 have hr:∀ w,Bt P L w (.slice t x none (some b) (some c)) ty (.slice A l.length l.length):=fun w w' _ ρ hρ dst pos af g=>by
  have m:(l.length:Int)<=(cap:Int):=by omega
  simp [execOp,hρ x _ hx,hρ b _ hb,hρ c _ hc,Instr.sliceAt,run_underlying ht,Instr.slice,Instr.sliceBounds,Instr.sliceBound,asIntOf,sizeOf,typeInfo,i,m]
  cases A <;> simp [Addr.add_zero'] <;> (intro h;omega)
 exact Ah (hr w) hn (h _ ⟨A,l.length,rfl,Nat.le_refl _,by omega,fun hA=>by have:=a hA;omega,f⟩)
theorem XA(m:Nat){b off:Nat}{cs c:List Value}{d:TypeId}{dd:TypeDesc}{zz:Value}{bt:Nat}(hx:ev L x=some (.pointer (some ⟨b,off,none⟩)))(ht:P.underlying t=some dd)(hd:Tm dd=true)(hz:Zr P t zz c.length bt)(h:w.heap[b]? = some (.cells cs.toArray d (0,0)))(hc:(cs.drop off).take m=c):Bt P L w (.load t x) ty (.agg c.toArray):=by
 have a:=((Ux h).add off).part m;rw [hc,Addr.add_lit,Nat.zero_add] at a;exact C7 hx ht hd hz a (Le.refl _)
theorem XB{u:Value}{dd:TypeDesc}(hx:ev L x=some (.iface t' u))(ht:P.underlying t'=some dd)(hd:Vo dd=true):Bt P L w (.typeAssert x t t' true) ty (.tuple #[u,.bool true]):=fun w' _ ρ hρ dst pos af g=>by
 cases dd <;> simp [Vo] at hd <;> simp [execOp,hρ x _ hx,Instr.typeAssert,run_underlying ht]
theorem RN{f:FuncId}{args:List Operand}{vs:List Value}{at_:Array TypeId}{dst:Option Tmp}{fst cap:List Value}{fo:Operand}(hc:Hu P f)(hf:ev L fo=some (.func (.func f) fst.toArray cap.toArray))(ha:O1 L args=some vs)(ρ:Operand->Value)(hρ:Uo L ρ):
  (execOp ρ ⟨dst,.call ⟨.value fo,args.toArray,at_⟩,ty,pos,af,none⟩).run P w=.ok (.enter f (fst++vs++cap).toArray) w:=by
 obtain ⟨fn, c, a, h2, h3⟩ := hc;have b := hρ.map _ _ ha;have h2' : ¬ fn.name = "runtime.NumGoroutine" := by simpa using h2
 simp [execOp,resolve,hρ fo _ hf,Deferred.ofValue,b,invoke,callFunc,a,h2',h3]
theorem ZE{f:FuncId}{args:List Operand}{vs:List Value}{at_:Array TypeId}(fst cap:List Value){fo:Operand}{R:Value->World->Prop}(hf:ev L fo=some (.func (.func f) fst.toArray cap.toArray))(ha:O1 L args=some vs)(hn:Nat.blt d n.n=true)(hok:Ok P f (fst++vs++cap) w R)
  (h:∀ v w',R v w'->S P n ops Q rest ((d,v)::L) w'):S P n ops Q (⟨some d,.call ⟨.value fo,args.toArray,at_⟩,ty,pos,af,none⟩::rest) L w:=
 O4 rfl fun a fr=>by
  unfold Oper.wp;rw [RN hok.1 hf ha _ fr.PV];refine hok.2.mono fun e w' ⟨v,he,hv⟩=>?_;subst he;exact h v w' hv _ (fr.put hn)
theorem XC{f:FuncId}{args:List Operand}{vs:List Value}{at_:Array TypeId}(fst cap:List Value){fo:Operand}{R:Value->World->Prop}(hf:ev L fo=some (.func (.func f) fst.toArray cap.toArray))(ha:O1 L args=some vs)(hn:Nat.blt d n.n=true)(hL:AU w0 O w)(hok:Ok P f (fst++vs++cap) w (fun v w'=>Ext w w'/\R v w'))
  (h:∀ v w',R v w'->Ext w w'->AU w0 O w'->Le (fz w O) (fz w' O)->S P n ops Q rest ((d,v)::L) w'):S P n ops Q (⟨some d,.call ⟨.value fo,args.toArray,at_⟩,ty,pos,af,none⟩::rest) L w:=
 ZE fst cap hf ha hn hok fun v w' hh=>h v w' hh.2 hh.1 (hL.call hh.1) (AP hL hh.1)
theorem NZ{α:Type}{r:Option α}{f:FuncId}{args:List Operand}{vs:List Value}{at_:Array TypeId}(fst cap:List Value){fo:Operand}{R:World->α->Value->Prop}{N:World->Prop}(hf:ev L fo=some (.func (.func f) fst.toArray cap.toArray))(ha:O1 L args=some vs)(hn:Nat.blt d n.n=true)
  (hok:R8 P f (fst++vs++cap) w pv (fun v w'=>Tv r v (R w') (N w'))) (b:r=none->∀ w',N w'->At n Q (.panic (WG pv)) L w')
  (h:∀ y,r=some y->∀ v w',R w' y v->S P n ops Q rest ((d,v)::L) w'):S P n ops Q (⟨some d,.call ⟨.value fo,args.toArray,at_⟩,ty,pos,af,none⟩::rest) L w:=
 O4 rfl fun a fr=>by
  unfold Oper.wp;rw [RN hok.1 hf ha _ fr.PV];refine hok.2.mono fun e w' k=>?_
  cases e with
  | returned v=>
   cases r with
   | none=>exact k.elim
   | some y=>exact h y rfl v w' k _ (fr.put hn)
  | panicked c=>
   obtain⟨rfl,k⟩:=k
   cases r with
   | none=>exact b rfl w' k a fr
   | some y=>exact k.elim
  | outgrown=>exact k.elim
theorem Abc{σ:Type}{c:Code}(I:σ->Env)(R:σ->World->Prop)(hx:W P n c (Tc n I R Q) L w)(hy:∀ s w',R s w'->At n Q .normal (I s) w'):W P n c Q L w:=fun a fr=>
 wp_mono (hx a fr) fun e a' w' q=>by
  cases e with
  | normal=>obtain⟨s,b,h2⟩:=q;exact hy s w' h2 a' b
  | _=>exact q
theorem Jw{id:Nat}{l:List Oper}{m:Nat}(hq:Ho Q)(Inv:World->World->Prop)(hm:P.follows .mixedOrders=true)(hl:l.length=m)(h:Ho Q->∀ w',Ext w w'->Nw (Inv w') P n l Q m (Ma m []) L w'):W P n (.region id l.toArray true) Q L w:=Xw Inv hm hl (h hq)
theorem LI{Inv:World->Prop}{l:List Oper}{fuel:Nat}{listed:Array Bool}(hI:Inv w)(h:Inv w->Nw Inv P n l Q fuel listed L w):Nw Inv P n l Q fuel listed L w:=h hI
theorem AL{Inv:World->Prop}{l:List Oper}{fuel i m:Nat}{done:List Nat}(hI:Inv w)(h:Inv w->Nw Inv P n l Q fuel (Ma m done) L w):S P n l.toArray (Xv Inv P l Q fuel i (Ma m done)) [] L w:=AaW hI (h hI)
def Q9(K L:Env):Bool:=K.all fun x=>(gt L x.1).isNone
theorem XD{L:Env}{s:Nat}{u:Value}(hu:gt L s=some u):∀ K:Env,Q9 K L=true->gt (K++L) s=some u
 | [],_=>hu
 | (a,z)::K,h=>by
  simp only [Q9,List.all_cons,Bool.and_eq_true] at h;have ih:=XD hu K h.2
  have hne:Nat.beq a s=false:=by
   cases hb:Nat.beq a s with
   | false=>rfl
   | true=>
    have:=Nat.eq_of_beq_eq_true hb;rw [this,hu] at h;exact absurd h.1 (by simp)
  show(bif Nat.beq a s then some z else gt (K++L) s)=some u
  rw [hne];exact ih
theorem Fr.strip{a:Act}{L':Env}{v':Value}(k:Nat)(fr:Fr n a ((d,v')::L'))(hv:v=v')(hl:L'.drop k=L)(hk:Q9 (L'.take k) L=true):Fr n a ((d,v)::L):=by
 subst hv;refine⟨fr.size,fr.defers,fun s u hs=>fr.get s u ?_⟩;have e:L'=L'.take k++L:=by rw [<- hl,List.take_append_drop]
 rw [e];have hs':(bif Nat.beq d s then some v else gt L s)=some u:=hs
 show(bif Nat.beq d s then some v else gt (L'.take k++L) s)=some u
 cases hb:Nat.beq d s with
 | true=>rw [hb] at hs';exact hs'
 | false=>rw [hb] at hs';exact XD hs' _ hk
theorem Li{l:List Oper}(m d:Nat)(v:Value)(hb:S P n ops Q (l.drop m) ((d,v)::L) w->S P n ops Q l L w)(h:S P n ops Q (l.drop m) ((d,v)::L) w):S P n ops Q l L w:=hb h
theorem S.to{l:List Oper}{L':Env}{v':Value}(hm:S P n ops Q l ((d,v)::L) w)(k:Nat)(hv:v=v')(hl:L'.drop k=L)(hk:Q9 (L'.take k) L=true):S P n ops Q l ((d,v')::L') w:=fun a fr=>hm a (fr.strip k hv hl hk)
theorem D.to{l:List Oper}{t:Tr}{L':Env}{v':Value}(hm:D P n l Q t ((d,v)::L) w)(k:Nat)(hv:v=v')(hl:L'.drop k=L)(hk:Q9 (L'.take k) L=true):D P n l Q t ((d,v')::L') w:=fun a fr=>hm a (fr.strip k hv hl hk)
section
variable {b c e:Bool}
theorem XE(h:b=true):Value.bool (b&&c)=.bool c:=by rw [h];rfl
theorem XF(h:b=false):Value.bool (b&&c)=.bool false:=by rw [h];rfl
theorem Rv(h:b=true):Value.bool (b||c)=.bool true:=by rw [h];rfl
theorem Rw(h:b=false):Value.bool (b||c)=.bool c:=by rw [h];rfl
end
end
end Go.E
end
noncomputable section
namespace Go.L
theorem Oa{a b:UInt8}(c : ¬ a<b)(h2 : ¬ b<a):a=b:=UInt8.toNat.inj (by rw [UInt8.lt_iff_toNat_lt] at c h2;omega)
theorem Ip:∀ l m:List UInt8,Lib.compareBytes l m = - Lib.compareBytes m l
 | [],[]=>rfl
 | [],_::_=>rfl
 | _::_,[]=>rfl
 | a::l,b::m=>by
  have ih:=Ip l m;unfold Lib.compareBytes
  by_cases c:a<b
  ·have h2 : ¬ b<a:=fun h=>by have:=UInt8.lt_iff_toNat_lt.1 h;have:=UInt8.lt_iff_toNat_lt.1 c;omega
   rw [if_pos c,if_neg h2,if_pos c]
  ·by_cases h2:b<a
   ·rw [if_neg c,if_pos h2,if_pos h2];rfl
   ·rw [if_neg c,if_neg h2,if_neg h2,if_neg c,ih]
theorem M9:∀ l m:List UInt8,Lib.compareBytes l m=0->l=m
 | [],[],_=>rfl
 | [],_::_,h=>by cases h
 | _::_,[],h=>by cases h
 | a::l,b::m,h=>by
  unfold Lib.compareBytes at h
  split at h
  ·cases h
  ·rename_i c
   split at h
   ·cases h
   ·rename_i h2;have e:a=b:=Oa c h2;rw [e,M9 l m h]
theorem QA:∀ l:List UInt8,Lib.compareBytes l l=0
 | []=>rfl
 | a::l=>by
  have h : ¬ a<a:=fun h=>by have:=UInt8.lt_iff_toNat_lt.1 h;omega
  unfold Lib.compareBytes;rw [if_neg h,if_neg h,QA l]
theorem Kr:∀ l m k:List UInt8,Lib.compareBytes l m<0->Lib.compareBytes m k<0->Lib.compareBytes l k<0
 | [],[],_,h,_=>by simp [Lib.compareBytes] at h
 | [],_::_,[],_,h=>by simp [Lib.compareBytes] at h
 | [],_::_,_::_,_,_=>by simp [Lib.compareBytes]
 | _::_,[],_,h,_=>by simp [Lib.compareBytes] at h
 | _::_,_::_,[],_,h=>by simp [Lib.compareBytes] at h
 | a::l,b::m,c::k,d,h2=>by
  have ih:=Kr l m k;unfold Lib.compareBytes at d h2 ⊢
  by_cases hab:a<b
  ·by_cases hbc:b<c
   ·rw [if_pos (UInt8.lt_iff_toNat_lt.2 (by have:=UInt8.lt_iff_toNat_lt.1 hab;have:=UInt8.lt_iff_toNat_lt.1 hbc;omega))];decide
   ·rw [if_neg hbc] at h2
    by_cases hcb:c<b
    ·rw [if_pos hcb] at h2;omega
    ·have e:b=c:=Oa hbc hcb;subst e;rw [if_pos hab];decide
  ·rw [if_neg hab] at d
   by_cases hba:b<a
   ·rw [if_pos hba] at d;omega
   ·rw [if_neg hba] at d;have e:a=b:=Oa hab hba;subst e
    by_cases hac:a<c
    ·rw [if_pos hac];decide
    ·rw [if_neg hac] at h2 ⊢
     by_cases hca:c<a
     ·rw [if_pos hca] at h2;omega
     ·rw [if_neg hca] at h2 ⊢;exact ih d h2
structure Py {α:Type} (c:α->α->Int):Prop where
 swap:∀ x y,c x y = - c y x
 zero:∀ x y,c x y=0->x=y
 trans:∀ x y z,c x y<0->c y z<0->c x z<0
theorem AbK:Py Go.Lib.compareBytes:=⟨Ip,M9,Kr⟩
def T8(a b:Int):Int:=if a<b then -1 else if b<a then 1 else 0
theorem AbL:Py T8:=by
 constructor
 ·intro x y;unfold T8;rcases Int.lt_trichotomy x y with h | h | h
  ·rw [if_pos h,if_neg (by omega),if_pos h]
  ·subst h;rw [if_neg (Int.lt_irrefl _),if_neg (Int.lt_irrefl _)];rfl
  ·rw [if_neg (by omega),if_pos h,if_pos h];rfl
 ·intro x y h;unfold T8 at h;split at h;cases h;split at h;cases h;omega
 ·intro x y z a h2;unfold T8 at *
  split at a
  ·split at h2
   ·rw [if_pos (by omega)];decide
   ·split at h2 <;> omega
  ·split at a <;> omega
def T9{α β:Type}(c:α->α->Int)(d:β->β->Int)(x y:α×β):Int:=if c x.1 y.1=0 then d x.2 y.2 else c x.1 y.1
theorem U5{α β:Type}{c:α->α->Int}{d:β->β->Int}(hc:Py c)(hd:Py d):Py (T9 c d):=by
 constructor
 ·intro x y;unfold T9;have:=hc.swap x.1 y.1
  by_cases h:c x.1 y.1=0
  ·rw [if_pos h,if_pos (by omega)];exact hd.swap _ _
  ·rw [if_neg h,if_neg (by omega)];exact this
 ·intro x y h;unfold T9 at h
  split at h
  ·rename_i a;exact Prod.ext (hc.zero _ _ a) (hd.zero _ _ h)
  ·rename_i a;exact absurd h a
 ·intro x y z a h2;unfold T9 at *
  by_cases e:c x.1 y.1=0
  ·rw [if_pos e] at a;have:=hc.zero _ _ e;rw [this]
   by_cases b:c y.1 z.1=0
   ·rw [if_pos b] at h2 ⊢;exact hd.trans _ _ _ a h2
   ·rw [if_neg b] at h2 ⊢;exact h2
  ·rw [if_neg e] at a
   by_cases b:c y.1 z.1=0
   ·have:=hc.zero _ _ b;rw [<- this,if_neg e];exact a
   ·rw [if_neg b] at h2;have:=hc.trans _ _ _ a h2;rw [if_neg (by omega)];exact this
theorem Py.swo{α:Type}{c:α->α->Int}(h:Py c):Go.Sort.SWO (Go.Proofs.ltOf c):=by
 have hs:=fun x=>h.swap x x
 constructor
 ·intro x;have:=hs x;simp only [Go.Proofs.ltOf,decide_eq_false_iff_not];omega
 ·intro x y z b h2;simp only [Go.Proofs.ltOf,decide_eq_true_eq] at *;exact h.trans _ _ _ b h2
 ·intro x y z b h2;simp only [Go.Proofs.ltOf,decide_eq_false_iff_not] at *;intro h3;have d:=h.swap x y;have e:=h.swap y z
  rcases Int.lt_trichotomy (c y x) 0 with a | a | a
  ·have:=h.trans _ _ _ a h3;omega
  ·rw [h.zero _ _ a] at h2;omega
  ·omega
theorem Py.parts{α:Type}{c:α->α->Int}(h:Py c)(x y:α)(a:Go.Proofs.ltOf c x y=false)(h2:Go.Proofs.ltOf c y x=false):x=y:=by
 simp only [Go.Proofs.ltOf,decide_eq_false_iff_not] at a h2;have:=h.swap x y;exact h.zero _ _ (by omega)
abbrev Lf:Type:=List UInt8×Int×Int×List UInt8
def JM:Lf->Lf->Int:=T9 Go.Lib.compareBytes (T9 T8 (T9 T8 Go.Lib.compareBytes))
theorem KF:Py JM:=U5 AbK (U5 AbL (U5 AbL AbK))
def Jx(l:List Lf):List Lf:=l.mergeSort fun x y=>!(Go.Proofs.ltOf JM) y x
theorem MA(l:List Lf):(Jx l).length=l.length:=List.length_mergeSort _
end Go.L
namespace Go.Proofs.YtekmbcbgknmhiaaGreatDoor
open Go Go.L Go.E
theorem ZF(a b:Int):GU a b=some (T8 a b):=by
 unfold GU cmp_isNaN_int T8;simp only [Option.bind_some,decide_true,Bool.not_true,Bool.false_eq_true,if_false]
 split
 ·rfl
 ·split <;> rfl
theorem ZG(a b:List UInt8):strings_Compare a b=some (Lib.compareBytes a b):=rfl
theorem Abd(a b c d:Int):LG [a,b,c,d]=some (if a=0 then(if b=0 then(if c=0 then d else c) else b) else a):=by
 unfold LG N1
 have step:∀ (i:Nat) (x:Int),[a,b,c,d][i]? = some x->x=0->E1 [a,b,c,d] (i:Int)=some (.inl ((i+1:Nat):Int)):=fun i x hx e=>by
  have hi:i<4:=(List.getElem?_eq_some_iff.1 hx).1;unfold E1;rw [if_pos (by simp;omega),Ak (by simp;omega),if_pos (by rw [Int.toNat_natCast,List.getD_eq_getElem?_getD,hx];exact e),Ak (by unfold C0;omega)]
  rfl
 have stop:∀ (i:Nat) (x:Int),[a,b,c,d][i]? = some x->x≠0->Go.L.run (E1 [a,b,c,d]) (i:Int)=some x:=fun i x hx e=>by
  have hi:i<4:=(List.getElem?_eq_some_iff.1 hx).1;refine BD ?_;unfold E1;have hg:[a,b,c,d].getD (i:Int).toNat default=x:=by rw [Int.toNat_natCast,List.getD_eq_getElem?_getD,hx];rfl
  rw [if_pos (by simp;omega),Ak (by simp;omega),hg,if_neg e]
 have last:Go.L.run (E1 [a,b,c,d]) ((4:Nat):Int)=some 0:=by
  refine BD ?_;unfold E1;rw [if_neg (by simp)]
  rfl
 show Go.L.run _ ((0:Nat):Int)=_
 by_cases ha:a=0
 ·rw [if_pos ha,Cu (step 0 a rfl ha)]
  by_cases hb:b=0
  ·rw [if_pos hb,Cu (step 1 b rfl hb)]
   by_cases hc:c=0
   ·rw [if_pos hc,Cu (step 2 c rfl hc)]
    by_cases hd:d=0
    ·rw [Cu (step 3 d rfl hd)];rw [hd] at last ⊢;exact last
    ·exact stop 3 d rfl hd
   ·rw [if_neg hc];exact stop 2 c rfl hc
  ·rw [if_neg hb];exact stop 1 b rfl hb
 ·rw [if_neg ha];exact stop 0 a rfl ha
theorem U6(x y:Lf):Ic x y=some (JM x y):=by
 unfold Ic JM T9;simp only [ZG,ZF,Abd,Option.bind_some]
end Go.Proofs.YtekmbcbgknmhiaaGreatDoor
end
noncomputable section
namespace Go.L
def iota(n:Nat):List Int:=(List.range n).map fun i:Nat=>(i:Int)
theorem FU(n:Nat):(iota n).length=n:=by simp [iota]
def Md(n:Nat):List (Fin (n+1)):=(List.range n).map fun i=>Fin.ofNat (n+1) i
theorem RO(n:Nat):(Md n).map (fun x=>(x.val:Int))=iota n:=by
 unfold Md iota;rw [List.map_map];apply List.map_congr_left;intro i hi;have:=List.mem_range.1 hi
 show((i % (n+1):Nat):Int)=(i:Int)
 rw [Nat.mod_eq_of_lt (by omega)]
def Ie(a:List UInt8)(x y:Fin (a.length+1)):Int:=Lib.compareBytes (a.drop x.val) (a.drop y.val)
def U7(a:List UInt8):List (Fin (a.length+1)):=(Md a.length).mergeSort fun x y=>!(Go.Proofs.ltOf (Ie a)) y x
def C4(a:List UInt8):List Int:=(U7 a).map fun x=>(x.val:Int)
theorem V4{α:Type}(f:α->List UInt8):Go.Sort.SWO (Go.Proofs.ltOf fun x y=>Lib.compareBytes (f x) (f y)):=by
 constructor
 ·intro x;simp [Go.Proofs.ltOf,QA]
 ·intro x y z a h2;unfold Go.Proofs.ltOf at *;simp only [decide_eq_true_eq] at *;exact Kr _ _ _ a h2
 ·intro x y z a h2;unfold Go.Proofs.ltOf at *;simp only [decide_eq_false_iff_not] at *;intro h3;have b:=Ip (f x) (f y);have c:=Ip (f y) (f z)
  rcases Int.lt_trichotomy (Lib.compareBytes (f y) (f x)) 0 with h | h | h
  ·have:=Kr _ _ _ h h3;omega
  ·rw [M9 _ _ h] at h2;omega
  ·omega
theorem LJ(a:List UInt8)(x y:Fin (a.length+1))(b:Go.Proofs.ltOf (Ie a) x y=false)(h2:Go.Proofs.ltOf (Ie a) y x=false):x=y:=by
 unfold Go.Proofs.ltOf at b h2;simp only [decide_eq_false_iff_not] at b h2;have s:=Ip (a.drop x.val) (a.drop y.val);unfold Ie at b h2;have:=M9 _ _ (show Lib.compareBytes (a.drop x.val) (a.drop y.val)=0 by omega);have hl:(a.drop x.val).length=(a.drop y.val).length:=by rw [this]
 simp only [List.length_drop] at hl;have:=x.isLt;have:=y.isLt;exact Fin.ext (by omega)
end Go.L
end
noncomputable section
namespace Go.Proofs
open Go.Shelf
def Tryz.Pk:Go.Shelf.Ren:=⟨fun | 156=>63 | 165=>104 | 166=>105 | 169=>106 | 240=>160 | 241=>161 | 276=>208 | 277=>209 | n=>n,fun | 31=>22 | 9=>9 | 3=>3 | 4=>4 | 0=>0 | 20=>20 | 72=>164 | 76=>168 | 70=>162 | 37=>23 | 75=>167 | 127=>219 | 164=>261 | 5=>5 | 80=>170 | n=>n,fun | n=>n⟩
open _root_.Go.Proofs.Tryz
theorem kTr{α:Type}{a:Option α}{b c:α}(h:a=some b)(e:b=c:=by kernel_rfl):a=some c:=h.trans (congrArg some e)
theorem Tryz.V5:Go.Proofs.Lays.n156 prog Tryz.Pk:={
 mixed:=by kernel_rfl
 f156:=kTr func63
 f165:=kTr func104
 f166:=kTr func105
 f169:=kTr func106
 f240:=kTr func160
 f241:=kTr func161
 f276:=kTr func208
 f277:=kTr func209
 t0:=Abx
 a0:=isAgg0
 z0:=sizeOf0
 v0:=zeroValue0
 t3:=AaA
 a3:=isAgg3
 z3:=sizeOf3
 v3:=zeroValue3
 t4:=Aby
 a4:=isAgg4
 z4:=sizeOf4
 v4:=zeroValue4
 t9:=AaQ
 a9:=isAgg9
 z9:=sizeOf9
 v9:=zeroValue9
 t20:=Abz
 a20:=isAgg20
 z20:=sizeOf20
 v20:=zeroValue20
 t31:=Ab1
 a31:=isAgg22
 z31:=sizeOf22
 v31:=zeroValue22
 t37:=Abj
 a37:=isAgg23
 z37:=sizeOf23
 v37:=zeroValue23
 t70:=AbE
 a70:=isAgg162
 z70:=sizeOf162
 v70:=zeroValue162
 t72:=AbT
 a72:=isAgg164
 z72:=sizeOf164
 v72:=zeroValue164
 t75:=Aca
 a75:=isAgg167
 z75:=sizeOf167
 v75:=zeroValue167
 t76:=Acb
 a76:=isAgg168
 z76:=sizeOf168
 v76:=zeroValue168
 t127:=Acj
 a127:=isAgg219
 z127:=sizeOf219
 v127:=zeroValue219
 t164:=Ack
 a164:=isAgg261
 z164:=sizeOf261
 v164:=zeroValue261}
def Tryz.Wc:Go.Shelf.Ren:=⟨fun | 17=>205 | 15=>257 | 20=>314 | n=>n,fun | 9=>9 | 23=>260 | 4=>4 | 3=>3 | 0=>0 | 21=>21 | n=>n,fun | n=>n⟩
theorem Tryz.AbM:Go.Proofs.LaysGw.n17 prog Tryz.Wc:={
 mixed:=by kernel_rfl
 f15:=kTr func257
 f17:=kTr func205
 f20:=kTr func314
 t0:=Abx
 a0:=isAgg0
 z0:=sizeOf0
 v0:=zeroValue0
 i0:=by kernel_rfl
 t3:=AaA
 a3:=isAgg3
 z3:=sizeOf3
 v3:=zeroValue3
 i3:=by kernel_rfl
 t4:=Aby
 a4:=isAgg4
 z4:=sizeOf4
 v4:=zeroValue4
 i4:=by kernel_rfl
 t9:=AaQ
 a9:=isAgg9
 z9:=sizeOf9
 v9:=zeroValue9
 i9:=by kernel_rfl
 t21:=Acp
 a21:=isAgg21
 z21:=sizeOf21
 v21:=zeroValue21
 i21:=by kernel_rfl
 t23:=Acr
 a23:=isAgg260
 z23:=sizeOf260
 v23:=zeroValue260
 i23:=by kernel_rfl}
def Tryz.Wd:Go.Shelf.Ren:=⟨fun | 137=>168 | 217=>223 | 266=>270 | n=>n,fun | 9=>9 | 5=>5 | 3=>3 | n=>n,fun | n=>n⟩
theorem Tryz.AbN:Go.Proofs.Lays.n137 prog Tryz.Wd:={
 mixed:=by kernel_rfl
 f137:=kTr func168
 f217:=kTr func223
 f266:=kTr func270
 t3:=AaA
 a3:=isAgg3
 z3:=sizeOf3
 v3:=zeroValue3
 t5:=Acu
 a5:=isAgg5
 z5:=sizeOf5
 v5:=zeroValue5
 t9:=AaQ
 a9:=isAgg9
 z9:=sizeOf9
 v9:=zeroValue9}
def Tryz.We:Go.Shelf.Ren:=⟨fun | 190=>183 | 125=>185 | 258=>234 | 128=>235 | 129=>236 | 302=>287 | 303=>288 | 304=>289 | 305=>290 | 306=>291 | 307=>292 | 308=>293 | 309=>294 | 310=>295 | 333=>325 | 329=>306 | 330=>307 | 334=>326 | 335=>327 | 336=>328 | 344=>337 | n=>n,fun | 31=>22 | 9=>9 | 3=>3 | 46=>171 | 0=>0 | 51=>285 | 53=>205 | 4=>4 | 183=>289 | 182=>288 | 131=>294 | 5=>5 | 218=>333 | 222=>337 | 228=>357 | 229=>229 | n=>n,fun | n=>n⟩
theorem Tryz.Aa5:Go.Proofs.Lays.n190 prog Tryz.We:={
 mixed:=by kernel_rfl
 f125:=kTr func185
 f128:=kTr func235
 f129:=kTr func236
 f190:=kTr func183
 f258:=kTr func234
 f302:=kTr func287
 f303:=kTr func288
 f304:=kTr func289
 f305:=kTr func290
 f306:=kTr func291
 f307:=kTr func292
 f308:=kTr func293
 f309:=kTr func294
 f310:=kTr func295
 f329:=kTr func306
 f330:=kTr func307
 f333:=kTr func325
 f334:=kTr func326
 f335:=kTr func327
 f336:=kTr func328
 f344:=kTr func337
 t0:=Abx
 a0:=isAgg0
 z0:=sizeOf0
 v0:=zeroValue0
 t3:=AaA
 a3:=isAgg3
 z3:=sizeOf3
 v3:=zeroValue3
 t4:=Aby
 a4:=isAgg4
 z4:=sizeOf4
 v4:=zeroValue4
 t5:=Acu
 a5:=isAgg5
 z5:=sizeOf5
 v5:=zeroValue5
 t9:=AaQ
 a9:=isAgg9
 z9:=sizeOf9
 v9:=zeroValue9
 t31:=Ab1
 a31:=isAgg22
 z31:=sizeOf22
 v31:=zeroValue22
 t46:=Acx
 a46:=isAgg171
 z46:=sizeOf171
 v46:=zeroValue171
 t51:=Acz
 a51:=isAgg285
 z51:=sizeOf285
 v51:=zeroValue285
 t53:=Ac0
 a53:=isAgg205
 z53:=sizeOf205
 v53:=zeroValue205
 t131:=Ac1
 a131:=isAgg294
 z131:=sizeOf294
 v131:=zeroValue294
 t182:=Ac2
 a182:=isAgg288
 z182:=sizeOf288
 v182:=zeroValue288
 t183:=Ac4
 a183:=isAgg289
 z183:=sizeOf289
 v183:=zeroValue289
 t218:=Ac5
 a218:=isAgg333
 z218:=sizeOf333
 v218:=zeroValue333
 t222:=Ac6
 a222:=isAgg337
 z222:=sizeOf337
 v222:=zeroValue337
 t228:=Ac9
 a228:=isAgg357
 z228:=sizeOf357
 v228:=zeroValue357
 t229:=AcA
 a229:=isAgg229
 z229:=sizeOf229
 v229:=zeroValue229}
def Tryz.Wf:Go.Shelf.Ren:=⟨fun | 189=>139 | 125=>185 | 257=>190 | 128=>235 | 129=>236 | 294=>240 | 295=>241 | 296=>242 | 297=>243 | 298=>244 | 299=>245 | 216=>246 | 300=>247 | 301=>248 | 328=>305 | 329=>306 | 330=>307 | 331=>308 | 332=>309 | 215=>239 | 343=>332 | n=>n,fun | 28=>58 | 3=>3 | 46=>171 | 0=>0 | 51=>285 | 53=>205 | 4=>4 | 183=>289 | 182=>288 | 131=>294 | 5=>5 | 9=>9 | 218=>333 | 222=>337 | 228=>357 | 229=>229 | n=>n,fun | n=>n⟩
theorem Tryz.AbO:Go.Proofs.Lays.n189 prog Tryz.Wf:={
 mixed:=by kernel_rfl
 f125:=kTr func185
 f128:=kTr func235
 f129:=kTr func236
 f189:=kTr func139
 f215:=kTr func239
 f216:=kTr func246
 f257:=kTr func190
 f294:=kTr func240
 f295:=kTr func241
 f296:=kTr func242
 f297:=kTr func243
 f298:=kTr func244
 f299:=kTr func245
 f300:=kTr func247
 f301:=kTr func248
 f328:=kTr func305
 f329:=kTr func306
 f330:=kTr func307
 f331:=kTr func308
 f332:=kTr func309
 f343:=kTr func332
 t0:=Abx
 a0:=isAgg0
 z0:=sizeOf0
 v0:=zeroValue0
 t3:=AaA
 a3:=isAgg3
 z3:=sizeOf3
 v3:=zeroValue3
 t4:=Aby
 a4:=isAgg4
 z4:=sizeOf4
 v4:=zeroValue4
 t5:=Acu
 a5:=isAgg5
 z5:=sizeOf5
 v5:=zeroValue5
 t9:=AaQ
 a9:=isAgg9
 z9:=sizeOf9
 v9:=zeroValue9
 t28:=Aa8
 a28:=isAgg58
 z28:=sizeOf58
 v28:=zeroValue58
 t46:=Acx
 a46:=isAgg171
 z46:=sizeOf171
 v46:=zeroValue171
 t51:=Acz
 a51:=isAgg285
 z51:=sizeOf285
 v51:=zeroValue285
 t53:=Ac0
 a53:=isAgg205
 z53:=sizeOf205
 v53:=zeroValue205
 t131:=Ac1
 a131:=isAgg294
 z131:=sizeOf294
 v131:=zeroValue294
 t182:=Ac2
 a182:=isAgg288
 z182:=sizeOf288
 v182:=zeroValue288
 t183:=Ac4
 a183:=isAgg289
 z183:=sizeOf289
 v183:=zeroValue289
 t218:=Ac5
 a218:=isAgg333
 z218:=sizeOf333
 v218:=zeroValue333
 t222:=Ac6
 a222:=isAgg337
 z222:=sizeOf337
 v222:=zeroValue337
 t228:=Ac9
 a228:=isAgg357
 z228:=sizeOf357
 v228:=zeroValue357
 t229:=AcA
 a229:=isAgg229
 z229:=sizeOf229
 v229:=zeroValue229}
def Tryz.Wg:Go.Shelf.Ren:=⟨fun | 20=>140 | n=>n,fun | 22=>58 | 3=>3 | 4=>4 | 0=>0 | n=>n,fun | n=>n⟩
theorem Tryz.AbP:Go.Proofs.Lays2.n20 prog Tryz.Wg:={
 mixed:=by kernel_rfl
 f20:=kTr func140
 t0:=Abx
 a0:=isAgg0
 z0:=sizeOf0
 v0:=zeroValue0
 t3:=AaA
 a3:=isAgg3
 z3:=sizeOf3
 v3:=zeroValue3
 t4:=Aby
 a4:=isAgg4
 z4:=sizeOf4
 v4:=zeroValue4
 t22:=Aa8
 a22:=isAgg58
 z22:=sizeOf58
 v22:=zeroValue58
 i3:=by kernel_rfl}
def Tryz.Wh:Go.Shelf.Ren:=⟨fun | 6=>186 | 15=>185 | 14=>237 | 28=>235 | 29=>236 | 20=>296 | 21=>297 | 22=>298 | 23=>299 | 24=>300 | 25=>301 | 26=>302 | 27=>303 | 46=>329 | 47=>306 | 48=>307 | 49=>330 | 50=>331 | 57=>338 | n=>n,fun | 22=>196 | 24=>142 | 25=>198 | 3=>3 | 39=>171 | 0=>0 | 53=>285 | 55=>205 | 4=>4 | 46=>289 | 45=>288 | 50=>294 | 5=>5 | 9=>9 | 66=>333 | 70=>337 | 76=>357 | 77=>229 | n=>n,fun | n=>n⟩
theorem Tryz.Aa6:Go.Proofs.SlLaysF0.n6 prog Tryz.Wh:={
 mixed:=by kernel_rfl
 f6:=⟨Tryz.f186.name,by decide,kTr func186⟩
 f14:=⟨Tryz.f237.name,by decide,kTr func237⟩
 f15:=kTr func185
 f20:=⟨Tryz.f296.name,by decide,kTr func296⟩
 f21:=⟨Tryz.f297.name,by decide,kTr func297⟩
 f22:=⟨Tryz.f298.name,by decide,kTr func298⟩
 f23:=⟨Tryz.f299.name,by decide,kTr func299⟩
 f24:=⟨Tryz.f300.name,by decide,kTr func300⟩
 f25:=⟨Tryz.f301.name,by decide,kTr func301⟩
 f26:=⟨Tryz.f302.name,by decide,kTr func302⟩
 f27:=⟨Tryz.f303.name,by decide,kTr func303⟩
 f28:=kTr func235
 f29:=kTr func236
 f46:=⟨Tryz.f329.name,by decide,kTr func329⟩
 f47:=kTr func306
 f48:=kTr func307
 f49:=⟨Tryz.f330.name,by decide,kTr func330⟩
 f50:=⟨Tryz.f331.name,by decide,kTr func331⟩
 f57:=⟨Tryz.f338.name,by decide,kTr func338⟩
 t0:=Abx
 a0:=isAgg0
 z0:=sizeOf0
 v0:=zeroValue0
 t3:=AaA
 a3:=isAgg3
 z3:=sizeOf3
 v3:=zeroValue3
 t4:=Aby
 a4:=isAgg4
 z4:=sizeOf4
 v4:=zeroValue4
 t5:=Acu
 a5:=isAgg5
 z5:=sizeOf5
 v5:=zeroValue5
 t9:=AaQ
 a9:=isAgg9
 z9:=sizeOf9
 v9:=zeroValue9
 t22:=AcB
 a22:=isAgg196
 z22:=sizeOf196
 v22:=zeroValue196
 t25:=AcC
 a25:=isAgg198
 z25:=sizeOf198
 v25:=zeroValue198
 t39:=Acx
 a39:=isAgg171
 z39:=sizeOf171
 v39:=zeroValue171
 t45:=Ac2
 a45:=isAgg288
 z45:=sizeOf288
 v45:=zeroValue288
 t46:=Ac4
 a46:=isAgg289
 z46:=sizeOf289
 v46:=zeroValue289
 t50:=Ac1
 a50:=isAgg294
 z50:=sizeOf294
 v50:=zeroValue294
 t53:=Acz
 a53:=isAgg285
 z53:=sizeOf285
 v53:=zeroValue285
 t55:=Ac0
 a55:=isAgg205
 z55:=sizeOf205
 v55:=zeroValue205
 t66:=Ac5
 a66:=isAgg333
 z66:=sizeOf333
 v66:=zeroValue333
 t70:=Ac6
 a70:=isAgg337
 z70:=sizeOf337
 v70:=zeroValue337
 t76:=Ac9
 a76:=isAgg357
 z76:=sizeOf357
 v76:=zeroValue357
 t77:=AcA
 a77:=isAgg229
 z77:=sizeOf229
 v77:=zeroValue229}
def Tryz.Wi:Go.Shelf.Ren:=⟨fun | 6=>173 | 15=>185 | 14=>226 | 28=>235 | 29=>236 | 20=>276 | 21=>277 | 22=>278 | 23=>279 | 24=>280 | 25=>281 | 26=>282 | 27=>283 | 46=>322 | 47=>306 | 48=>307 | 49=>323 | 50=>324 | 57=>336 | n=>n,fun | 22=>58 | 24=>3 | 25=>234 | 3=>3 | 39=>171 | 0=>0 | 53=>285 | 55=>205 | 4=>4 | 46=>289 | 45=>288 | 50=>294 | 5=>5 | 9=>9 | 66=>333 | 70=>337 | 76=>357 | 77=>229 | n=>n,fun | n=>n⟩
theorem Tryz.AbQ:Go.Proofs.SlLaysF.n6 prog Tryz.Wi:={
 mixed:=by kernel_rfl
 f6:=⟨Tryz.f173.name,by decide,kTr func173⟩
 f14:=⟨Tryz.f226.name,by decide,kTr func226⟩
 f15:=kTr func185
 f20:=⟨Tryz.f276.name,by decide,kTr func276⟩
 f21:=⟨Tryz.f277.name,by decide,kTr func277⟩
 f22:=⟨Tryz.f278.name,by decide,kTr func278⟩
 f23:=⟨Tryz.f279.name,by decide,kTr func279⟩
 f24:=⟨Tryz.f280.name,by decide,kTr func280⟩
 f25:=⟨Tryz.f281.name,by decide,kTr func281⟩
 f26:=⟨Tryz.f282.name,by decide,kTr func282⟩
 f27:=⟨Tryz.f283.name,by decide,kTr func283⟩
 f28:=kTr func235
 f29:=kTr func236
 f46:=⟨Tryz.f322.name,by decide,kTr func322⟩
 f47:=kTr func306
 f48:=kTr func307
 f49:=⟨Tryz.f323.name,by decide,kTr func323⟩
 f50:=⟨Tryz.f324.name,by decide,kTr func324⟩
 f57:=⟨Tryz.f336.name,by decide,kTr func336⟩
 t0:=Abx
 a0:=isAgg0
 z0:=sizeOf0
 v0:=zeroValue0
 t3:=AaA
 a3:=isAgg3
 z3:=sizeOf3
 v3:=zeroValue3
 t4:=Aby
 a4:=isAgg4
 z4:=sizeOf4
 v4:=zeroValue4
 t5:=Acu
 a5:=isAgg5
 z5:=sizeOf5
 v5:=zeroValue5
 t9:=AaQ
 a9:=isAgg9
 z9:=sizeOf9
 v9:=zeroValue9
 t22:=Aa8
 a22:=isAgg58
 z22:=sizeOf58
 v22:=zeroValue58
 a24:=isAgg3
 z24:=sizeOf3
 t25:=AcD
 a25:=isAgg234
 z25:=sizeOf234
 v25:=zeroValue234
 t39:=Acx
 a39:=isAgg171
 z39:=sizeOf171
 v39:=zeroValue171
 t45:=Ac2
 a45:=isAgg288
 z45:=sizeOf288
 v45:=zeroValue288
 t46:=Ac4
 a46:=isAgg289
 z46:=sizeOf289
 v46:=zeroValue289
 t50:=Ac1
 a50:=isAgg294
 z50:=sizeOf294
 v50:=zeroValue294
 t53:=Acz
 a53:=isAgg285
 z53:=sizeOf285
 v53:=zeroValue285
 t55:=Ac0
 a55:=isAgg205
 z55:=sizeOf205
 v55:=zeroValue205
 t66:=Ac5
 a66:=isAgg333
 z66:=sizeOf333
 v66:=zeroValue333
 t70:=Ac6
 a70:=isAgg337
 z70:=sizeOf337
 v70:=zeroValue337
 t76:=Ac9
 a76:=isAgg357
 z76:=sizeOf357
 v76:=zeroValue357
 t77:=AcA
 a77:=isAgg229
 z77:=sizeOf229
 v77:=zeroValue229}
def Tryz.U8:Go.Shelf.Ren:=⟨fun | 6=>173 | 15=>185 | 14=>226 | 28=>235 | 29=>236 | 20=>276 | 21=>277 | 22=>278 | 23=>279 | 24=>280 | 25=>281 | 26=>282 | 27=>283 | 46=>322 | 47=>306 | 48=>307 | 49=>323 | 50=>324 | 57=>336 | n=>n,fun | 22=>58 | 24=>3 | 25=>234 | 3=>3 | 39=>171 | 0=>0 | 53=>285 | 55=>205 | 4=>4 | 46=>289 | 45=>288 | 50=>294 | 5=>5 | 9=>9 | 66=>333 | 70=>337 | 76=>357 | 77=>229 | n=>n,fun | n=>n⟩
theorem Tryz.Abe:Go.Proofs.SlLaysF0.n6 prog Tryz.U8:={
 mixed:=by kernel_rfl
 f6:=⟨Tryz.f173.name,by decide,kTr func173⟩
 f14:=⟨Tryz.f226.name,by decide,kTr func226⟩
 f15:=kTr func185
 f20:=⟨Tryz.f276.name,by decide,kTr func276⟩
 f21:=⟨Tryz.f277.name,by decide,kTr func277⟩
 f22:=⟨Tryz.f278.name,by decide,kTr func278⟩
 f23:=⟨Tryz.f279.name,by decide,kTr func279⟩
 f24:=⟨Tryz.f280.name,by decide,kTr func280⟩
 f25:=⟨Tryz.f281.name,by decide,kTr func281⟩
 f26:=⟨Tryz.f282.name,by decide,kTr func282⟩
 f27:=⟨Tryz.f283.name,by decide,kTr func283⟩
 f28:=kTr func235
 f29:=kTr func236
 f46:=⟨Tryz.f322.name,by decide,kTr func322⟩
 f47:=kTr func306
 f48:=kTr func307
 f49:=⟨Tryz.f323.name,by decide,kTr func323⟩
 f50:=⟨Tryz.f324.name,by decide,kTr func324⟩
 f57:=⟨Tryz.f336.name,by decide,kTr func336⟩
 t0:=Abx
 a0:=isAgg0
 z0:=sizeOf0
 v0:=zeroValue0
 t3:=AaA
 a3:=isAgg3
 z3:=sizeOf3
 v3:=zeroValue3
 t4:=Aby
 a4:=isAgg4
 z4:=sizeOf4
 v4:=zeroValue4
 t5:=Acu
 a5:=isAgg5
 z5:=sizeOf5
 v5:=zeroValue5
 t9:=AaQ
 a9:=isAgg9
 z9:=sizeOf9
 v9:=zeroValue9
 t22:=Aa8
 a22:=isAgg58
 z22:=sizeOf58
 v22:=zeroValue58
 t25:=AcD
 a25:=isAgg234
 z25:=sizeOf234
 v25:=zeroValue234
 t39:=Acx
 a39:=isAgg171
 z39:=sizeOf171
 v39:=zeroValue171
 t45:=Ac2
 a45:=isAgg288
 z45:=sizeOf288
 v45:=zeroValue288
 t46:=Ac4
 a46:=isAgg289
 z46:=sizeOf289
 v46:=zeroValue289
 t50:=Ac1
 a50:=isAgg294
 z50:=sizeOf294
 v50:=zeroValue294
 t53:=Acz
 a53:=isAgg285
 z53:=sizeOf285
 v53:=zeroValue285
 t55:=Ac0
 a55:=isAgg205
 z55:=sizeOf205
 v55:=zeroValue205
 t66:=Ac5
 a66:=isAgg333
 z66:=sizeOf333
 v66:=zeroValue333
 t70:=Ac6
 a70:=isAgg337
 z70:=sizeOf337
 v70:=zeroValue337
 t76:=Ac9
 a76:=isAgg357
 z76:=sizeOf357
 v76:=zeroValue357
 t77:=AcA
 a77:=isAgg229
 z77:=sizeOf229
 v77:=zeroValue229}
def Tryz.HK:Go.Shelf.Ren:=⟨fun | 32=>232 | 49=>286 | n=>n,fun | 30=>23 | 21=>21 | 3=>3 | 0=>0 | 5=>5 | 4=>4 | 33=>280 | 66=>349 | 25=>171 | 69=>352 | 68=>351 | n=>n,fun | 2=>4 | 3=>5 | n=>n⟩
theorem Tryz.XG:Go.Proofs.Lays7.n32 prog Tryz.HK:={
 mixed:=by kernel_rfl
 f32:=kTr func232
 f49:=kTr func286
 t0:=Abx
 a0:=isAgg0
 z0:=sizeOf0
 v0:=zeroValue0
 i0:=by kernel_rfl
 t3:=AaA
 a3:=isAgg3
 z3:=sizeOf3
 v3:=zeroValue3
 i3:=by kernel_rfl
 t4:=Aby
 a4:=isAgg4
 z4:=sizeOf4
 v4:=zeroValue4
 i4:=by kernel_rfl
 t5:=Acu
 a5:=isAgg5
 z5:=sizeOf5
 v5:=zeroValue5
 i5:=by kernel_rfl
 t21:=Acp
 a21:=isAgg21
 z21:=sizeOf21
 v21:=zeroValue21
 i21:=by kernel_rfl
 t25:=Acx
 a25:=isAgg171
 z25:=sizeOf171
 v25:=zeroValue171
 i25:=by kernel_rfl
 t30:=Abj
 a30:=isAgg23
 z30:=sizeOf23
 v30:=zeroValue23
 i30:=by kernel_rfl
 t33:=AcE
 a33:=isAgg280
 z33:=sizeOf280
 v33:=zeroValue280
 i33:=by kernel_rfl
 t66:=AcF
 a66:=isAgg349
 z66:=sizeOf349
 t68:=AcG
 a68:=isAgg351
 z68:=sizeOf351
 v68:=zeroValue351
 i68:=by kernel_rfl
 t69:=AcH
 a69:=isAgg352
 z69:=sizeOf352
 v69:=zeroValue352
 i69:=by kernel_rfl
 g2:=by kernel_rfl
 g3:=by kernel_rfl}
def Tryz.RP:Go.Shelf.Ren:=⟨fun | 7=>131 | 10=>184 | n=>n,fun | 23=>130 | 26=>9 | 3=>109 | 28=>189 | 0=>0 | 27=>188 | 33=>41 | 4=>4 | n=>n,fun | n=>n⟩
theorem Tryz.Aa7:Go.Proofs.SlLaysZ.n7 prog Tryz.RP:={
 mixed:=by kernel_rfl
 f7:=⟨Tryz.f131.name,by decide,kTr func131⟩
 f10:=⟨Tryz.f184.name,by decide,kTr func184⟩
 t0:=Abx
 a0:=isAgg0
 z0:=sizeOf0
 v0:=zeroValue0
 t4:=Aby
 a4:=isAgg4
 z4:=sizeOf4
 v4:=zeroValue4
 t23:=AcI
 a23:=isAgg130
 z23:=sizeOf130
 v23:=zeroValue130
 t26:=AaQ
 a26:=isAgg9
 z26:=sizeOf9
 v26:=zeroValue9
 t27:=AcJ
 a27:=isAgg188
 z27:=sizeOf188
 v27:=zeroValue188
 t28:=AcK
 a28:=isAgg189
 z28:=sizeOf189
 v28:=zeroValue189
 t33:=AcL
 a33:=isAgg41
 z33:=sizeOf41
 v33:=zeroValue41}
def Tryz.Pm:Go.Shelf.Ren:=⟨fun | 6=>130 | 8=>182 | 9=>183 | 11=>233 | 13=>185 | 12=>234 | 23=>235 | 24=>236 | 14=>287 | 15=>288 | 16=>289 | 17=>290 | 18=>291 | 19=>292 | 20=>293 | 21=>294 | 22=>295 | 25=>325 | 26=>306 | 27=>307 | 28=>326 | 29=>327 | 30=>328 | 31=>337 | n=>n,fun | 26=>9 | 28=>189 | 24=>22 | 0=>0 | 3=>3 | 37=>171 | 48=>285 | 50=>205 | 4=>4 | 40=>289 | 39=>288 | 45=>294 | 5=>5 | 9=>9 | 51=>333 | 55=>337 | 57=>357 | 58=>229 | 33=>41 | n=>n,fun | n=>n⟩
theorem Tryz.ZH:Go.Proofs.SlLaysZ.n6 prog Tryz.Pm:={
 mixed:=by kernel_rfl
 f6:=⟨Tryz.f130.name,by decide,kTr func130⟩
 f8:=⟨Tryz.f182.name,by decide,kTr func182⟩
 f11:=⟨Tryz.f233.name,by decide,kTr func233⟩
 t0:=Abx
 a0:=isAgg0
 z0:=sizeOf0
 v0:=zeroValue0
 t24:=Ab1
 a24:=isAgg22
 z24:=sizeOf22
 v24:=zeroValue22
 t26:=AaQ
 a26:=isAgg9
 z26:=sizeOf9
 v26:=zeroValue9
 t28:=AcK
 a28:=isAgg189
 z28:=sizeOf189
 v28:=zeroValue189
 i26:=by kernel_rfl}
def Tryz.Pn:Go.Shelf.Ren:=⟨fun | 172=>169 | 244=>224 | 245=>225 | 247=>271 | 279=>272 | 280=>273 | 281=>274 | 282=>275 | 287=>319 | 316=>320 | 171=>64 | 205=>321 | 321=>334 | 322=>335 | 243=>107 | 246=>162 | 283=>210 | 284=>211 | 285=>212 | 286=>213 | 129=>236 | 317=>258 | 318=>259 | 319=>260 | 320=>261 | 337=>315 | 338=>316 | n=>n,fun | 9=>9 | 3=>3 | 75=>167 | 76=>168 | 4=>4 | 5=>5 | 167=>310 | 37=>23 | 0=>0 | 85=>311 | 2=>2 | 168=>313 | 53=>205 | 175=>342 | 46=>171 | 210=>345 | 127=>219 | 145=>366 | 143=>364 | 21=>21 | 171=>263 | 173=>266 | 212=>305 | 51=>285 | 20=>20 | 213=>306 | 232=>359 | 233=>360 | 80=>170 | n=>n,fun | 15=>2 | 16=>3 | 17=>1 | 18=>6 | 19=>7 | n=>n⟩
def Tryz.OK:Go.Shelf.Ren:=⟨fun | 153=>167 | 152=>219 | 226=>220 | 227=>221 | 228=>222 | 137=>168 | 119=>267 | 224=>268 | 225=>269 | 217=>223 | 266=>270 | n=>n,fun | 9=>9 | 3=>3 | 4=>4 | 5=>5 | 21=>21 | 117=>272 | 116=>271 | 0=>0 | 46=>171 | 124=>309 | n=>n,fun | n=>n⟩
theorem Tryz.XH:Go.Proofs.Lays.n153 prog Tryz.OK:={
 mixed:=by kernel_rfl
 f119:=kTr func267
 f137:=kTr func168
 f152:=kTr func219
 f153:=kTr func167
 f217:=kTr func223
 f224:=kTr func268
 f225:=kTr func269
 f226:=kTr func220
 f227:=kTr func221
 f228:=kTr func222
 f266:=kTr func270
 t0:=Abx
 a0:=isAgg0
 z0:=sizeOf0
 v0:=zeroValue0
 t3:=AaA
 a3:=isAgg3
 z3:=sizeOf3
 v3:=zeroValue3
 t4:=Aby
 a4:=isAgg4
 z4:=sizeOf4
 v4:=zeroValue4
 t5:=Acu
 a5:=isAgg5
 z5:=sizeOf5
 v5:=zeroValue5
 t9:=AaQ
 a9:=isAgg9
 z9:=sizeOf9
 v9:=zeroValue9
 t21:=Acp
 a21:=isAgg21
 z21:=sizeOf21
 v21:=zeroValue21
 t46:=Acx
 a46:=isAgg171
 z46:=sizeOf171
 v46:=zeroValue171
 t116:=AcM
 a116:=isAgg271
 z116:=sizeOf271
 t117:=AcN
 a117:=isAgg272
 z117:=sizeOf272
 v117:=zeroValue272
 t124:=AcO
 a124:=isAgg309
 z124:=sizeOf309
 v124:=zeroValue309}
end Go.Proofs
end
noncomputable section
namespace Go.Proofs.YtekmbcbgknmhiaaGreatDoor
open Go Go.E Go.RowKit Go.Sort Go.Shelf
theorem Rx(a b:List UInt8):KO a b=some (Lib.compareBytes a b):=rfl
theorem AbR{O:List BE}{i b:Nat}{cs:List Value}{t:TypeId}(h:Dx O i=some (.box b cs t)):BE.box b cs t∈O:=(Dy h).mem_iff.2 (.head _)
theorem Wj{n:Sz}{ops:Array Oper}{Q:Exit->Act->World->Prop}{L:Env}{w f:World}{O:List BE}{rest:List Oper}{d:Nat}{ty:TypeId}{pos:String}{af:Array Edge}{v tv:Value}{H:PH}{i b:Nat}{xs:List Value}{a:List UInt8}{args:List Operand}{at_:Array TypeId}
  (ha:O1 L args=some [v,.func (.func 174) #[] #[.pointer (some ⟨b,0,none⟩)]]) (hn:Nat.blt d n.n=true) (hH:Le H (hp f)) (hL:AU f O w) (hi:Dx O i=some (.row v 3 1 (Go.L.iota a.length).length xs)) (he:AF (.int .i64) (gz H f w O) (Go.L.iota a.length) xs) (htx:AA .byte (gz H f w O) tv a) (hbox:BE.box b [tv] 23∈O) (hl:a.length<4611686018427387904)
  (h:∀ w' xs',AU f (CK O i (.row v 3 1 (Go.L.C4 a).length xs')) w'->Le (fz w O) (fz w' (CK O i (.row v 3 1 (Go.L.C4 a).length xs')))->AF (.int .i64) (gz H f w' (CK O i (.row v 3 1 (Go.L.C4 a).length xs'))) (Go.L.C4 a) xs'->S Tryz.prog n ops Q rest ((d,.tuple #[])::L) w') :
  S Tryz.prog n ops Q (⟨some d,.call ⟨.value (.func 173),args.toArray,at_⟩,ty,pos,af,none⟩::rest) L w:=by
 have hxs:xs=(Go.L.Md a.length).map (fun x:Fin (a.length+1)=>Value.int .i64 (x.val:Int)):=by
  rw [<- Q7 he,<- Go.L.RO,List.map_map];rfl
 have hfl:(Go.L.Md a.length).length=a.length:=by simp [Go.L.Md]
 have hll:(Go.L.C4 a).length=(Go.L.iota a.length).length:=by
  unfold Go.L.C4 Go.L.U7;rw [List.length_map,List.length_mergeSort,hfl,Go.L.FU]
 have hys:(Go.L.C4 a).map (Value.int .i64)=(Go.L.U7 a).map (fun x:Fin (a.length+1)=>Value.int .i64 (x.val:Int)):=by
  unfold Go.L.C4;rw [List.map_map];rfl
 refine Q6 (l':=Go.L.C4 a) (enc:=fun x:Fin (a.length+1)=>Value.int .i64 (x.val:Int)) (dd:=(Go.L.U7 a).toArray) (ys:=(Go.L.C4 a).map (Value.int .i64)) ⟨Tryz.f173,_,Tryz.func173,rfl,rfl⟩ ha hn hL hi (by rw [hys]) hll (by rw [hxs];simp [hll,hfl,Go.L.FU]) (fun l=>?_) (fun hv=>?_) (fun g cap hv hcap=>?_) (fun w' p h2=>h w' _ p h2 (NY _ _))
 ·have p:(Go.L.C4 a).length=0:=by rw [hll];exact l
  have h2:xs.length=0:=by rw [hxs,List.length_map,hfl];rw [Go.L.FU] at l;exact l
  rw [List.eq_nil_of_length_eq_zero p,List.eq_nil_of_length_eq_zero h2];rfl
 ·subst hv;exact AnyF.slices_SortFunc_none Tryz.Abe none 0 _ w
 ·have hown:w.ownsRow 0 3 1 v (Go.L.iota a.length).length xs:=hL.at hi;rw [hv] at hown;obtain⟨hhk,hblk⟩:=MZ (enc:=fun x:Fin (a.length+1)=>Value.int .i64 (x.val:Int)) (d:=(Go.L.Md a.length).toArray) hown (by simpa using hxs.symm);have hsz:(Go.L.iota a.length).length=(Go.L.Md a.length).toArray.size:=by rw [Go.L.FU];simp [hfl]
  have hgo:∀ j x,BE.row v 3 1 j x∈O->True:=fun _ _ _=>trivial;subst hv;have hs:=Any.slices_SortFunc_total (P:=Tryz.prog) Tryz.AbQ (fun x:Fin (a.length+1)=>Value.int .i64 (x.val:Int)) (fun _=>rfl) (Go.L.Ie a) (Go.L.V4 _) 174 #[.pointer (some ⟨b,0,none⟩)] g 0 cap (Go.L.Md a.length).toArray w (enters_of Tryz.func174 (by kernel_rfl) rfl) ?_ hhk hblk (by rw [<- hsz,Go.L.FU];exact hl) (Go.L.LJ a)
  ·rw [<- hsz] at hs;exact hs.mono fun e w' ⟨he,m,os,hw⟩=>⟨he,m,os,hw⟩
  ·intro m os dk hs x y;have hx:=x.isLt;have hy:=y.isLt
   have hr:K2 (x.val:Int) (y.val:Int) a=some (Go.L.Ie a x y):=by
    unfold K2;rw [Go.L.Ak (by omega),Go.L.Ak (by omega),Int.toNat_natCast,Int.toNat_natCast,Rx]
    rfl
   have hne:∀ c,(∃ cs t,BE.box c cs t∈O)->c≠g:=fun c ⟨cs,t,hc⟩ e=>by
    subst e;have hd:=List.pairwise_cons.1 (hL.perm (Dy hi).symm).YN
    have hm:BE.box c cs t∈Kt O i:=by
     rcases List.mem_cons.1 ((Dy hi).mem_iff.1 hc) with h | h
     ·cases h
     ·exact h
    exact hd.1 _ hm c rfl rfl
   have hkeep:∀ k o,w.heap[k]? = some o->k≠g->(sortWorld (fun x:Fin (a.length+1)=>Value.int .i64 (x.val:Int)) w g 0 m dk os).heap[k]? = some o:=fun k o hk hkg=>by
    rw [K3 _ w g m dk os k (lt_of_heap hk),if_neg hkg];exact hk
   have hle:Le (fz w O) (hp (sortWorld (fun x:Fin (a.length+1)=>Value.int .i64 (x.val:Int)) w g 0 m dk os)):=fun c o hc=>by
    refine hkeep c o (UY w O c o hc) fun e=>?_;subst e;have hown:owned O c=true:=CL.2 ⟨_,(Dy hi).mem_iff.2 (.head _),rfl⟩;unfold fz at hc;rw [if_pos hown] at hc
    cases hc
   have hbx:G9 (hp (sortWorld (fun x:Fin (a.length+1)=>Value.int .i64 (x.val:Int)) w g 0 m dk os)) ⟨b,0,none⟩ [tv]:=by
    have hok:w.heap[b]? = some (.cells #[tv] 23 (0,0)):=hL.res _ hbox;have hh:=hkeep b _ hok (hne b ⟨_,_,hbox⟩);refine⟨rfl,fun j u hu=>?_⟩;simp only [Addr.add_lit,Nat.zero_add,Gp,hp,hh]
    simpa using hu
   have hk:=@NW ⟨true⟩ (sortWorld (fun x:Fin (a.length+1)=>Value.int .i64 (x.val:Int)) w g 0 m dk os) (hp _) (Le.refl _) _ _ _ _ _ (htx.mono ((Xa hH hL).trans hle)) hbx _ hr;refine hk.2.mono fun en w' ⟨u,he,hx,hu⟩=>?_;subst he;subst hu;obtain⟨q,os',hw⟩:=@T7 ⟨true⟩ _ _ rfl hx;exact⟨rfl,q,os',hw⟩
end Go.Proofs.YtekmbcbgknmhiaaGreatDoor
end
noncomputable section
namespace Go.L
inductive Qv where
 | mk (kind:Int) (words:List (List UInt8)) (pattern data:List UInt8) (low high:Int) (subs:List Qv)
instance:Inhabited Qv:=⟨.mk 0 [] [] [] 0 0 []⟩
abbrev QvF:Type:=Int×List (List UInt8)×List UInt8×List UInt8×Int×Int×List Qv
def Qv.f:Qv->QvF
 | .mk k ws p d l h ss=>(k,ws,p,d,l,h,ss)
end Go.L
namespace Go.E
open Go Go.L
variable {α β:Type}
def Rp.Ob(r:Rp Qv):Rp QvF:=.pair (.int .i64) (.pair (.vec .st) (.pair .st (.pair (.vec .byte) (.pair (.int .i64) (.pair (.int .i64) (.vec r))))))
def Rp.I5:Nat->Rp Qv
 | 0=>.no Qv 7
 | d+1=>(Rp.Ob (Rp.I5 d)).via Qv.f
theorem Rp.Lj:∀ d,(Rp.I5 d).sz=7
 | 0=>rfl
 | _+1=>rfl
theorem Rp.QB{r s:Rp Qv}{H:PH}{x:QvF}{c:List Value}(hz:r.sz=s.sz)(hrel:∀ y∈x.2.2.2.2.2.2,∀ c,r.rel H y c->s.rel H y c)(h:(Rp.Ob r).rel H x c):(Rp.Ob s).rel H x c:=by
 obtain⟨c1,c2,e,f,c3,c4,g,h2,c5,c6,i,h3,c7,c8,j,k,l,a,m,n,b,d,o,p,v,q,t⟩:=h;exact⟨c1,c2,e,f,c3,c4,g,h2,c5,c6,i,h3,c7,c8,j,k,l,a,m,n,b,d,o,p,v,q,t.Xx hz hrel⟩
theorem Rp.Po{H:PH}:∀ (d:Nat) (x:Qv) (c:List Value),(Rp.I5 d).rel H x c->(Rp.I5 (d+1)).rel H x c
 | 0,_,_,h=>h.elim
 | d+1,x,c,h=>Rp.QB (r:=Rp.I5 d) (s:=Rp.I5 (d+1)) (by rw [Rp.Lj,Rp.Lj]) (fun y _ c h=>Rp.Po d y c h) h
theorem Rp.RQ{H:PH}{d e:Nat}(h:d<=e){x:Qv}{c:List Value}(hx:(Rp.I5 d).rel H x c):(Rp.I5 e).rel H x c:=by
 induction h with
 | refl=>exact hx
 | step _ ih=>exact Rp.Po _ _ _ ih
def Rp.Bg:Rp Qv:=⟨7,fun H x c=>∃ d,(Rp.I5 d).rel H x c,fun h=>by obtain⟨d,h⟩:=h;rw [(Rp.I5 d).len h,Rp.Lj],fun hs h=>by obtain⟨d,h⟩:=h;exact⟨d,(Rp.I5 d).mono hs h⟩,fun h=>by obtain⟨d,h⟩:=h;exact(Rp.I5 d).one h⟩
theorem Rp.Gm{H:PH}{x:Qv}{c:List Value}(h:Rp.Bg.rel H x c):(Rp.Ob Rp.Bg).rel H x.f c:=by
 obtain⟨d,h⟩:=h
 cases d with
 | zero=>exact h.elim
 | succ d=>exact Rp.QB (r:=Rp.I5 d) (s:=Rp.Bg) (Rp.Lj d) (fun y _ c h=>⟨d,h⟩) h
theorem AA.Abf{H:PH}{v:Value}{l:List Qv}(h:AA Rp.Bg H v l):∃ d,AA (Rp.I5 d) H v l:=by
 obtain⟨a,cap,b,h2,h3,f,g⟩:=h.ex
 cases a with
 | none=>exact⟨0,none,cap,b,h2,h3,f,fun A hA=>by cases hA⟩
 | some A=>
  have key:∀ n,∃ d,∀ i x,i<n->l≠[]->l[i]? = some x->∃ c,(Rp.I5 d).rel H x c/\∀ j u,c[j]? = some u->Gp H (A.add (i * 7+j))=some u:=by
   intro n
   induction n with
   | zero=>exact⟨0,fun i x hi=>absurd hi (Nat.not_lt_zero i)⟩
   | succ n ih=>
    obtain⟨d,hd⟩:=ih
    by_cases hl:l=[]
    ·exact⟨0,fun i x _ hn=>absurd hl hn⟩
    cases hx:l[n]? with
    | none=>
     refine⟨d,fun i x hi hn he=>?_⟩
     rcases Nat.lt_succ_iff_lt_or_eq.1 hi with hi | rfl
     ·exact hd i x hi hn he
     ·rw [hx] at he
      cases he
    | some y=>
     obtain⟨c,⟨e,hc⟩,hcell⟩:=(g A rfl hl).2 n y hx;refine⟨max d e,fun i x hi hn he=>?_⟩
     rcases Nat.lt_succ_iff_lt_or_eq.1 hi with hi | rfl
     ·obtain⟨c',k,m⟩:=hd i x hi hn he;exact⟨c',Rp.RQ (Nat.le_max_left ..) k,m⟩
     ·rw [hx] at he
      cases he
      exact⟨c,Rp.RQ (Nat.le_max_right ..) hc,hcell⟩
  obtain⟨d,hd⟩:=key l.length;refine⟨d,some A,cap,b,h2,h3,f,fun B hB hl=>?_⟩
  cases hB
  refine⟨(g A rfl hl).1,fun i x hx=>?_⟩;rw [Rp.Lj];exact hd i x (List.getElem?_eq_some_iff.1 hx).1 hl hx
theorem Rp.GA{H:PH}{x:Qv}{c:List Value}(h:(Rp.Ob Rp.Bg).rel H x.f c):Rp.Bg.rel H x c:=by
 obtain⟨c1,c2,g,i,c3,c4,j,h2,c5,c6,k,h3,c7,c8,l,m,n,a,o,p,b,e,q,r,v,s,t⟩:=h;obtain⟨d,hd⟩:=t.Abf;exact⟨d+1,c1,c2,g,i,c3,c4,j,h2,c5,c6,k,h3,c7,c8,l,m,n,a,o,p,b,e,q,r,v,s,hd⟩
end Go.E
end
noncomputable section
namespace Go.Proofs.YtekmbcbgknmhiaaGreatDoor
open Go Go.E Go.RowKit Go.L
set_option maxHeartbeats 1000000
set_option maxRecDepth 10000
open _root_.Go.Proofs.Tryz
def V6(a0 a1 a2:Int):Option Bool:=
 some (decide ((a1<=a0)/\(a0<=a2)))
theorem U9(w:World)(H:PH)(_hH:Le H (hp w)){a0 a1 a2:Int}{r:Bool}(h:V6 a0 a1 a2=some r):
  Ok prog 30 [No a0,No a1,No a2] w (fun v w'=>Ext w w'/\v=.bool r):=by
 refine Aw (n:=15) [(0,No a0),(1,No a1),(2,No a2)] func30 rfl fun hL=>AD 1 rfl<|Bs 4 rfl<|Ns 3 3 rfl rfl rfl rfl rfl rfl<|A4 1 rfl<|Ax ?_
 cases h
 refine Am rfl ⟨hL.ext,rfl⟩
def Kh(a0 a1:Int):Option ((Int×Int)):=
 some ((a0,a1))
theorem Jy(w:World)(H:PH)(_hH:Le H (hp w)){a0 a1:Int}{r:(Int×Int)}(h:Kh a0 a1=some r):
  Ok prog 18 [No a0,No a1] w (fun v w'=>Ext w w'/\v=.agg #[No r.1,No r.2]):=by
 refine Aw (n:=8) [(0,No a0),(1,No a1)] func18 rfl fun hL=>Ai<|A3 AI rfl rfl hL fun e f b c _=>Ac<|Bs 2 rfl<|Ah (AN rfl (fun _=>Jv _ _ _)) rfl<|Ad 0 rfl AI b rfl (AT rfl) fun g a d=>Ac<|Ax ?_
 cases h
 refine CM rfl (.cell rfl AcP rfl AI (AG (i:=0) a rfl)) ⟨a.ext,rfl⟩
def Ki:Option Bool:=
 some true
def J9(a0:List Int)(a1:List Int):Int->Option ((Int) ⊕ (Bool)):=fun a=>
 if a<(a0.length:Int) then Bh (0<=a/\a<(a0.length:Int)) (Bh (0<=a/\a<(a1.length:Int)) (if a0.getD a.toNat default=a1.getD a.toNat default then Bh (C0 (a+1)) (some (Sum.inl (a+1))) else none)) else Option.map Sum.inr Ki
def LK(a0:List Int)(a1:List Int)(s:Int):Option Bool:=Go.L.run (J9 a0 a1) s
def Na(a0:List Int)(a1:List Int):Option Bool:=
 if(a0.length:Int)=(a1.length:Int) then(LK a0 a1) (0:Int) else none
theorem SA(w:World)(H:PH)(hH:Le H (hp w)){a0 a1:List Int}{b c:Value}(d:AA (.int .i64) H b a0)(f:AA (.int .i64) H c a1){r:Bool}(h:Na a0 a1=some r):
  Ok prog 26 [b,c] w (fun v w'=>Ext w w'/\v=.bool r):=by
 refine Aw (n:=26) [(0,b),(1,c)] func26 rfl fun hL=>AD 1 rfl<|A9<|Bs 1 rfl<|Ah (Bj rfl Aa8 d) rfl<|As 1 rfl<|Ah (Bj rfl Aa8 f) rfl<|A4 1 rfl<|Cf rfl h (fun aa h=>?_) (fun aa h=>?_)
 ·cases h
 refine Au<|Ar<|Bw (σ:=Unit) (fun(_:Unit)=>[]) (fun(_:Unit) wr=>AU w [] wr/\Ki=some r) ?_ ?_
 ·refine AD 1 rfl<|A2 ?_;obtain⟨g,h⟩:=AY h;refine B8 (σ:=Int×Nat) (fun⟨a,n⟩=>[(0,b),(1,c),(5,No a)]) (fun⟨a,n⟩ wr=>AU w [] wr/\GR (J9 a0 a1) n a=some r) (fun⟨a,n⟩=>n) (0,g) (Sub.of rfl) ⟨hL,h⟩ ?_;rintro⟨a,nn57⟩ ab ⟨i,h⟩;obtain⟨g,ad,rfl,h,j⟩:=AX h;refine A9<|Bs 2 rfl<|Ah (Bj rfl Aa8 d) rfl<|A4 1 rfl<|AO rfl h (fun m h=>?_) (fun m h=>?_)
  ·refine Au<|Ar<|A9<|A2<|IQ (.q 0 (.q 1 (.q 2 (.q 3 (.q 4 (.q 5 (.q 6 (.q 7 (.q 8 (.tail 9)))))))))) mixed (by kernel_rfl) (fun ae o=>?_);have e:=i.call o;refine GQ 2 rfl<|AB h fun k h=>L3 rfl rfl rfl Aa8 Dd d a.toNat (Hc k) (Ba k) rfl ?_;rintro af _ rfl p;refine FK (Bu rfl AaA rfl p (hH.trans e.arg)) rfl rfl<|GQ 2 rfl<|AB h fun l h=>L3 rfl rfl rfl Aa8 Dd f a.toNat (Hc l) (Ba l) rfl ?_;rintro ag _ rfl s;refine FK (Bu rfl AaA rfl s (hH.trans e.arg)) rfl rfl<|GQ 1 rfl<|DX (fun ah t=>?_);have u:=e.call t;refine Ac<|Cf rfl h (fun x h=>?_) (fun x h=>?_)
   ·cases h
   refine Au<|AJ<|Ar<|Av<|As 1 rfl<|AB h fun y h=>Ah (AK rfl y) rfl<|As 1 rfl<|AQ ?_;have h:=CV.again h j;refine AW ((a+1),g) (Sub.of rfl) ⟨u,h⟩ (Nat.lt_succ_self _)
  refine B5<|AE<|A7 ?_;have h:=CV.out h j;refine Bk<|A6 () (Sub.nil _) ⟨i,h⟩
 rintro _ ac ⟨z,h⟩;refine AD 1 rfl<|Ax ?_
 cases h
 refine Am rfl ⟨z.ext,rfl⟩
def E2(a0:Aaz)(a1:Aaz):Option Bool:=
 some (decide (a0=a1))
theorem IY(w:World)(H:PH)(hH:Le H (hp w)){a0 a1:Aaz}{a b:Value}(c:AA .byte H a a0)(d:AA .byte H b a1){r:Bool}(h:E2 a0 a1=some r):
  Ok prog 31 [a,b] w (fun v w'=>Ext w w'/\v=.bool r):=by
 refine Aw (n:=10) [(0,a),(1,b)] func31 rfl fun hL=>AD 1 rfl<|Bs 1 rfl<|Ah (Tp rfl Abj Acu AaQ c (hH.trans hL.arg)) rfl<|As 1 rfl<|Ah (Tp rfl Abj Acu AaQ d (hH.trans hL.arg)) rfl<|Ah (Nu rfl rfl) rfl<|A4 1 rfl<|Ax ?_
 cases h
 refine Am rfl ⟨hL.ext,rfl⟩
def JA:Option Bool:=
 some true
def IZ(a0:List Aaz)(a1:List Aaz):Int->Option ((Int) ⊕ (Bool)):=fun a=>
 if a<(a0.length:Int) then Bh (0<=a/\a<(a0.length:Int)) (Bh (0<=a/\a<(a1.length:Int)) (if a0.getD a.toNat default=a1.getD a.toNat default then Bh (C0 (a+1)) (some (Sum.inl (a+1))) else none)) else Option.map Sum.inr JA
def KP(a0:List Aaz)(a1:List Aaz)(s:Int):Option Bool:=Go.L.run (IZ a0 a1) s
def LL(a0:List Aaz)(a1:List Aaz):Option Bool:=
 if(a0.length:Int)=(a1.length:Int) then(KP a0 a1) (0:Int) else none
theorem Ry(w:World)(H:PH)(hH:Le H (hp w)){a0 a1:List Aaz}{b c:Value}(d:AA .st H b a0)(f:AA .st H c a1){r:Bool}(h:LL a0 a1=some r):
  Ok prog 43 [b,c] w (fun v w'=>Ext w w'/\v=.bool r):=by
 refine Aw (n:=26) [(0,b),(1,c)] func43 rfl fun hL=>AD 1 rfl<|A9<|Bs 1 rfl<|Ah (Bj rfl Ab1 d) rfl<|As 1 rfl<|Ah (Bj rfl Ab1 f) rfl<|A4 1 rfl<|Cf rfl h (fun aa h=>?_) (fun aa h=>?_)
 ·cases h
 refine Au<|Ar<|Bw (σ:=Unit) (fun(_:Unit)=>[]) (fun(_:Unit) wr=>AU w [] wr/\JA=some r) ?_ ?_
 ·refine AD 1 rfl<|A2 ?_;obtain⟨g,h⟩:=AY h;refine B8 (σ:=Int×Nat) (fun⟨a,n⟩=>[(0,b),(1,c),(5,No a)]) (fun⟨a,n⟩ wr=>AU w [] wr/\GR (IZ a0 a1) n a=some r) (fun⟨a,n⟩=>n) (0,g) (Sub.of rfl) ⟨hL,h⟩ ?_;rintro⟨a,nn57⟩ ab ⟨i,h⟩;obtain⟨g,ad,rfl,h,j⟩:=AX h;refine A9<|Bs 2 rfl<|Ah (Bj rfl Ab1 d) rfl<|A4 1 rfl<|AO rfl h (fun m h=>?_) (fun m h=>?_)
  ·refine Au<|Ar<|A9<|A2<|IQ (.q 0 (.q 1 (.q 2 (.q 3 (.q 4 (.q 5 (.q 6 (.q 7 (.q 8 (.tail 9)))))))))) mixed (by kernel_rfl) (fun ae o=>?_);have e:=i.call o;refine GQ 2 rfl<|AB h fun k h=>L3 rfl rfl rfl Ab1 Kq d a.toNat (Hc k) (Ba k) rfl ?_;rintro af _ rfl p;refine FK (Bu rfl AaQ rfl p (hH.trans e.arg)) rfl rfl<|GQ 2 rfl<|AB h fun l h=>L3 rfl rfl rfl Ab1 Kq f a.toNat (Hc l) (Ba l) rfl ?_;rintro ag _ rfl s;refine FK (Bu rfl AaQ rfl s (hH.trans e.arg)) rfl rfl<|FK (R7 rfl rfl) rfl rfl<|DX (fun ah t=>?_);have u:=e.call t;refine Ac<|Cf rfl h (fun x h=>?_) (fun x h=>?_)
   ·cases h
   refine Au<|AJ<|Ar<|Av<|As 1 rfl<|AB h fun y h=>Ah (AK rfl y) rfl<|As 1 rfl<|AQ ?_;have h:=CV.again h j;refine AW ((a+1),g) (Sub.of rfl) ⟨u,h⟩ (Nat.lt_succ_self _)
  refine B5<|AE<|A7 ?_;have h:=CV.out h j;refine Bk<|A6 () (Sub.nil _) ⟨i,h⟩
 rintro _ ac ⟨z,h⟩;refine AD 1 rfl<|Ax ?_
 cases h
 refine Am rfl ⟨z.ext,rfl⟩
def JN(a0:Int):Option (Go.L.Pv):=
 some ((Go.L.Pv.mk (1:Int) a0 ([]) ([]) ([])))
theorem MB(w:World)(H:PH)(_hH:Le H (hp w)){a0:Int}{r:Go.L.Pv}(h:JN a0=some r):
  Ok prog 37 [No a0] w (fun v w'=>Ext w w'/\∃ b c d,v=.agg #[No r.f.1,No r.f.2.1,b,c,d]/\Ck 5 .byte H w w' b (r.f.2.2.1)/\Ck 9 .st H w w' c (r.f.2.2.2.1)/\Ck 64 .tree H w w' d (r.f.2.2.2.2)):=by
 refine Aw (n:=5) [(0,No a0)] func37 rfl fun hL=>Ai<|A3 Fz rfl rfl hL fun k l e g _=>Ac<|Bs 1 rfl<|Ah (AN rfl (fun _=>Wa _ _ _)) rfl<|Ad 0 rfl Fz e rfl (AT rfl) fun m a j=>Ac<|Ax ?_
 cases h
 refine CM rfl (.cell rfl AcQ rfl Fz (AG (i:=0) a rfl)) ⟨a.ext,_,_,_,rfl,Ck.nil,Ck.nil,Ck.nil⟩
def Nc(a0:Aaz):Option (Go.L.Qv):=
 some ((Go.L.Qv.mk (1:Int) ([a0]) ([]:Aaz) ([]) (0:Int) (0:Int) ([])))
theorem SB(w:World)(H:PH)(hH:Le H (hp w)){a0:Aaz}{r:Go.L.Qv}(h:Nc a0=some r):
  Ok prog 36 [Aat a0] w (fun v w'=>Ext w w'/\∃ d e g,v=.agg #[No r.f.1,d,Aat r.f.2.2.1,e,No r.f.2.2.2.2.1,No r.f.2.2.2.2.2.1,g]/\AA .st (un H (nw w w')) d (r.f.2.1)/\Ck 5 .byte H w w' e (r.f.2.2.2.1)/\Ck 26 .Bg H w w' g (r.f.2.2.2.2.2.2)):=by
 refine Aw (n:=6) [(0,(Aat a0))] func36 rfl fun hL=>Ai<|A3 Bm rfl rfl hL fun q s j m _=>Ac<|Bs 1 rfl<|Br (r:=.st) (l:=[a0]) rfl (fun _=>NT _ rfl _) rfl (B2 1) hH j (.c1 rfl .nil) fun t u p k o a=>Ah (AN rfl (fun _=>RJ _ _ a.one _)) rfl<|Ad 0 rfl Bm k rfl (Bb rfl (Bb a.one (AT rfl))) fun x b c=>Ac<|Ax ?_
 cases h
 refine CM rfl (.cell rfl AcR rfl Bm (AG (i:=0) b rfl)) ?_;have a:=a.mono (Aa hH c);exact⟨b.ext,_,_,_,rfl,(a.mono (Dg hH)),Ck.nil,Ck.nil⟩
def Kj(a0 a1:Int):Option ((Int×Int)):=
 some ((a0,a1))
theorem Pz(w:World)(H:PH)(_hH:Le H (hp w)){a0 a1:Int}{r:(Int×Int)}(h:Kj a0 a1=some r):
  Ok prog 122 [No a0,No a1] w (fun v w'=>Ext w w'/\v=.agg #[No r.1,No r.2]):=by
 refine Aw (n:=8) [(0,No a0),(1,No a1)] func122 rfl fun hL=>Ai<|A3 AI rfl rfl hL fun e f b c _=>Ac<|Bs 2 rfl<|Ah (AN rfl (fun _=>Jv _ _ _)) rfl<|Ad 0 rfl AI b rfl (AT rfl) fun g a d=>Ac<|Ax ?_
 cases h
 refine CM rfl (.cell rfl AcP rfl AI (AG (i:=0) a rfl)) ⟨a.ext,rfl⟩
def FM(a0:Aaz)(a:List Int):Option ((List Int)):=
 Bh (a=Go.L.iota a0.length/\a0.length<4611686018427387904) (some ((C4 a0)))
def CO(a0:Aaz):(List Int)×Int->Option (((List Int)×Int) ⊕ ((List Int))):=fun⟨b,a⟩=>
 if a<((List.replicate (a0.length:Int).toNat (0:Int)).length:Int) then Bh (0<=a/\a<(b.length:Int)) (Bh (C0 (a+1)) (some (Sum.inl ((b.set a.toNat a),(a+1))))) else Option.map Sum.inr ((FM a0) b)
def Iv(a0:Aaz)(s:(List Int)×Int):Option ((List Int)):=Go.L.run (CO a0) s
def HL(a0:Aaz):Option ((List Int)):=
 Bh (0<=(a0.length:Int)/\((8:Nat):Int) * (a0.length:Int)<=281474976710656/\(a0.length:Int)<=9223372036854775807) ((Iv a0) ((List.replicate (a0.length:Int).toNat (0:Int)),0))
theorem P0(w:World)(H:PH)(hH:Le H (hp w)){a0:Aaz}{f:Value}(k:AA .byte H f a0){r:(List Int)}(h:HL a0=some r):
  Ok prog 123 [f] w (fun v w'=>Ext w w'/\∃ u0,v=u0/\Ck 3 (.int .i64) H w w' u0 r):=by
 refine Aw (n:=22) [(0,f)] func123 rfl fun hL=>Ai<|Sv (t:=23) rfl k.one rfl hL fun w1 y ab av _=>A4 1 rfl<|Ai<|Ah (Ag 0 rfl Abj rfl ab rfl) rfl<|Ah (Bj rfl Abj k) rfl<|AB h fun ao h=>St (r:=(.int .i64)) (z:=0) rfl rfl rfl Aa8 Dd rfl (fun _=>rfl) rfl hH ab ao fun v2 w2 ap ac aw aq=>A4 1 rfl<|Bw (σ:=(List Int)×(List Value)) (fun⟨g,e⟩=>[(1,(Aas y)),(3,v2)]) (fun⟨g,e⟩ wr=>FL w [.row v2 3 1 (g).length e,.box y [f] 23] wr fun Oz=>AF (.int .i64) (gz H w wr Oz) g e/\(FM a0) g=some r) ?_ ?_
 ·refine Bs 1 rfl<|Ah (O7 (i:=0) rfl Aa8 ac rfl) rfl<|A4 1 rfl<|A2 ?_;obtain⟨q,h⟩:=AY h;refine B8 (σ:=(List Int)×Int×(List Value)×Nat) (fun⟨d,b,c,n⟩=>[(1,(Aas y)),(3,v2),(9,No ((List.replicate (a0.length:Int).toNat (0:Int)).length:Int)),(10,No b)]) (fun⟨d,b,c,n⟩ wr=>FL w [.row v2 3 1 (d).length c,.box y [f] 23] wr fun Oz=>AF (.int .i64) (gz H w wr Oz) d c/\GR (CO a0) n (d,b)=some r) (fun⟨d,b,c,n⟩=>n) ((List.replicate (a0.length:Int).toNat (0:Int)),0,ap,q) (Sub.of rfl) ⟨ac,aq,h⟩ ?_;rintro⟨d,b,c,nn36⟩ ax ⟨l,o,h⟩;obtain⟨q,a1,rfl,h,s⟩:=AX h;refine AD 1 rfl<|A9<|AO rfl h (fun ad h=>?_) (fun ad h=>?_)
  ·refine Au<|Ar<|A9<|A2<|AD 2 rfl<|Av<|As 3 rfl<|AB h fun m h=>Kv 0 rfl rfl Aa8 Dd l rfl b.toNat (Hc m) (Ba m) rfl fun a2 ae=>Kw (z:=b) (j:=b.toNat) 0 rfl rfl rfl Dd hH l rfl o ae rfl (Ba m) rfl fun a3 af ag ar ah=>AQ<|AJ<|Ar<|Av<|AB h fun ai h=>Ah (AK rfl ai) rfl<|As 1 rfl<|AQ ?_;have h:=CV.again h s;refine AW ((d.set b.toNat b),(b+1),af,q) (Sub.of rfl) ⟨ag,ah,h⟩ (Nat.lt_succ_self _)
  refine B5<|AE<|A7 ?_;have h:=CV.out h s;refine Bk<|A6 (d,c) (Sub.of rfl) ⟨l,o,h⟩
 rintro⟨g,e⟩ ay ⟨u,p,h⟩;refine Bs 2 rfl<|AB h fun aj h=>?_;obtain⟨ak,al⟩:=aj;rw [ak] at u p;refine Wj (i:=0) (a:=a0) rfl rfl hH u rfl p (k.mono (Ae hH)) (AbR (i:=1) rfl) al fun a4 az x au am=>Ac<|AD 2 rfl<|Ax ?_
 cases h
 refine Am rfl ⟨x.ext,_,rfl,(x.GS hH (i:=0) rfl am)⟩
def HN(a0:Aaz):Option ((List Int)×(Int×Int)):=
 if 2048<(a0.length:Int) then Option.bind (Kj (3:Int) (-1:Int)) (fun a=>some ([],(a.1,a.2))) else Option.bind (HL a0) (fun b=>some (b,(0,0)))
theorem P1(w:World)(H:PH)(hH:Le H (hp w)){a0:Aaz}{b:Value}(d:AA .byte H b a0){r:(List Int)×(Int×Int)}(h:HN a0=some r):
  Ok prog 74 [b] w (fun v w'=>Ext w w'/\∃ m,v=.tuple #[m,.agg #[No r.2.1,No r.2.2]]/\Ck 3 (.int .i64) H w w' m (r.1)):=by
 refine Aw (n:=11) [(0,b)] func74 rfl fun hL=>Bs 1 rfl<|A3 AI rfl rfl hL fun w1 b1 a u _=>Ac<|A9<|Bs 1 rfl<|Ah (Bj rfl Abj d) rfl<|A4 1 rfl<|AO rfl h (fun o h=>?_) (fun o h=>?_)
 ·refine Ai<|Aq h fun x4 p h=>A8 rfl rfl a (Pz _ _ (Al hH a) p) fun w5 aa q x=>As 1 rfl<|Ad 0 rfl AI q rfl (AT rfl) fun w6 j y=>Ac<|Ax<|Ay ?_
  cases h
  refine B0 rfl (.tmp rfl) (.cell rfl AcP rfl AI (AG (i:=0) j rfl)) ⟨j.ext,_,rfl,Ck.nil⟩
 refine Au<|Ar<|Bs 1 rfl<|Aq h fun x8 s h=>Bf rfl rfl a (P0 _ _ (Al hH a) (d.mono (Ae hH)) s) ?_;rintro z w9 ⟨_,rfl,f⟩ t k l;obtain⟨ab,k,l,e⟩:=f.take hH a t;refine Ah (AN rfl (fun _=>BL _)) rfl<|As 1 rfl<|Ad 1 rfl AI k rfl (AT rfl) fun ac c g=>Ac<|Ax ?_
 cases h
 refine B0 rfl (.tmp rfl) (.cell rfl AcP rfl AI (AG (i:=1) c rfl)) ?_;have e:=e.mono (Aa hH g);exact⟨c.ext,_,rfl,(c.GS hH (i:=0) rfl e)⟩
end Go.Proofs.YtekmbcbgknmhiaaGreatDoor
end
noncomputable section
namespace Go.L
open Go
theorem Oc:∀ l m:List UInt8,Lib.compareBytes l m<0↔Op.bytesLess l m=true
 | [],[]=>by simp [Lib.compareBytes,Op.bytesLess]
 | [],_::_=>by simp [Lib.compareBytes,Op.bytesLess]
 | _::_,[]=>by simp [Lib.compareBytes,Op.bytesLess]
 | a::l,b::m=>by
  have ih:=Oc l m;unfold Lib.compareBytes Op.bytesLess
  by_cases c:a<b
  ·rw [if_pos c];simp [c]
  ·rw [if_neg c]
   by_cases h2:b<a
   ·have hne:a≠b:=fun e=>by subst e;exact c h2
    rw [if_pos h2];simp [c,hne]
   ·have e:a=b:=Oa c h2;rw [if_neg h2,ih];simp [c,e]
section
variable (a:List UInt8)
theorem Wk:(U7 a).Perm (Md a.length):=List.mergeSort_perm _ _
theorem JO:(C4 a).Perm (iota a.length):=by
 unfold C4;rw [<- RO];exact(Wk a).map _
theorem JB:(C4 a).length=a.length:=by rw [(JO a).length_eq,FU]
theorem XI{n:Nat}{x:Int}:x∈iota n↔0<=x/\x<n:=by
 unfold iota;rw [List.mem_map]
 constructor
 ·rintro⟨i,hi,rfl⟩;have:=List.mem_range.1 hi;omega
 ·intro h;exact⟨x.toNat,List.mem_range.2 (by omega),by omega⟩
theorem QC{x:Int}:x∈C4 a↔0<=x/\x<a.length:=by rw [(JO a).mem_iff,XI]
theorem UA(n:Nat):(iota n).Nodup:=by
 unfold iota List.Nodup;rw [List.pairwise_map];exact List.pairwise_lt_range.imp fun h=>by omega
theorem SC:(C4 a).Nodup:=(JO a).symm.nodup (UA _)
theorem N2:(C4 a).Pairwise fun x y=>Lib.compareBytes (a.drop x.toNat) (a.drop y.toNat)<0:=by
 have hO:=V4 (fun x:Fin (a.length+1)=>a.drop x.val)
 have h:=List.pairwise_mergeSort (le:=fun x y=>!(Go.Proofs.ltOf (Ie a)) y x) (fun x y z b h2=>by
   simp only [Bool.not_eq_true'] at *;exact hO.ntrans z y x h2 b) (fun x y=>by
   have:=Ip (a.drop y.val) (a.drop x.val)
   by_cases h:Lib.compareBytes (a.drop y.val) (a.drop x.val)<0
   ·have h' : ¬ Lib.compareBytes (a.drop x.val) (a.drop y.val)<0:=by omega
    simp [Go.Proofs.ltOf,Ie,h']
   ·simp [Go.Proofs.ltOf,Ie,h]) (Md a.length)
 have hn:(U7 a).Nodup:=by
  have:=SC a;unfold C4 List.Nodup at this;rw [List.pairwise_map] at this;exact this.imp fun h e=>h (by rw [e])
 unfold C4;rw [List.pairwise_map];have h2:=List.Pairwise.and h hn;refine h2.imp fun {x y} ⟨h3,c⟩=>?_
 replace h3 : ¬ Lib.compareBytes (a.drop y.val) (a.drop x.val)<0:=by
  intro hc;have:Go.Proofs.ltOf (Ie a) y x=true:=by simp [Go.Proofs.ltOf,Ie,hc]
  rw [this] at h3;cases h3
 simp only [Int.toNat_natCast];have s:=Ip (a.drop x.val) (a.drop y.val)
 rcases Int.lt_trichotomy (Lib.compareBytes (a.drop x.val) (a.drop y.val)) 0 with h | h | h
 ·exact h
 ·exact absurd (LJ a x y (decide_eq_false (show ¬ Lib.compareBytes (a.drop x.val) (a.drop y.val)<0 by omega)) (decide_eq_false h3)) c
 ·omega
end
def pre(l p:List UInt8):Bool:=decide (l.take p.length=p)
def fs(a p:List UInt8):Nat->Nat×Nat
 | 0=>(0,0)
 | k+1=>if pre (a.drop k) p then((fs a p k).1,(fs a p k).2+1) else if Op.bytesLess (a.drop k) p then((fs a p k).1+1,(fs a p k).2) else fs a p k
theorem ZI(a p:List UInt8)(k:Nat):fs a p (k+1)=if pre (a.drop k) p then((fs a p k).1,(fs a p k).2+1) else if Op.bytesLess (a.drop k) p then((fs a p k).1+1,(fs a p k).2) else fs a p k:=rfl
end Go.L
end
noncomputable section
namespace Go.Proofs.YtekmbcbgknmhiaaGreatDoor
open Go Go.L
theorem Wl{a:List UInt8}(h:a.length<=2048):HL a=some (C4 a):=by
 unfold HL;rw [Ak (by omega)];unfold Iv;have hst:∀ k,k<=a.length->(((iota k)++List.replicate (a.length - k) 0).length=a.length):=fun k hk=>by rw [List.length_append,FU,List.length_replicate];omega
 have c:=Gw (b:=CO a) (m:=some (C4 a)) (fun k=>((iota k)++List.replicate (a.length - k) 0,((k:Nat):Int))) a.length (fun k hk=>?_) ?_ 0 (Nat.zero_le _)
 ·simpa [iota] using c
 ·show CO a (_,_)=_
  unfold CO;dsimp only;have:=hst k (by omega);rw [if_pos (by rw [List.length_replicate];omega),Ak (by rw [this];omega),Ak (by unfold C0;omega),Int.toNat_natCast]
  congr 3
  have d:a.length - k=(a.length - (k+1))+1:=by omega
  rw [d,List.replicate_succ,List.set_append_right _ _ (by rw [FU];exact Nat.le_refl _),FU,Nat.sub_self,List.set_cons_zero];unfold iota;rw [List.range_succ,List.map_append,List.append_assoc]
  rfl
 ·show CO a (_,_)=_
  unfold CO FM;dsimp only;rw [if_neg (by rw [List.length_replicate];omega),Nat.sub_self,List.replicate_zero,List.append_nil,Ak ⟨rfl,by omega⟩]
theorem Wm(a:List UInt8):HN a=some (if a.length<=2048 then(C4 a,(0,0)) else([],(3,-1))):=by
 unfold HN
 by_cases h:a.length<=2048
 ·rw [if_neg (by omega),if_pos h,Wl h];rfl
 ·rw [if_pos (by omega),if_neg h];rfl
end Go.Proofs.YtekmbcbgknmhiaaGreatDoor
end
noncomputable section
namespace Go.L
open Go
theorem TA(c d:UInt8)(p l:List UInt8):pre (d::l) (c::p)=(decide (d=c)&&pre l p):=by
 unfold pre;simp only [List.length_cons,List.take_succ_cons,List.cons.injEq];rw [Bool.eq_iff_iff];simp
theorem pre_nil(l:List UInt8):pre l []=true:=by simp [pre]
theorem TB(c:UInt8)(p:List UInt8):pre [] (c::p)=false:=by simp [pre]
theorem Od:∀ (p x:List UInt8),pre x p=true->Op.bytesLess x p=false
 | [],x,_=>by cases x <;> rfl
 | c::p,[],h=>by rw [TB] at h;cases h
 | c::p,d::x,h=>by
  rw [TA] at h;simp only [Bool.and_eq_true,decide_eq_true_eq] at h;obtain⟨rfl,h⟩:=h;have:=Od p x h;have hd : ¬ d<d:=fun h=>by have:=UInt8.lt_iff_toNat_lt.1 h;omega
  simp [Op.bytesLess,this,hd]
theorem Pp:∀ (p x y:List UInt8),Op.bytesLess x p=false->Op.bytesLess x y=true->pre y p=true->pre x p=true
 | [],x,_,_,_,_=>pre_nil x
 | c::p,[],_,h,_,_=>by simp [Op.bytesLess] at h
 | c::p,_::_,[],_,_,h=>by rw [TB] at h;cases h
 | c::p,d::x,e::y,a,h2,h3=>by
  rw [TA] at h3 ⊢;simp only [Bool.and_eq_true,decide_eq_true_eq] at h3;obtain⟨rfl,h3⟩:=h3;simp only [Op.bytesLess,Bool.or_eq_false_iff,Bool.and_eq_false_iff,Bool.or_eq_true,Bool.and_eq_true,decide_eq_true_eq,decide_eq_false_iff_not,beq_iff_eq] at a h2
  rcases h2 with h2 | ⟨rfl,h2⟩
  ·exact absurd h2 a.1
  ·have b:Op.bytesLess x p=false:=by
    rcases a.2 with h | h
    ·simp at h
    ·exact h
   simp [Pp p x y b h2 h3]
def cls(p l:List UInt8):Nat:=if pre l p then 1 else if Op.bytesLess l p then 0 else 2
theorem XJ{p x y:List UInt8}(h:Lib.compareBytes x y<0):cls p x<=cls p y:=by
 have hxy:=(Oc x y).1 h;unfold cls
 by_cases hy:pre y p=true
 ·rw [if_pos hy]
  by_cases hx:pre x p=true
  ·rw [if_pos hx];exact Nat.le_refl _
  ·rw [if_neg hx]
   by_cases hl:Op.bytesLess x p=true
   ·rw [if_pos hl];omega
   ·exact absurd (Pp p x y (by simpa using hl) hxy hy) hx
 ·rw [if_neg hy]
  by_cases hl:Op.bytesLess y p=true
  ·have hxp:Op.bytesLess x p=true:=(Oc _ _).1 (Kr _ _ _ h ((Oc _ _).2 hl));have hx : ¬ pre x p=true:=fun hx=>by rw [Od p x hx] at hxp;cases hxp
   rw [if_neg hx,if_pos hxp];omega
  ·rw [if_neg hl]
   split
   ·omega
   ·split <;> omega
theorem OL:∀ (l:List Nat) (c i:Nat),l.Pairwise (·<=·)->i<l.length->(l.getD i 0<c↔i<l.countP (· < c))
 | [],_,_,_,h=>by cases h
 | x::l,c,i,hp,hi=>by
  have hq:=List.pairwise_cons.1 hp
  by_cases hx:x<c
  ·rw [List.countP_cons_of_pos (by simpa using hx)]
   cases i with
   | zero=>simp [hx]
   | succ i=>
    have:=OL l c i hq.2 (by simpa using hi);simp only [List.getD_cons_succ];omega
  ·rw [List.countP_cons_of_neg (by simpa using hx)]
   have a:l.countP (· < c)=0:=by
    rw [List.countP_eq_zero];intro y hy;have:=hq.1 y hy;simp;omega
   rw [a]
   cases i with
   | zero=>simp [hx]
   | succ i=>
    simp only [List.length_cons] at hi
    have hm:l.getD i 0∈l:=by
     rw [List.getD_eq_getElem?_getD,List.getElem?_eq_getElem (by omega)];exact List.getElem_mem _
    have:=hq.1 _ hm;simp only [List.getD_cons_succ];omega
theorem Wn(n:Nat):iota (n+1)=iota n++[(n:Int)]:=by simp [iota,List.range_succ]
theorem TC(a p:List UInt8):∀ k,((iota k).map fun x=>cls p (a.drop x.toNat)).countP (· < 1)=(fs a p k).1/\((iota k).map fun x=>cls p (a.drop x.toNat)).countP (· < 2)=(fs a p k).1+(fs a p k).2
 | 0=>by simp [iota,fs]
 | k+1=>by
  obtain⟨b,h2⟩:=TC a p k;rw [Wn,List.map_append,List.countP_append,List.countP_append,b,h2,ZI];simp only [List.map_cons,List.map_nil,List.countP_singleton,Int.toNat_natCast];unfold cls
  by_cases hp:pre (a.drop k) p=true
  ·rw [if_pos hp,if_pos hp];simp;omega
  ·rw [if_neg hp,if_neg hp]
   by_cases hl:Op.bytesLess (a.drop k) p=true
   ·rw [if_pos hl,if_pos hl];simp;omega
   ·rw [if_neg hl,if_neg hl];simp
theorem found(a p:List UInt8){i:Nat}(hi:i<a.length):pre (a.drop ((C4 a).getD i default).toNat) p=decide ((fs a p a.length).1<=i/\i<(fs a p a.length).1+(fs a p a.length).2):=by
 have hlen:i<((C4 a).map fun x=>cls p (a.drop x.toNat)).length:=by rw [List.length_map,JB];exact hi
 have hasc:((C4 a).map fun x=>cls p (a.drop x.toNat)).Pairwise (·<=·):=by
  rw [List.pairwise_map];exact(N2 a).imp fun h=>XJ h
 have hperm:=(JO a).map fun x=>cls p (a.drop x.toNat);obtain⟨c1,c2⟩:=TC a p a.length;have a1:=OL _ 1 i hasc hlen;have a2:=OL _ 2 i hasc hlen;rw [hperm.countP_eq,c1] at a1;rw [hperm.countP_eq,c2] at a2
 have hg:((C4 a).map fun x=>cls p (a.drop x.toNat)).getD i 0=cls p (a.drop ((C4 a).getD i default).toNat):=by
  rw [List.getD_eq_getElem?_getD,List.getElem?_eq_getElem hlen,List.getD_eq_getElem?_getD,List.getElem?_eq_getElem (by rw [JB];exact hi)];simp
 rw [hg] at a1 a2;rw [Bool.eq_iff_iff,decide_eq_true_eq]
 have hc:pre (a.drop ((C4 a).getD i default).toNat) p=true↔¬ cls p (a.drop ((C4 a).getD i default).toNat)<1/\cls p (a.drop ((C4 a).getD i default).toNat)<2:=by
  generalize a.drop ((C4 a).getD i default).toNat=l;unfold cls
  by_cases hp:pre l p=true
  ·rw [if_pos hp];simp [hp]
  ·rw [if_neg hp]
   split <;> simp [hp]
 rw [hc,a1,a2];omega
end Go.L
end
noncomputable section
namespace Go
abbrev Ad4:=Go.E.Rp.pair (Go.E.Rp.int .i64) (Go.E.Rp.int .i64)
end Go
namespace Go
abbrev Adw:=List (Int×Int)
end Go
namespace Go.Proofs.YtekmbcbgknmhiaaGreatDoor
open Go Go.E Go.RowKit Go.L
set_option maxHeartbeats 1000000
set_option maxRecDepth 10000
open _root_.Go.Proofs.Tryz
def Hw(a0 a1:Int):Option ((Int×Int)):=
 some ((a0,a1))
theorem Ja(w:World)(H:PH)(_hH:Le H (hp w)){a0 a1:Int}{r:(Int×Int)}(h:Hw a0 a1=some r):
  Ok prog 78 [No a0,No a1] w (fun v w'=>Ext w w'/\v=.agg #[No r.1,No r.2]):=by
 refine Aw (n:=8) [(0,No a0),(1,No a1)] func78 rfl fun hL=>Ai<|A3 AI rfl rfl hL fun e f b c _=>Ac<|Bs 2 rfl<|Ah (AN rfl (fun _=>Jv _ _ _)) rfl<|Ad 0 rfl AI b rfl (AT rfl) fun g a d=>Ac<|Ax ?_
 cases h
 refine CM rfl (.cell rfl AcP rfl AI (AG (i:=0) a rfl)) ⟨a.ext,rfl⟩
def Dz:Option Int:=
 some ((-1))
def BJ(a0:List Int)(a1:Int):Int->Option ((Int) ⊕ (Int)):=fun a=>
 if a<(a0.length:Int) then Bh (0<=a/\a<(a0.length:Int)) (if a1=a0.getD a.toNat default then Option.map Sum.inr (some a) else Bh (C0 (a+1)) (some (Sum.inl (a+1)))) else Option.map Sum.inr Dz
def EF(a0:List Int)(a1 s:Int):Option Int:=Go.L.run (BJ a0 a1) s
def E3(a0:List Int)(a1:Int):Option Int:=
 (EF a0 a1) (0:Int)
theorem Lk(w:World)(H:PH)(hH:Le H (hp w)){a0:List Int}{a1:Int}{b:Value}(e:AA (.int .i64) H b a0){r:Int}(h:E3 a0 a1=some r):
  Ok prog 163 [b,No a1] w (fun v w'=>Ext w w'/\v=No r):=by
 refine Aw (n:=19) [(0,b),(1,No a1)] func163 rfl fun hL=>AD 1 rfl<|Bw (σ:=Unit) (fun(_:Unit)=>[]) (fun(_:Unit) wr=>AU w [] wr/\Dz=some r) ?_ ?_
 ·refine Bs 1 rfl<|Ah (Bj rfl Aa8 e) rfl<|A4 1 rfl<|A2 ?_;obtain⟨f,h⟩:=AY h;refine B8 (σ:=Int×Nat) (fun⟨a,n⟩=>[(0,b),(1,No a1),(7,No (a0.length:Int)),(8,No a)]) (fun⟨a,n⟩ wr=>AU w [] wr/\GR (BJ a0 a1) n a=some r) (fun⟨a,n⟩=>n) (0,f) (Sub.of rfl) ⟨hL,h⟩ ?_;rintro⟨a,nn36⟩ o ⟨c,h⟩;obtain⟨f,q,rfl,h,d⟩:=AX h;refine AD 1 rfl<|A9<|AO rfl h (fun i h=>?_) (fun i h=>?_)
  ·refine Au<|Ar<|A9<|A2<|AD 2 rfl<|Bs 3 rfl<|AB h fun g h=>Be rfl rfl Aa8 Dd e a.toNat (Hc g) (Ba g) rfl ?_;rintro s _ rfl j;refine Ah (Bu rfl AaA rfl j (hH.trans c.arg)) rfl<|A4 1 rfl<|AO rfl h (fun k h=>?_) (fun k h=>?_)
   ·refine AD 2 rfl<|Ax<|Az<|Ay<|Cv ?_;have h:=CV.out h d;refine Az<|BH ?_
    cases h
    refine Am rfl ⟨c.ext,rfl⟩
   refine Au<|AJ<|Ar<|Av<|AB h fun l h=>Ah (AK rfl l) rfl<|As 1 rfl<|AQ ?_;have h:=CV.again h d;refine AW ((a+1),f) (Sub.of rfl) ⟨c,h⟩ (Nat.lt_succ_self _)
  refine B5<|AE<|A7 ?_;have h:=CV.out h d;refine Bk<|A6 () (Sub.nil _) ⟨c,h⟩
 rintro _ p ⟨m,h⟩;refine AD 1 rfl<|Ax ?_
 cases h
 refine Am rfl ⟨m.ext,rfl⟩
def Cm(a0:List Int)(a1:Int):Option Bool:=
 Option.bind (E3 a0 a1) (fun a=>some (decide (0<=a)))
theorem Hx(w:World)(H:PH)(hH:Le H (hp w)){a0:List Int}{a1:Int}{a:Value}(b:AA (.int .i64) H a a0){r:Bool}(h:Cm a0 a1=some r):
  Ok prog 108 [a,No a1] w (fun v w'=>Ext w w'/\v=.bool r):=by
 refine Aw (n:=9) [(0,a),(1,No a1)] func108 rfl fun hL=>AD 1 rfl<|Bs 2 rfl<|Aq h fun g c h=>A8 rfl rfl hL (Lk _ _ (Al hH hL) (b.mono (Ae hH)) c) fun i f d e=>A4 2 rfl<|Ax ?_
 cases h
 refine Am rfl ⟨d.ext,rfl⟩
def Cw:Option Int:=
 some ((-1))
def Bx(a0:List Aaz)(a1:Aaz):Int->Option ((Int) ⊕ (Int)):=fun a=>
 if a<(a0.length:Int) then Bh (0<=a/\a<(a0.length:Int)) (if a1=a0.getD a.toNat default then Option.map Sum.inr (some a) else Bh (C0 (a+1)) (some (Sum.inl (a+1)))) else Option.map Sum.inr Cw
def CZ(a0:List Aaz)(a1:Aaz)(s:Int):Option Int:=Go.L.run (Bx a0 a1) s
def CD(a0:List Aaz)(a1:Aaz):Option Int:=
 (CZ a0 a1) (0:Int)
theorem JP(w:World)(H:PH)(hH:Le H (hp w)){a0:List Aaz}{a1:Aaz}{b:Value}(e:AA .st H b a0){r:Int}(h:CD a0 a1=some r):
  Ok prog 285 [b,Aat a1] w (fun v w'=>Ext w w'/\v=No r):=by
 refine Aw (n:=19) [(0,b),(1,(Aat a1))] func285 rfl fun hL=>AD 1 rfl<|Bw (σ:=Unit) (fun(_:Unit)=>[]) (fun(_:Unit) wr=>AU w [] wr/\Cw=some r) ?_ ?_
 ·refine Bs 1 rfl<|Ah (Bj rfl Ab1 e) rfl<|A4 1 rfl<|A2 ?_;obtain⟨f,h⟩:=AY h;refine B8 (σ:=Int×Nat) (fun⟨a,n⟩=>[(0,b),(1,(Aat a1)),(7,No (a0.length:Int)),(8,No a)]) (fun⟨a,n⟩ wr=>AU w [] wr/\GR (Bx a0 a1) n a=some r) (fun⟨a,n⟩=>n) (0,f) (Sub.of rfl) ⟨hL,h⟩ ?_;rintro⟨a,nn36⟩ o ⟨c,h⟩;obtain⟨f,q,rfl,h,d⟩:=AX h;refine AD 1 rfl<|A9<|AO rfl h (fun i h=>?_) (fun i h=>?_)
  ·refine Au<|Ar<|A9<|A2<|AD 2 rfl<|Bs 3 rfl<|AB h fun g h=>Be rfl rfl Ab1 Kq e a.toNat (Hc g) (Ba g) rfl ?_;rintro s _ rfl j;refine Ah (Bu rfl AaQ rfl j (hH.trans c.arg)) rfl<|Ah (Nu rfl rfl) rfl<|Ac<|AO rfl h (fun k h=>?_) (fun k h=>?_)
   ·refine AD 2 rfl<|Ax<|Az<|Ay<|Cv ?_;have h:=CV.out h d;refine Az<|BH ?_
    cases h
    refine Am rfl ⟨c.ext,rfl⟩
   refine Au<|AJ<|Ar<|Av<|AB h fun l h=>Ah (AK rfl l) rfl<|As 1 rfl<|AQ ?_;have h:=CV.again h d;refine AW ((a+1),f) (Sub.of rfl) ⟨c,h⟩ (Nat.lt_succ_self _)
  refine B5<|AE<|A7 ?_;have h:=CV.out h d;refine Bk<|A6 () (Sub.nil _) ⟨c,h⟩
 rintro _ p ⟨m,h⟩;refine AD 1 rfl<|Ax ?_
 cases h
 refine Am rfl ⟨m.ext,rfl⟩
def BN(a0:List Aaz)(a1:Aaz):Option Bool:=
 Option.bind (CD a0 a1) (fun a=>some (decide (0<=a)))
theorem Jb(w:World)(H:PH)(hH:Le H (hp w)){a0:List Aaz}{a1:Aaz}{a:Value}(b:AA .st H a a0){r:Bool}(h:BN a0 a1=some r):
  Ok prog 231 [a,Aat a1] w (fun v w'=>Ext w w'/\v=.bool r):=by
 refine Aw (n:=9) [(0,a),(1,(Aat a1))] func231 rfl fun hL=>AD 1 rfl<|Bs 2 rfl<|Aq h fun g c h=>A8 rfl rfl hL (JP _ _ (Al hH hL) (b.mono (Ae hH)) c) fun i f d e=>A4 2 rfl<|Ax ?_
 cases h
 refine Am rfl ⟨d.ext,rfl⟩
def CP(a0:Aaz):Option Aaz:=
 Bh (Go.E.Ij 1 (([]:Aaz).length+a0.length)) (some ((([]:Aaz)++a0)))
theorem Ia(w:World)(H:PH)(hH:Le H (hp w)){a0:Aaz}{a:Value}(b:AA .byte H a a0){r:Aaz}(h:CP a0=some r):
  Ok prog 99 [a] w (fun v w'=>Ext w w'/\∃ d,v=d/\Ck 5 .byte H w w' d r):=by
 refine Aw (n:=8) [(0,a)] func99 rfl fun hL=>AD 1 rfl<|A9<|Bs 1 rfl ?_
 rcases Sw b with ⟨rfl,rfl⟩ | hnn
 ·refine Ah (Sx rfl rfl Abj) rfl<|Ac<|DW rfl<|AD 1 rfl<|Ax ?_;obtain⟨_,h⟩:=Fw h;obtain rfl:=Option.some.inj h;refine Ay<|Am rfl ⟨hL.ext,_,rfl,S0 _ hL hH⟩
 refine Ah (Sy rfl rfl Abj hnn) rfl<|Ac<|Hn rfl<|Au<|Ar<|Ai<|L4 (r:=.byte) (l:=([]:Aaz)) rfl (fun _=>Z5 _) rfl (B2 0) hH hL .nil fun s t p e k f=>As 1 rfl<|AB h fun g h=>Bi (r:=.byte) (l:=([]:Aaz)) (m:=a0) 0 rfl rfl Abj NK rfl (by decide) rfl hH e rfl f (b.mono (Ae hH)) g fun u x q c o j=>A4 1 rfl<|Ax ?_
 cases h
 refine Am rfl ⟨c.ext,_,rfl,(c.GS hH (i:=0) rfl j)⟩
def Dm(a0:List (Int×Int)):Option (Adw):=
 Bh (Go.E.Ij 16 (([]:List (Int×Int)).length+a0.length)) (some ((([]:List (Int×Int))++a0)))
theorem Jp(w:World)(H:PH)(hH:Le H (hp w)){a0:List (Int×Int)}{a:Value}(b:AA Ad4 H a a0){r:Adw}(h:Dm a0=some r):
  Ok prog 193 [a] w (fun v w'=>Ext w w'/\∃ d,v=d/\Ck 137 Ad4 H w w' d r):=by
 refine Aw (n:=8) [(0,a)] func193 rfl fun hL=>AD 1 rfl<|A9<|Bs 1 rfl ?_
 rcases Sw b with ⟨rfl,rfl⟩ | hnn
 ·refine Ah (Sx rfl rfl AcS) rfl<|Ac<|DW rfl<|AD 1 rfl<|Ax ?_;obtain⟨_,h⟩:=Fw h;obtain rfl:=Option.some.inj h;refine Ay<|Am rfl ⟨hL.ext,_,rfl,S0 _ hL hH⟩
 refine Ah (Sy rfl rfl AcS hnn) rfl<|Ac<|Hn rfl<|Au<|Ar<|Ai<|L4 (r:=Ad4) (l:=([]:List (Int×Int))) rfl (fun _=>X3 _) rfl (B2 0) hH hL .nil fun s t p e k f=>As 1 rfl<|AB h fun g h=>Bi (r:=Ad4) (l:=([]:List (Int×Int))) (m:=a0) 0 rfl rfl AcS Kb rfl (by decide) rfl hH e rfl f (b.mono (Ae hH)) g fun u x q c o j=>A4 1 rfl<|Ax ?_
 cases h
 refine Am rfl ⟨c.ext,_,rfl,(c.GS hH (i:=0) rfl j)⟩
def D0(a0:List Int):Option ((List Int)):=
 Bh (Go.E.Ij 8 (([]:List Int).length+a0.length)) (some ((([]:List Int)++a0)))
theorem Ll(w:World)(H:PH)(hH:Le H (hp w)){a0:List Int}{a:Value}(b:AA (.int .i64) H a a0){r:(List Int)}(h:D0 a0=some r):
  Ok prog 138 [a] w (fun v w'=>Ext w w'/\∃ d,v=d/\Ck 3 (.int .i64) H w w' d r):=by
 refine Aw (n:=8) [(0,a)] func138 rfl fun hL=>AD 1 rfl<|A9<|Bs 1 rfl ?_
 rcases Sw b with ⟨rfl,rfl⟩ | hnn
 ·refine Ah (Sx rfl rfl Aa8) rfl<|Ac<|DW rfl<|AD 1 rfl<|Ax ?_;obtain⟨_,h⟩:=Fw h;obtain rfl:=Option.some.inj h;refine Ay<|Am rfl ⟨hL.ext,_,rfl,S0 _ hL hH⟩
 refine Ah (Sy rfl rfl Aa8 hnn) rfl<|Ac<|Hn rfl<|Au<|Ar<|Ai<|L4 (r:=(.int .i64)) (l:=([]:List Int)) rfl (fun _=>ZA _) rfl (B2 0) hH hL .nil fun s t p e k f=>As 1 rfl<|AB h fun g h=>Bi (r:=(.int .i64)) (l:=([]:List Int)) (m:=a0) 0 rfl rfl Aa8 Dd rfl (by decide) rfl hH e rfl f (b.mono (Ae hH)) g fun u x q c o j=>A4 1 rfl<|Ax ?_
 cases h
 refine Am rfl ⟨c.ext,_,rfl,(c.GS hH (i:=0) rfl j)⟩
def Cn(a0:List Aaz):Option ((List Aaz)):=
 Bh (Go.E.Ij 16 (([]:List Aaz).length+a0.length)) (some ((([]:List Aaz)++a0)))
theorem E4(w:World)(H:PH)(hH:Le H (hp w)){a0:List Aaz}{a:Value}(b:AA .st H a a0){r:(List Aaz)}(h:Cn a0=some r):
  Ok prog 135 [a] w (fun v w'=>Ext w w'/\∃ d,v=d/\Ck 9 .st H w w' d r):=by
 refine Aw (n:=8) [(0,a)] func135 rfl fun hL=>AD 1 rfl<|A9<|Bs 1 rfl ?_
 rcases Sw b with ⟨rfl,rfl⟩ | hnn
 ·refine Ah (Sx rfl rfl Ab1) rfl<|Ac<|DW rfl<|AD 1 rfl<|Ax ?_;obtain⟨_,h⟩:=Fw h;obtain rfl:=Option.some.inj h;refine Ay<|Am rfl ⟨hL.ext,_,rfl,S0 _ hL hH⟩
 refine Ah (Sy rfl rfl Ab1 hnn) rfl<|Ac<|Hn rfl<|Au<|Ar<|Ai<|L4 (r:=.st) (l:=([]:List Aaz)) rfl (fun _=>Z4 _) rfl (B2 0) hH hL .nil fun s t p e k f=>As 1 rfl<|AB h fun g h=>Bi (r:=.st) (l:=([]:List Aaz)) (m:=a0) 0 rfl rfl Ab1 Kq rfl (by decide) rfl hH e rfl f (b.mono (Ae hH)) g fun u x q c o j=>A4 1 rfl<|Ax ?_
 cases h
 refine Am rfl ⟨c.ext,_,rfl,(c.GS hH (i:=0) rfl j)⟩
def CE(a b:Int):Option Int:=
 Bh (0<=((Go.L.u8 a).toNat:Int)/\((Go.L.u8 a).toNat:Int)<(([0,1,2,2,3,3,3,3,4,4,4,4,4,4,4,4,5,5,5,5,5,5,5,5,5,5,5,5,5,5,5,5,6,6,6,6,6,6,6,6,6,6,6,6,6,6,6,6,6,6,6,6,6,6,6,6,6,6,6,6,6,6,6,6,7,7,7,7,7,7,7,7,7,7,7,7,7,7,7,7,7,7,7,7,7,7,7,7,7,7,7,7,7,7,7,7,7,7,7,7,7,7,7,7,7,7,7,7,7,7,7,7,7,7,7,7,7,7,7,7,7,7,7,7,7,7,7,7,8,8,8,8,8,8,8,8,8,8,8,8,8,8,8,8,8,8,8,8,8,8,8,8,8,8,8,8,8,8,8,8,8,8,8,8,8,8,8,8,8,8,8,8,8,8,8,8,8,8,8,8,8,8,8,8,8,8,8,8,8,8,8,8,8,8,8,8,8,8,8,8,8,8,8,8,8,8,8,8,8,8,8,8,8,8,8,8,8,8,8,8,8,8,8,8,8,8,8,8,8,8,8,8,8,8,8,8,8,8,8,8,8,8,8,8,8,8,8,8,8,8,8,8,8,8,8,8]:Aaz).length:Int)) (Bh (C0 (b+((([0,1,2,2,3,3,3,3,4,4,4,4,4,4,4,4,5,5,5,5,5,5,5,5,5,5,5,5,5,5,5,5,6,6,6,6,6,6,6,6,6,6,6,6,6,6,6,6,6,6,6,6,6,6,6,6,6,6,6,6,6,6,6,6,7,7,7,7,7,7,7,7,7,7,7,7,7,7,7,7,7,7,7,7,7,7,7,7,7,7,7,7,7,7,7,7,7,7,7,7,7,7,7,7,7,7,7,7,7,7,7,7,7,7,7,7,7,7,7,7,7,7,7,7,7,7,7,7,8,8,8,8,8,8,8,8,8,8,8,8,8,8,8,8,8,8,8,8,8,8,8,8,8,8,8,8,8,8,8,8,8,8,8,8,8,8,8,8,8,8,8,8,8,8,8,8,8,8,8,8,8,8,8,8,8,8,8,8,8,8,8,8,8,8,8,8,8,8,8,8,8,8,8,8,8,8,8,8,8,8,8,8,8,8,8,8,8,8,8,8,8,8,8,8,8,8,8,8,8,8,8,8,8,8,8,8,8,8,8,8,8,8,8,8,8,8,8,8,8,8,8,8,8,8,8,8]:Aaz).getD ((Go.L.u8 a).toNat:Int).toNat default).toNat:Int))) (some ((b+((([0,1,2,2,3,3,3,3,4,4,4,4,4,4,4,4,5,5,5,5,5,5,5,5,5,5,5,5,5,5,5,5,6,6,6,6,6,6,6,6,6,6,6,6,6,6,6,6,6,6,6,6,6,6,6,6,6,6,6,6,6,6,6,6,7,7,7,7,7,7,7,7,7,7,7,7,7,7,7,7,7,7,7,7,7,7,7,7,7,7,7,7,7,7,7,7,7,7,7,7,7,7,7,7,7,7,7,7,7,7,7,7,7,7,7,7,7,7,7,7,7,7,7,7,7,7,7,7,8,8,8,8,8,8,8,8,8,8,8,8,8,8,8,8,8,8,8,8,8,8,8,8,8,8,8,8,8,8,8,8,8,8,8,8,8,8,8,8,8,8,8,8,8,8,8,8,8,8,8,8,8,8,8,8,8,8,8,8,8,8,8,8,8,8,8,8,8,8,8,8,8,8,8,8,8,8,8,8,8,8,8,8,8,8,8,8,8,8,8,8,8,8,8,8,8,8,8,8,8,8,8,8,8,8,8,8,8,8,8,8,8,8,8,8,8,8,8,8,8,8,8,8,8,8,8,8]:Aaz).getD ((Go.L.u8 a).toNat:Int).toNat default).toNat:Int)))))
def Ee(a b:Int):Option Int:=
 if 256<=a then Bh (C0 (b+8)) (CE (a / 256) (b+8)) else CE a b
def Ef(a b:Int):Option Int:=
 if 65536<=a then Bh (C0 (b+16)) (Ee (a / 65536) (b+16)) else Ee a b
def FN(a0:Int):Option Int:=
 if 4294967296<=a0 then Ef (a0 / 4294967296) (32:Int) else Ef a0 (0:Int)
theorem NA(w:World)(H:PH)(_hH:Le H (hp w)){a0 r:Int}(h:FN a0=some r):
  Ok prog 236 [.int .u64 a0] w (fun v w'=>Ext w w'/\v=No r):=by
 refine Aw (n:=25) [(0,.int .u64 a0)] func236 rfl fun hL=>AD 1 rfl<|Bw (σ:=Int×Int) (fun⟨d,e⟩=>[(0,.int .u64 d),(2,No e)]) (fun⟨d,e⟩ wr=>AU w [] wr/\Ef d e=some r) ?_ ?_
 ·refine AD 2 rfl<|AO rfl h (fun u h=>?_) (fun u h=>?_)
  ·refine Bs 1 rfl<|Ah (R6 (c:=32) (m:=4294967296) rfl rfl rfl (by decide)) rfl<|A4 1 rfl<|Av<|As 1 rfl<|AQ<|A6 ((a0 / 4294967296),32) (Sub.of rfl) ⟨hL,h⟩
  refine Au<|A6 (a0,0) (Sub.of rfl) ⟨hL,h⟩
 rintro⟨d,e⟩ z ⟨j,h⟩;refine Bw (σ:=Int×Int) (fun⟨a,b⟩=>[(0,.int .u64 a),(2,No b)]) (fun⟨a,b⟩ wr=>AU w [] wr/\Ee a b=some r) ?_ ?_
 ·refine AD 2 rfl<|AO rfl h (fun k h=>?_) (fun k h=>?_)
  ·refine Bs 1 rfl<|Ah (R6 (c:=16) (m:=65536) rfl rfl rfl (by decide)) rfl<|A4 1 rfl<|Av<|As 1 rfl<|AB h fun l h=>Ah (AK rfl l) rfl<|As 1 rfl<|AQ<|A6 ((d / 65536),(e+16)) (Sub.of rfl) ⟨j,h⟩
  refine Au<|A6 (d,e) (Sub.of rfl) ⟨j,h⟩
 rintro⟨a,b⟩ x ⟨i,h⟩;refine Bw (σ:=Int×Int) (fun⟨f,g⟩=>[(0,.int .u64 f),(2,No g)]) (fun⟨f,g⟩ wr=>AU w [] wr/\CE f g=some r) ?_ ?_
 ·refine AD 2 rfl<|AO rfl h (fun o h=>?_) (fun o h=>?_)
  ·refine Bs 1 rfl<|Ah (R6 (c:=8) (m:=256) rfl rfl rfl (by decide)) rfl<|A4 1 rfl<|Av<|As 1 rfl<|AB h fun p h=>Ah (AK rfl p) rfl<|As 1 rfl<|AQ<|A6 ((a / 256),(b+8)) (Sub.of rfl) ⟨i,h⟩
  refine Au<|A6 (a,b) (Sub.of rfl) ⟨i,h⟩
 rintro⟨f,g⟩ y ⟨q,h⟩;refine Bs 2 rfl<|Ah (IS Ac0 Acu rfl (Kx _)) rfl<|AB h fun s h=>Ah (L7 rfl rfl AaQ s) rfl<|Ah (IS Acu AaA rfl (OA _)) rfl<|AB h fun t h=>Ah (AK rfl t) rfl<|A4 1 rfl<|Ax ?_
 cases h
 refine Am rfl ⟨q.ext,rfl⟩
def Iq(a0:Int):Option Int:=
 Option.bind (FN a0) (fun a=>some a)
theorem OM(w:World)(H:PH)(hH:Le H (hp w)){a0 r:Int}(h:Iq a0=some r):
  Ok prog 185 [.int .u64 a0] w (fun v w'=>Ext w w'/\v=No r):=by
 refine Aw (n:=8) [(0,.int .u64 a0)] func185 rfl fun hL=>AD 1 rfl<|A9<|Hn rfl<|Au<|Ar<|Bs 1 rfl<|Aq h fun e a h=>A8 rfl rfl hL (NA _ _ (Al hH hL) a) fun f d b c=>A4 1 rfl<|Ax ?_
 cases h
 refine Am rfl ⟨b.ext,rfl⟩
def E5(a0:Int):Option Int:=
 if a0<1 then some (0) else Option.bind (Iq (IntKind.u64.wrap a0)) (fun a=>Bh (C0 (2 * a)) (Bh (C0 ((2 * a) - 1)) (some (((2 * a) - 1)))))
theorem Oe(w:World)(H:PH)(hH:Le H (hp w)){a0 r:Int}(h:E5 a0=some r):
  Ok prog 134 [No a0] w (fun v w'=>Ext w w'/\v=No r):=by
 refine Aw (n:=10) [(0,No a0)] func134 rfl fun hL=>AD 1 rfl<|A9<|AD 2 rfl<|AO rfl h (fun a h=>?_) (fun a h=>?_)
 ·refine AD 1 rfl<|Ax<|Ay ?_
  cases h
  refine Am rfl ⟨hL.ext,rfl⟩
 refine Au<|Ar<|Bs 1 rfl<|Ah (IS AaA Acx rfl rfl) rfl<|Aq h fun i b h=>A8 rfl rfl hL (OM _ _ (Al hH hL) b) fun j g c f=>AB h fun d h=>Ah (AK rfl d) rfl<|AB h fun e h=>Ah (AK rfl e) rfl<|A4 1 rfl<|Ax ?_
 cases h
 refine Am rfl ⟨c.ext,rfl⟩
end Go.Proofs.YtekmbcbgknmhiaaGreatDoor
end
