/- Texts of a claim, merged. -/
import Derived.Test.YtekmbcbgknmhiaaGreatDoorLc1
import Derived.Lib.Builder
import Derived.Lib.UnsafeStr
import Derived.Test.YtekmbcbgknmhiaaGreatDoorRows
import Derived.KernelRfl
import Derived.Lib.OthersKept
import Derived.Lib.SliceRun
import Derived.Shelf.Sort.Plain
import Derived.Shelf.Slices.In.SortNone
import Derived.Shelf.Slices.CompactI
import Derived.Shelf.Slices.CompactS
import Derived.Shelf.SlSortCmp.NoneTotal
import Derived.Shelf.SlGeneric
import Derived.Shelf.Strings.Split
import Derived.Shelf.Strings.OnBuilder
import Derived.Shelf.GgClosure.StringsRunes
import Derived.Shelf.Strings.Runes
import Derived.Shelf.SlIter.Sorted
import Derived.Shelf.Spec.DecodeRune
import Derived.Shelf.Strconv.Itoa3
import Derived.Shelf.Strconv.AtoiAll
import Derived.Shelf.Strings.IndexAnyAll
import Derived.Ground.NamesProg
import Derived.Ground.Names2Prog
import Derived.Ground.Names7Prog
import Derived.Ground.GgwProg
import Derived.Ground.GgzProg
import Derived.Ground.SlsfProg
import Derived.Test.YtekmbcbgknmhiaaGreatDoorProg
set_option linter.unusedVariables false
set_option linter.unusedSimpArgs false
open _root_.Go.Proofs.Tryz renaming underlying9->Ab1,underlying23->AbF,underlying58->Abm,underlying3->Abn,underlying142->Abw,underlying5->Ac5,underlying22->Ac7,underlying64->Ac8,underlying26->AcF,underlying131->AcH,underlying135->AcP,underlying0->AcS,underlying4->AcV,underlying28->Ack,underlying171->Ad4,underlying285->AdA,underlying280->AdC,underlying349->AdF,underlying351->AdM,underlying352->AdR,underlying361->AdS,underlying20->AdT,underlying162->AdU,underlying164->AdV,underlying167->AdW,underlying168->AdX,underlying219->AdZ,underlying21->Adm,underlying260->Ae3,underlying205->Ae9,underlying294->AeA,underlying288->AeF,underlying289->AeH,underlying333->AeI,underlying337->AeJ,underlying357->AeP,underlying229->AeQ,underlying196->AeR,underlying198->AeS,underlying234->AeU,underlying130->AeV,underlying188->AeW,underlying189->AeZ,underlying261->Aek,underlying41->Afa,underlying2->Afb,underlying263->Afc,underlying266->Afd,underlying305->Afe,underlying306->Aff,underlying359->Afg,underlying360->Afh,underlying311->Afi,underlying364->Afj,underlying366->Afk,underlying310->Afl,underlying313->Afm,underlying342->Afn,underlying345->Afo,underlying170->Afp,underlying271->Afq,underlying272->Afr,underlying309->Afs
noncomputable section
namespace Go.E
open Go Go.RowKit
structure Nb (α:Type) where
 pre:α->List Value
 dat:α->List UInt8
 upd:α->List UInt8->α
 sz:Nat
 len:∀ x,(pre x).length+1=sz
 one:∀ x,∀ u∈pre x,u.oneCell'=true
 AeX:∀ x d,pre (upd x d)=pre x
 AeY:∀ x d,dat (upd x d)=d
def Nb.b:Nb (List UInt8):=⟨fun _=>[],fun x=>x,fun _ d=>d,1,fun _=>rfl,(fun _ _ h=>by cases h),fun _ _=>rfl,fun _ _=>rfl⟩
def Nb.s:Nb (Int×List UInt8):=⟨fun x=>[.int .i64 x.1],fun x=>x.2,fun x d=>(x.1,d),2,fun _=>rfl,(fun _ u h=>by simp at h;subst h;rfl),fun _ _=>rfl,fun _ _=>rfl⟩
section
variable {α:Type} (N:Nb α) (e:TypeId)
end
section
variable {α:Type} {N:Nb α} {e:TypeId}
theorem Qh:∀ (A T:List BS) (i:Nat),Dy (A++T) (A.length+i)=Dy T i
 | [],T,i=>by rw [List.nil_append,List.length_nil,Nat.zero_add]
 | a::A,T,i=>by rw [List.length_cons,show A.length+1+i=(A.length+i)+1 by omega];exact Qh A T i
theorem VS:∀ (A T:List BS) (i:Nat) (r:BS),CX (A++T) (A.length+i) r=A++CX T i r
 | [],T,i,r=>by rw [List.nil_append,List.length_nil,Nat.zero_add,List.nil_append]
 | a::A,T,i,r=>by rw [List.length_cons,show A.length+1+i=(A.length+i)+1 by omega];exact congrArg (a :: ·) (VS A T i r)
theorem JC:∀ {A:List BS} {i:Nat} {r:BS} (T:List BS),Dy A i=some r->Dy (A++T) i=some r
 | _::_,0,_,_,h=>h
 | _::A,i+1,_,T,h=>JC (A:=A) (i:=i) T h
theorem MV:∀ {A:List BS} {i:Nat} {r:BS} (s:BS) (T:List BS),Dy A i=some r->CX (A++T) i s=CX A i s++T
 | _::_,0,_,_,_,_=>rfl
 | a::A,i+1,_,s,T,h=>congrArg (a :: ·) (MV (A:=A) (i:=i) s T h)
end
section
variable {P:Program} {n:Sz} {ops:Array Oper} {Q:Exit->Act->World->Prop} {L:Env} {w w0:World} {O:List BS} {rest:List Oper}
 {d:Nat} {ty:TypeId} {pos:String} {af:Array Edge} {α:Type} [Inhabited α] {N:Nb α} {x y:Operand} {vo:Value} {t e eo:TypeId} {A:List BS} {l:List α} {vs:List Value}
end
section
variable {P:Program} {n:Sz} {ops:Array Oper} {Q:Exit->Act->World->Prop} {L:Env} {w w0:World} {rest:List Oper}
 {d d':Nat} {ty ty':TypeId} {pos pos':String} {af af':Array Edge} {α:Type} {N:Nb α} {x:Operand} {v vo:Value} {t e eo:TypeId} {H:PH} {l:List α} {vs:List Value}
end
section
variable {w w' w0:World} {A T O O':List BS} {α:Type} {N:Nb α} {r:Rp α} {vo:Value} {e eo:TypeId} {H:PH} {l:List α} {vs:List Value}
theorem VT:∀ (A T:List BS) (i:Nat),L9 (A++T) (A.length+i)=A++L9 T i
 | [],T,i=>by rw [List.nil_append,List.length_nil,Nat.zero_add,List.nil_append]
 | a::A,T,i=>by rw [List.length_cons,show A.length+1+i=(A.length+i)+1 by omega];exact congrArg (a :: ·) (VT A T i)
end
end Go.E
namespace Go.L
def Im{κ β:Type}[DecidableEq κ](d:β)(k:κ):List (κ×β)->β
 | []=>d
 | (a,y)::l=>if k=a then y else Im d k l
def HC{κ β:Type}[DecidableEq κ](k:κ)(y:β):List (κ×β)->List (κ×β)
 | []=>[(k,y)]
 | (a,z)::l=>if k=a then(a,y)::l else(a,z)::HC k y l
end Go.L
namespace Go.E
open Go Go.RowKit
def mE{κ:Type}(enc:κ->Value):Nat->List κ->List Value->List MapEntry
 | i,k::l,v::vs=>⟨enc k,v,i⟩::mE enc (i+1) l vs
 | _,_,_=>[]
def mI{κ:Type}[DecidableEq κ](k:κ):List κ->Option Nat
 | []=>none
 | a::l=>if k=a then some 0 else(mI k l).map (· + 1)
section
variable {κ:Type} {enc:κ->Value} {k:κ}
theorem UO{v:Value}:∀ (l:List κ) (vs:List Value) (i:Nat),l.length=vs.length->mE enc i l vs++[⟨enc k,v,i+l.length⟩]=mE enc i (l++[k]) (vs++[v])
 | [],[],i,_=>by simp [mE]
 | a::l,u::vs,i,h=>by
  have:=UO (v:=v) l vs (i+1) (by simpa using h);simp only [mE,List.cons_append,List.length_cons];rw [<- this,show i+(l.length+1)=i+1+l.length by omega]
theorem QS:∀ (l:List κ) (vs:List Value) (i m:Nat) (a:κ),l.length=vs.length->l[m]? = some a->(mE enc i l vs)[m]? = some ⟨enc a,vs.getD m default,i+m⟩
 | b::l,u::vs,i,0,a,_,h=>by simp at h;subst h;simp [mE]
 | b::l,u::vs,i,m+1,a,hl,h=>by
  have:=QS l vs (i+1) m a (by simpa using hl) (by simpa using h);simp only [mE,List.getElem?_cons_succ,this];simp;omega
theorem Ud{v:Value}:∀ (l:List κ) (vs:List Value) (i m:Nat),l.length=vs.length->l[m]? = some k->(mE enc i l vs).modify m (fun e=>{e with key:=enc k,val:=v})=mE enc i l (vs.set m v)
 | b::l,u::vs,i,0,_,h=>by simp at h;subst h;simp [mE]
 | b::l,u::vs,i,m+1,hl,h=>by
  have:=Ud (v:=v) l vs (i+1) m (by simpa using hl) (by simpa using h);simp only [mE,List.modify_succ_cons,List.set_cons_succ,this]
theorem QT:∀ (l:List κ) (vs:List Value) (i:Nat),l.length=vs.length->(mE enc i l vs).length=l.length
 | [],[],_,_=>rfl
 | a::l,u::vs,i,h=>by simp [mE,QT l vs (i+1) (by simpa using h)]
end
structure NO (P:Program) {κ:Type} [DecidableEq κ] (kt:TypeId) (enc:κ->Value):Prop where
 check:∀ (b:Bool) (k:κ) w,(Instr.checkKey b 10000 kt (enc k)).run P w=.ok () w
 bits:∀ k,Instr.sameBits 10000 (enc k) (enc k)=true
 find:∃ dd,P.underlying kt=some dd/\((∀ a b,Instr.sameNow dd (enc a) (enc b)=some (decide (a=b)))\/
  ((∀ a b,Instr.sameNow dd (enc a) (enc b)=none)/\∀ a b w,(Op.equal kt (enc a) (enc b)).run P w=.ok (decide (a=b)) w))
section
variable {P:Program} {κ:Type} [DecidableEq κ] {kt t et:TypeId} {enc:κ->Value} {k:κ}
theorem Ue:∀ {l:List κ} {m:Nat},mI k l=some m->m<l.length/\l[m]? = some k
 | a::l,m,h=>by
  simp only [mI] at h
  split at h
  ·rename_i e;cases h;subst e;simp
  ·cases b:mI k l with
   | none=>rw [b] at h;cases h
   | some j=>
    rw [b] at h;cases h;have:=Ue b
    simpa using this
theorem SE{dd:TypeDesc}(h:∀ a b,Instr.sameNow dd (enc a) (enc b)=some (decide (a=b))):∀ (l:List κ) (vs:List Value) (i j:Nat),l.length=vs.length->
  Instr.findNow dd (enc k) (mE enc i l vs) j=some ((mI k l).map fun m=>(j+m,vs.getD m default))
 | [],_,_,_,_=>by simp [mE,Instr.findNow,mI]
 | a::l,v::vs,i,j,hl=>by
  simp only [mE,Instr.findNow,h,mI]
  by_cases e:k=a
  ·simp [e]
  ·simp only [e,decide_false];rw [SE h l vs (i+1) (j+1) (by simpa using hl)]
   cases mI k l with
   | none=>simp
   | some m=>simp;omega
theorem P3(h:∀ a b w,(Op.equal kt (enc a) (enc b)).run P w=.ok (decide (a=b)) w)(w:World):∀ (l:List κ) (vs:List Value) (i j:Nat),l.length=vs.length->
  (Instr.findAsking kt (enc k) (mE enc i l vs) j).run P w=.ok ((mI k l).map fun m=>(j+m,vs.getD m default)) w
 | [],_,_,_,_=>by simp [mE,Instr.findAsking,mI]
 | a::l,v::vs,i,j,hl=>by
  simp only [mE,Instr.findAsking,mI,Sem.run_bind,h,Result.andThen]
  by_cases e:k=a
  ·simp [e]
  ·simp only [e,decide_false];rw [if_neg (by simp),P3 h w l vs (i+1) (j+1) (by simpa using hl)]
   cases mI k l with
   | none=>simp
   | some m=>simp;omega
theorem Sg(hk:NO P kt enc){l:List κ}{vs:List Value}(hl:l.length=vs.length)(w:World):
  (Instr.findKey kt (enc k) (mE enc 0 l vs)).run P w=.ok ((mI k l).map fun m=>(m,vs.getD m default)) w:=by
 obtain⟨dd,hd,h⟩:=hk.find;unfold Instr.findKey
 rcases h with h | ⟨b,h2⟩
 ·simp [run_underlying hd,SE h l vs 0 0 hl]
 ·cases l with
  | nil=>
   have:vs=[]:=List.eq_nil_of_length_eq_zero (by simpa using hl.symm);subst this;simp [run_underlying hd,mE,Instr.findNow,mI]
  | cons a l=>
   cases vs with
   | nil=>cases hl
   | cons v vs=>
    have e:Instr.findNow dd (enc k) (mE enc 0 (a::l) (v::vs)) 0=none:=by simp only [mE,Instr.findNow,b]
    simp only [Sem.run_bind,run_underlying hd,Result.andThen,e];have:=P3 (k:=k) h2 w (a::l) (v::vs) 0 0 hl;rw [this];simp
def WO(z:Value)(k:κ)(l:List κ)(vs:List Value):Value:=match mI k l with
 | some m=>vs.getD m default
 | none=>z
def Mz(P:Program)(et:TypeId)(z:Value):Prop:=∀ w,(zeroValue et).run P w=.ok z w
theorem SF{w:World}{b n:Nat}{l:List κ}{vs:List Value}{z:Value}(hk:NO P kt enc)(ht:P.underlying t=some (.map kt et))(hz:Mz P et z)(hb:w.heap[b]? = some (.map (mE enc 0 l vs).toArray n))(hl:l.length=vs.length):
  (Instr.lookup t (.map (some b)) (enc k) false).run P w=.ok (WO z k l vs) w:=by
 have hg:(getObj b).run P w=.ok (.map (mE enc 0 l vs).toArray n) w:=by simp [getObj,Sem.run,hb]
 simp only [Instr.lookup,Sem.run_bind,run_underlying ht,Result.andThen,hg,hk.check];simp only [Sem.run_pure];rw [Sg hk hl];unfold WO
 cases mI k l with
 | some m=>simp
 | none=>simp [hz w]
def upK(k:κ)(l:List κ):List κ:=match mI k l with
 | some _=>l
 | none=>l++[k]
def WQ(k:κ)(v:Value)(l:List κ)(vs:List Value):List Value:=match mI k l with
 | some m=>vs.set m v
 | none=>vs++[v]
theorem Adp{v:Value}{l:List κ}{vs:List Value}(hl:l.length=vs.length):(upK k l).length=(WQ k v l vs).length:=by
 unfold upK WQ
 cases mI k l <;> simp [hl]
theorem WT{w:World}{b:Nat}{l:List κ}{vs:List Value}{v:Value}(hk:NO P kt enc)(ht:P.underlying t=some (.map kt et))(hb:w.heap[b]? = some (.map (mE enc 0 l vs).toArray l.length))(hl:l.length=vs.length):
  (Instr.mapUpdate t (.map (some b)) (enc k) v).run P w=.ok () (w.putObj b (.map (mE enc 0 (upK k l) (WQ k v l vs)).toArray (upK k l).length)):=by
 have hg:(getObj b).run P w=.ok (.map (mE enc 0 l vs).toArray l.length) w:=by simp [getObj,Sem.run,hb]
 have hs:∀ o,(setObj b o).run P w=.ok () (w.putObj b o):=fun o=>by simp [setObj,Sem.run,hb,World.putObj]
 simp only [Instr.mapUpdate,Sem.run_bind,run_underlying ht,Result.andThen,hg,hk.check];rw [Sg hk hl];unfold upK WQ
 cases hm:mI k l with
 | some m=>
  obtain⟨c,h2⟩:=Ue hm;have he:=QS (enc:=enc) l vs 0 m k hl h2;simp only [Option.map_some,Sem.run_bind,Result.andThen,List.getElem?_toArray,he,Option.getD_some,Instr.keyThatStays,hk.bits,if_true];simp only [Sem.run_pure];have a:(mE enc 0 l vs).toArray.modify m (fun e=>{e with key:=enc k,val:=v})=(mE enc 0 l (vs.set m v)).toArray:=by rw [List.modify_toArray,Ud l vs 0 m hl h2]
  rw [a];exact hs _
 | none=>
  have hp:=UO (enc:=enc) (k:=k) (v:=v) l vs 0 hl;rw [Nat.zero_add] at hp;simp only [Option.map_none,List.push_toArray];rw [hp,hs];simp
end
section
variable {κ β:Type} [DecidableEq κ] {k:κ} {z:Value} {enc:κ->Value} {ev':β->Value}
theorem Sh:∀ {l:List (κ×β)} (d:β),mI k (l.map Prod.fst)=none->Go.L.Im d k l=d
 | [],_,_=>rfl
 | (a,y)::l,d,h=>by
  simp only [List.map_cons,mI] at h
  split at h
  ·cases h
  ·rename_i e;simp only [Go.L.Im,if_neg e];exact Sh d (by cases b:mI k (l.map Prod.fst) <;> simp_all)
theorem Si:∀ {l:List (κ×β)} {m:Nat} (d:β),mI k (l.map Prod.fst)=some m->l[m]? = some (k,Go.L.Im d k l)
 | (a,y)::l,m,d,h=>by
  simp only [List.map_cons,mI] at h
  split at h
  ·rename_i e;cases h;subst e;simp [Go.L.Im]
  ·rename_i e
   cases b:mI k (l.map Prod.fst) with
   | none=>rw [b] at h;cases h
   | some j=>
    rw [b] at h;cases h
    simpa [Go.L.Im,if_neg e] using Si d b
theorem OT{y:β}:∀ {l:List (κ×β)},mI k (l.map Prod.fst)=none->Go.L.HC k y l=l++[(k,y)]
 | [],_=>rfl
 | (a,x)::l,h=>by
  simp only [List.map_cons,mI] at h
  split at h
  ·cases h
  ·rename_i e;simp only [Go.L.HC,if_neg e,List.cons_append];rw [OT (by cases b:mI k (l.map Prod.fst) <;> simp_all)]
theorem OU{y:β}:∀ {l:List (κ×β)} {m:Nat},mI k (l.map Prod.fst)=some m->Go.L.HC k y l=l.set m (k,y)
 | (a,x)::l,m,h=>by
  simp only [List.map_cons,mI] at h
  split at h
  ·rename_i e;cases h;subst e;simp [Go.L.HC]
  ·rename_i e
   cases b:mI k (l.map Prod.fst) with
   | none=>rw [b] at h;cases h
   | some j=>
    rw [b] at h;cases h;simp only [Go.L.HC,if_neg e];rw [OU b]
    rfl
theorem SG{y:β}{l:List (κ×β)}:upK k (l.map Prod.fst)=(Go.L.HC k y l).map Prod.fst:=by
 unfold upK
 cases h:mI k (l.map Prod.fst) with
 | none=>rw [OT h];simp
 | some m=>
  rw [OU h];obtain⟨b,h2⟩:=Ue h;simp only [List.map_set];obtain⟨h3,a⟩:=List.getElem?_eq_some_iff.1 h2
  conv=>lhs;rw [<- List.set_getElem_self h3,a]
end
abbrev P4{κ β:Type}(enc:κ->Value)(b:Nat)(l:List (κ×β))(vs:List Value):BS:=.obj b (.map (mE enc 0 (l.map Prod.fst) vs).toArray l.length)
section
variable {P:Program} {n:Sz} {ops:Array Oper} {Q:Exit->Act->World->Prop} {L:Env} {w w0:World} {O:List BS} {rest:List Oper} {d:Nat} {ty t kt et:TypeId} {pos:String} {af:Array Edge} {x y x':Operand}
 {κ β:Type} [DecidableEq κ] {enc:κ->Value} {ev':β->Value} {l:List (κ×β)} {k:κ} {H:PH}
omit [DecidableEq κ] in
theorem Uf[Dr](enc:κ->Value)(β:Type)(hn:Nat.blt d n.n=true)(hL:Bd w0 O w)
  (h:∀ w' b,Bd w0 (P4 enc b ([]:List (κ×β)) []::O) w'->Le (fz w O) (fz w' (P4 enc b ([]:List (κ×β)) []::O))->S P n ops Q rest ((d,.map (some b))::L) w'):S P n ops Q (⟨some d,.makeMap t none,ty,pos,af,none⟩::rest) L w:=by
 have hb:∀ b,(BS.obj w.heap.size (.map (mE enc 0 (([]:List (κ×β)).map Prod.fst) []).toArray ([]:List (κ×β)).length)).block=some b->w.heap.size<=b:=fun b e=>by cases e;exact Nat.le_refl _
 refine Du (v:=.map (some w.heap.size)) (w':=w.alloc (.map #[] 0)) rfl rfl hn (fun ρ hρ=>?_) (h _ _ (hL.new (C8 w _) (World.alloc_heap_new w _) hb) (PF hL (C8 w (.map #[] 0)) hb));simp [execOp,Instr.makeMap,newObj,Sem.run]
end
section
variable {κ α:Type} (cw:α->List Value) (e:TypeId) (sz:Nat)
def mR(x:List α)(v:Value):BS:=.row v e sz x.length (x.flatMap cw)
def mT:List (κ×List α)->List Value->List BS
 | x::l,v::vs=>mR cw e sz x.2 v::mT l vs
 | _,_=>[]
end
section
variable {κ α:Type} {cw:α->List Value} {e:TypeId} {sz:Nat}
theorem ZB:∀ {l:List (κ×List α)} {vs:List Value},l.length=vs.length->∀ {i:Nat} {k:κ} {x:List α},l[i]? = some (k,x)->Dy (mT cw e sz l vs) i=some (mR cw e sz x (vs.getD i default))
 | y::l,v::vs,h,0,k,x,hx=>by simp at hx;subst hx;rfl
 | y::l,v::vs,h,i+1,k,x,hx=>by
  have:=ZB (l:=l) (vs:=vs) (by simpa using h) (i:=i) (by simpa using hx)
  simpa [mT,Dy] using this
theorem ZC:∀ {l:List (κ×List α)} {vs:List Value},l.length=vs.length->∀ {i:Nat} (k:κ) (x:List α) (v:Value),i<l.length->CX (mT cw e sz l vs) i (mR cw e sz x v)=mT cw e sz (l.set i (k,x)) (vs.set i v)
 | y::l,u::vs,h,0,k,x,v,_=>rfl
 | y::l,u::vs,h,i+1,k,x,v,hi=>by
  have:=ZC (l:=l) (vs:=vs) (by simpa using h) (i:=i) k x v (by simpa using hi);simp [mT,CX,this]
theorem UP(k:κ)(x:List α)(v:Value):∀ {l:List (κ×List α)} {vs:List Value},l.length=vs.length->mT cw e sz (l++[(k,x)]) (vs++[v])=mT cw e sz l vs++[mR cw e sz x v]
 | [],[],_=>rfl
 | y::l,u::vs,h=>by
  have:=UP k x v (l:=l) (vs:=vs) (by simpa using h);simp [mT,this]
end
section
variable {P:Program} {n:Sz} {ops:Array Oper} {Q:Exit->Act->World->Prop} {L:Env} {w w0:World} {O:List BS} {rest:List Oper} {d:Nat} {ty ty' t mt kt et e:TypeId} {pos pos':String} {af af':Array Edge} {x y x' m':Operand}
 {κ α:Type} [DecidableEq κ] {enc:κ->Value} {cw:α->List Value} {sz:Nat} {l:List (κ×List α)} {vs:List Value} {k:κ} {H:PH} {A:List BS}
def Adq(cw:α->List Value)(e:TypeId)(sz:Nat)(l:List (κ×List α))(vs:List Value)(k:κ)(y:List α)(v:Value)(T:List BS):Prop:=
 v.oneCell'=true/\l.length=vs.length/\T.Perm (mT cw e sz (Go.L.HC k y l) (WQ k v (l.map Prod.fst) vs))
theorem ZD[Dr]{r:Rp α}{bt:Nat}{zz u:Value}{z:α}(hr:∀ G (x:α) c,r.rel G x c↔c=cw x)(hsz:r.sz=sz)(hx:ev L x=some (WO (.slice none 0 0) k (l.map Prod.fst) vs))(hy:ev L y=some u)(ht:P.underlying t=some (.slice e))(hz:Zr P e zz sz bt)(hzs:zz.cells.size=sz)(g:0<sz)(hn:Nat.blt d n.n=true)
  (hH:Le H (hp w0)) (hL:Bd w0 (A++mT cw e sz l vs) w) (hl:l.length=vs.length) (hu:AI r (gz H w0 w (A++mT cw e sz l vs)) u [z]) (hby:J3 bt ((Go.L.Im [] k l).length+1))
  (h:∀ v' w' T,Adq cw e sz l vs k (Go.L.Im [] k l++[z]) v' T->Bd w0 (A++T) w'->Le (fz w (A++mT cw e sz l vs)) (fz w' (A++T))->S P n ops Q rest ((d,v')::L) w') :
  S P n ops Q (⟨some d,.call ⟨.builtin .append,#[x,y],#[t,t]⟩,ty,pos,af,none⟩::rest) L w:=by
 have hel:∃ news,news=cw z/\Src (hp w) sz u 1 news:=by
  obtain⟨news,b,h2⟩:=hu.elems
  have h3:news=cw z:=by
   cases b with
   | cons hc ht=>cases ht;rw [List.append_nil];exact(hr _ _ _).1 hc
  rw [hsz] at h2;exact⟨news,h3,h2.mono (Ar hH hL)⟩
 obtain⟨news,rfl,hsrc⟩:=hel;have hone:∀ c∈cw z,c.oneCell'=true:=fun c hc=>r.one (H:=H) ((hr H z (cw z)).2 rfl) c hc
 cases hmi:mI k (l.map Prod.fst) with
 | some m=>
  obtain⟨b,h2⟩:=Ue hmi;have h1':m<l.length:=by simpa using b
  have hg:=Si ([]:List α) hmi;have hrow:=ZB (cw:=cw) (e:=e) (sz:=sz) hl hg;have hlk:WO (.slice none 0 0) k (l.map Prod.fst) vs=vs.getD m default:=by unfold WO;rw [hmi]
  rw [hlk] at hx;have hO:Dy (A++mT cw e sz l vs) (A.length+m)=some (.row (vs.getD m default) e sz (Go.L.Im [] k l).length ((Go.L.Im [] k l).flatMap cw)):=by rw [Qh];exact hrow
  refine S4 (A.length+m) hx hy ht hz hzs g hn hL hO hsrc hone hby fun v' w' hL' hle'=>?_;have p:(.row v' e sz ((Go.L.Im [] k l).length+1) ((Go.L.Im [] k l).flatMap cw++cw z):BS)=mR cw e sz (Go.L.Im [] k l++[z]) v':=by simp [mR]
  rw [p,VS,ZC hl k _ _ h1'] at hL' hle';have f:WQ k v' (l.map Prod.fst) vs=vs.set m v':=by unfold WQ;rw [hmi]
  refine h v' w' _ ⟨?_,hl,?_⟩ hL' hle'
  ·have j:(l.set m (k,Go.L.Im [] k l++[z])).length=(vs.set m v').length:=by simp [hl]
   have o:(l.set m (k,Go.L.Im [] k l++[z]))[m]? = some (k,Go.L.Im [] k l++[z]):=by simp [h1']
   have a:=ZB (cw:=cw) (e:=e) (sz:=sz) j o;have hgv:(vs.set m v').getD m default=v':=by simp [List.getD_eq_getElem?_getD,show m<vs.length by omega]
   rw [hgv] at a;have:=hL'.at (i:=A.length+m) (r:=mR cw e sz (Go.L.Im [] k l++[z]) v') (by rw [Qh];exact a);exact row_one this
  ·rw [f,OU hmi]
 | none=>
  have hg:=Sh ([]:List α) hmi;have hlk:WO (.slice none 0 0) k (l.map Prod.fst) vs=.slice none 0 0:=by unfold WO;rw [hmi]
  rw [hlk] at hx;have hnil:=Sd hL e sz;have hby':J3 bt (0+1):=by rw [hg] at hby;exact hby
  refine S4 0 hx hy ht hz hzs g hn hnil.1 rfl hsrc hone hby' fun v' w' hL' hle'=>?_
  have hp:(A++(mT cw e sz l vs++[mR cw e sz [z] v'])).Perm (.row v' e sz (0+1) ([]++cw z)::(A++mT cw e sz l vs)):=by
   rw [<- List.append_assoc];have:(mR cw e sz [z] v':BS)=.row v' e sz (0+1) ([]++cw z):=by simp [mR]
   rw [this];exact List.perm_append_singleton _ _
  have f:WQ k v' (l.map Prod.fst) vs=vs++[v']:=by unfold WQ;rw [hmi]
  refine h v' w' (mT cw e sz l vs++[mR cw e sz [z] v']) ⟨row_one (hL'.at (i:=0) rfl),hl,?_⟩ (hL'.perm hp) ?_
  ·rw [f,OT hmi,hg,List.nil_append,UP k [z] v' hl]
  ·rw [I3 hp];exact hnil.2.trans hle'
theorem Adr[Dr](ib:Nat){b:Nat}{v:Value}{yl:List α}{T:List BS}(hpd:Adq cw e sz l vs k yl v T)(hm:ev L m'=some (.map (some b)))(hkx:ev L x'=some (enc k))(hv:ev L x=some v)(hmt:P.underlying mt=some (.map kt et))(hk:NO P kt enc)
  (hL:Bd w0 (A++T) w) (hib:Dy A ib=some (P4 enc b l vs))
  (h:∀ vs' w',(Go.L.HC k yl l).length=vs'.length->Bd w0 (CX A ib (P4 enc b (Go.L.HC k yl l) vs')++mT cw e sz (Go.L.HC k yl l) vs') w'->
   Le (fz w (A++T)) (fz w' (CX A ib (P4 enc b (Go.L.HC k yl l) vs')++mT cw e sz (Go.L.HC k yl l) vs'))->S P n ops Q rest L w') :
  S P n ops Q (⟨none,.mapUpdate mt m' x' x,ty,pos,af,none⟩::rest) L w:=by
 obtain⟨_,hl,hpm⟩:=hpd;have hb:w.heap[b]? = some (.map (mE enc 0 (l.map Prod.fst) vs).toArray l.length):=hL.at (JC T hib);have hur:=WT (k:=k) (v:=v) (l:=l.map Prod.fst) (vs:=vs) hk hmt (by rw [List.length_map];exact hb) (by simp [hl]);rw [SG (y:=yl),List.length_map] at hur;have hp:=hL.putAt (.map (mE enc 0 ((Go.L.HC k yl l).map Prod.fst) (WQ k v (l.map Prod.fst) vs)).toArray (Go.L.HC k yl l).length) (JC T hib);rw [MV _ _ hib] at hp;have a:=List.Perm.append_left (CX A ib (P4 enc b (Go.L.HC k yl l) (WQ k v (l.map Prod.fst) vs))) hpm.symm;have hlen:=Adp (k:=k) (v:=v) (l:=l.map Prod.fst) (vs:=vs) (by simp [hl]);rw [SG (y:=yl),List.length_map] at hlen;refine MR (w':=_) rfl rfl (fun ρ hρ=>?_) (h (WQ k v (l.map Prod.fst) vs) _ hlen (hp.1.perm a) ?_)
 ·simp [execOp,hρ m' _ hm,hρ x' _ hkx,hρ x _ hv,hur]
 ·rw [I3 a];exact hp.2
end
def TD{κ β:Type}(enc:κ->Value)(r:Rp β)(H:PH)(v:Value)(l:List (κ×β)):Prop:=
 ∃ b vs,v=.map (some b)/\H b=some (.map (mE enc 0 (l.map Prod.fst) vs).toArray l.length)/\l.length=vs.length/\∀ i x,l[i]? = some x->r.rel H x.2 [vs.getD i default]
theorem TD.mono{κ β:Type}{enc:κ->Value}{r:Rp β}{H H':PH}{v:Value}{l:List (κ×β)}(h:TD enc r H v l)(hs:Le H H'):TD enc r H' v l:=by
 obtain⟨b,vs,a,h2,h3,c⟩:=h;exact⟨b,vs,a,hs _ _ h2,h3,fun i x hx=>r.mono hs (c i x hx)⟩
section
variable {P:Program} {L:Env} {w w0:World} {ty t kt et e:TypeId} {x y:Operand} {κ α:Type} [DecidableEq κ] {enc:κ->Value} {cw:α->List Value} {r:Rp α} {sz:Nat} {l:List (κ×List α)} {vs:List Value} {k:κ} {H:PH} {A:List BS}
omit [DecidableEq κ] in
theorem XH[Dr](hsz:r.sz=sz)(hr:∀ G (x:α) c,r.rel G x c↔c=cw x)(hH:Le H (hp w0)):∀ {l:List (κ×List α)} {vs:List Value},l.length=vs.length->Bd w0 (A++mT cw e sz l vs) w->Bd w0 A w/\Le (fz w (A++mT cw e sz l vs)) (fz w A)/\∀ i x,l[i]? = some x->AI r (gz H w0 w A) (vs.getD i default) x.2
 | [],[],_,hL=>⟨by simpa [mT] using hL,by simp only [mT,List.append_nil];exact Le.refl _,fun i x hx=>by cases hx⟩
 | y::l,v::vs,hn,hL=>by
  have hi:Dy (A++mT cw e sz (y::l) (v::vs)) (A.length+0)=some (.row v e r.sz y.2.length (y.2.flatMap cw)):=by rw [Qh,hsz];rfl
  have hel:AJ r (gz H w0 w (A++mT cw e sz (y::l) (v::vs))) y.2 (y.2.flatMap cw):=by
   generalize gz H w0 w (A++mT cw e sz (y::l) (v::vs))=G
   induction y.2 with
   | nil=>exact .nil
   | cons a m ih=>rw [List.flatMap_cons];exact .cons ((hr _ _ _).2 rfl) ih
  have hv:=hL.Cz hH hi hel;have b:=hL.AQ hi;have d:=Au (w:=w) hi;rw [VT] at hv b d;obtain⟨f,h2,h3⟩:=XH hsz hr hH (l:=l) (vs:=vs) (by simpa using hn) b;refine⟨f,d.trans h2,fun i x hx=>?_⟩
  cases i with
  | zero=>simp at hx;subst hx;exact hv.mono (Ab hH h2)
  | succ i=>simpa using h3 i x (by simpa using hx)
 | [],_::_,h,_=>by cases h
 | _::_,[],h,_=>by cases h
omit [DecidableEq κ] in
theorem XI[Dr](ib:Nat){b:Nat}(hsz:r.sz=sz)(hr:∀ G (x:α) c,r.rel G x c↔c=cw x)(hH:Le H (hp w0))(hl:l.length=vs.length)(hL:Bd w0 (A++mT cw e sz l vs) w)(hib:Dy A ib=some (P4 enc b l vs)):
  Bd w0 (L9 A ib) w/\Le (fz w (A++mT cw e sz l vs)) (fz w (L9 A ib))/\TD enc (.vec r) (gz H w0 w (L9 A ib)) (.map (some b)) l:=by
 obtain⟨a,h2,h3⟩:=XH hsz hr hH hl hL;have d:=Au (w:=w) hib;have hb:=a.at hib;refine⟨a.AQ hib,h2.trans d,b,vs,rfl,?_,hl,fun i x hx=>⟨_,rfl,(h3 i x hx).mono (Ab hH d)⟩⟩;have hge:=a.own _ ((D1 hib).mem_iff.2 (.head _)) b rfl;have f:fz w (L9 A ib) b=w.heap[b]?:=S0 hib rfl a.dis;refine Qe b _ ?_;unfold nf;rw [if_pos hge,f];exact hb
theorem Aej[Dr]{v:Value}(hm:TD enc (.vec r) H v l)(hk:NO P kt enc)(ht:P.underlying t=some (.map kt et))(hz:Mz P et (.slice none 0 0))(hx:ev L x=some v)(hy:ev L y=some (enc k))(hs:Le H (hp w)):
  ∃ u,Bw P L w (.lookup t x y false) ty u/\AI r H u (Go.L.Im [] k l):=by
 obtain⟨b,vs,rfl,h2,h3,d⟩:=hm;refine⟨WO (.slice none 0 0) k (l.map Prod.fst) vs,fun w' hx' ρ hρ dst pos af g=>?_,?_⟩
 ·have:=SF (k:=k) (l:=l.map Prod.fst) (vs:=vs) hk ht hz (hx'.le _ _ (hs _ _ h2)) (by simp [h3]);simp [execOp,hρ x _ hx,hρ y _ hy,this]
 ·unfold WO
  cases hmi:mI k (l.map Prod.fst) with
  | none=>rw [Sh [] hmi];exact AI.nil r H
  | some m=>
   obtain⟨u,a,c⟩:=d m _ (Si [] hmi);simp only [List.cons.injEq,and_true] at a
   show AI r H (vs.getD m default) _
   rw [a];exact c
end
theorem VU(a b:List UInt8):((⟨a.toArray⟩:ByteArray)==⟨b.toArray⟩)=decide (a=b):=by
 have:((⟨a.toArray⟩:ByteArray)==⟨b.toArray⟩)=(a.toArray==b.toArray):=rfl;rw [this,Bool.eq_iff_iff];simp
def encS(s:List UInt8):Value:=.string ⟨s.toArray⟩
theorem Yw{P:Program}{kt:TypeId}(hd:P.underlying kt=some .string):NO P kt encS:=
 ⟨fun b k w=>by
   obtain⟨d,he⟩:∃ d,10000=d+1:=⟨9999,rfl⟩;rw [he];simp [Instr.checkKey,encS,run_underlying hd],
  fun k=>by simp [Instr.sameBits,encS,VU],
  ⟨_,hd,.inl fun a b=>by simp only [Instr.sameNow,encS,VU]⟩⟩
section
variable {P:Program} {n:Sz} {ops:Array Oper} {Q:Exit->Act->World->Prop} {L:Env} {w:World} {rest:List Oper} {d:Nat} {ty t kt et:TypeId} {pos:String} {af:Array Edge} {x y:Operand}
 {κ α:Type} [DecidableEq κ] {enc:κ->Value} {r:Rp α} {l:List (κ×List α)} {k:κ} {H:PH} {v:Value}
theorem XJ[Dr](hx:ev L x=some v)(hy:ev L y=some (enc k))(ht:P.underlying t=some (.map kt et))(hk:NO P kt enc)(hz:Mz P et (.slice none 0 0))(hm:TD enc (.vec r) H v l)(hs:Le H (hp w))(hn:Nat.blt d n.n=true)
  (h:∀ u,AI r H u (Go.L.Im [] k l)->S P n ops Q rest ((d,u)::L) w):S P n ops Q (⟨some d,.lookup t x y false,ty,pos,af,none⟩::rest) L w:=by
 obtain⟨u,a,h2⟩:=Aej (ty:=ty) hm hk ht hz hx hy hs;exact Ag a hn (h u h2)
end
abbrev Yx(h:Int×Int):List Value:=[.int .i64 h.1,.int .i64 h.2]
theorem ZE:∀ (G:PH) (x:Int×Int) (c:List Value),(Rp.pair (.int .i64) (.int .i64)).rel G x c↔c=Yx x:=
 fun _ _ _=>⟨fun⟨_,_,h,a,h2⟩=>by subst a;subst h2;exact h,fun h=>⟨_,_,h,rfl,rfl⟩⟩
abbrev cwI(h:Int):List Value:=[.int .i64 h]
theorem AcI:∀ (G:PH) (x:Int) (c:List Value),(Rp.int .i64).rel G x c↔c=cwI x:=fun _ _ _=>Iff.rfl
end Go.E
namespace Go.E
open Go Go.RowKit
def SH(ops:Array Oper)(j:Nat):Bool:=match ops[j]? with
 | some oj=>(List.range ops.size).all fun k=>k==j||oj.after.any fun e=>Region.binds .any e&&e.on==k
 | none=>false
theorem Yy{ops:Array Oper}{i j:Nat}{oj:Oper}(hj:ops[j]? = some oj)(hi:i<ops.size)(hne:i≠j)(hnot:∀ e∈oj.after,Region.binds .any e=true->e.on≠i):SH ops j=false:=by
 unfold SH;rw [hj];simp only
 cases h:(List.range ops.size).all (fun k=>k==j||oj.after.any fun e=>Region.binds .any e&&e.on==k) with
 | false=>rfl
 | true=>
  have a:=List.all_eq_true.1 h i (List.mem_range.2 hi);simp only [Bool.or_eq_true,beq_iff_eq,hne,false_or] at a;obtain⟨e,he,hb⟩:=Array.any_eq_true'.1 a;simp only [Bool.and_eq_true,beq_iff_eq] at hb;exact absurd hb.2 (hnot e he hb.1)
def dpB(ops:Array Oper)(j k:Nat):Bool:=match ops[j]? with
 | some oj=>oj.after.any fun e=>Region.binds .any e&&e.on==k
 | none=>false
def XK(ops:Array Oper)(j:Nat):List Nat->Bool
 | []=>true
 | x::r=>(dpB ops j x||r.any fun y=>dpB ops y x)&&XK ops j r
def Ug(ops:Array Oper)(j:Nat)(c:List Nat):Bool:=XK ops j c&&(List.range ops.size).all fun k=>k==j||c.contains k||dpB ops k j
def ClP(ops:Array Oper)(listed:Array Bool):Prop:=∀ k x,dpB ops k x=true->listed.getD k true=true->listed.getD x true=true
def ClB(ops:Array Oper)(listed:Array Bool):Bool:=Nat.ble listed.size ops.size&&(List.range ops.size).all fun k=>!(listed.getD k true)||(List.range ops.size).all fun x=>!(dpB ops k x)||listed.getD x true
theorem ZF{ops:Array Oper}{listed:Array Bool}(h:ClB ops listed=true):ClP ops listed:=fun k x hd hk=>by
 simp only [ClB,Bool.and_eq_true,List.all_eq_true,List.mem_range,Bool.or_eq_true,Bool.not_eq_true'] at h
 have hk':k<ops.size:=by
  rcases Nat.lt_or_ge k ops.size with a | a
  ·exact a
  ·simp [dpB,Array.getElem?_eq_none a] at hd
 rcases Nat.lt_or_ge x ops.size with hx | hx
 ·rcases h.2 k hk' with a | a
  ·rw [a] at hk;cases hk
  ·rcases a x hx with h2 | h2
   ·rw [h2] at hd;cases hd
   ·exact h2
 ·have:=Nat.le_of_ble_eq_true h.1;rw [Array.getD_eq_getD_getElem?,Array.getElem?_eq_none (by omega)];rfl
theorem XL{l:Array Bool}{k:Nat}(h:l.getD k false=true):l.getD k true=true:=by
 rw [Array.getD_eq_getD_getElem?] at *
 cases hq:l[k]? with
 | none=>rfl
 | some b=>rw [hq] at h;exact h
theorem Rz{ops:Array Oper}{listed:Array Bool}{j:Nat}(hc:ClP ops listed)(hj:∀ x,dpB ops j x=true->listed.getD x true=true):∀ (c:List Nat),XK ops j c=true->∀ x∈c,listed.getD x true=true
 | [],_,x,hx=>by cases hx
 | y::r,h,x,hx=>by
  simp only [XK,Bool.and_eq_true,Bool.or_eq_true,List.any_eq_true] at h;have ih:=Rz hc hj r h.2
  rcases List.mem_cons.1 hx with rfl | hx
  ·rcases h.1 with a | ⟨z,hz,a⟩
   ·exact hj _ a
   ·exact hc z _ a (ih z hz)
  ·exact ih x hx
section
variable (Inv:World->Prop) (P:Program) (ops:Array Oper) (Q:Exit->Act->World->Prop)
def MF:Nat->Array Bool->Act->World->Prop
 | 0,listed,a,w=>Region.ready .any ops listed=[]/\Q .normal a w
 | m+1,listed,a,w=>(Region.ready .any ops listed=[]->Q .normal a w)/\
  ∀ i∈Region.ready .any ops listed,wpOp P ops Q i (fun a' w'=>(SH ops i=true\/(∃ c,Ug ops i c=true)\/Inv w')/\MF m (listed.setIfInBounds i true) a' w') a w
def JP(o:Oper)(v:Value)(a:Act):Prop:=
 (Region.wanted o (yielded ops a.tmps)=true/\∀ w,Inv w->(execOp a.eval o).run P w=.ok (.value v) w)\/
 (Region.wanted o (yielded ops a.tmps)=false/\v=undef)
end
section
variable {Inv:World->Prop} {P:Program} {ops:Array Oper} {Q:Exit->Act->World->Prop}
theorem SI:∀ (m:Nat) (listed:Array Bool) (a:Act) (w:World),MF Inv P ops Q m listed a w->wpAny P .any ops Q m listed a w
 | 0,_,_,_,h=>h
 | m+1,_listed,_a,_w,h=>⟨h.1,fun i hi=>wpOp_mono (fun _a' _w' k=>SI m _ _ _ k.2) (h.2 i hi)⟩
theorem JP.same{o:Oper}{v:Value}{a a':Act}(hy:JP Inv P ops o v a)(he:execOp a'.eval o=execOp a.eval o)(hw:Region.wanted o (yielded ops a'.tmps)=Region.wanted o (yielded ops a.tmps)):JP Inv P ops o v a':=by
 unfold JP at *;rw [he,hw];exact hy
theorem JP.op{i:Nat}{o:Oper}{v:Value}{a:Act}{w:World}(hi:ops[i]? = some o)(hy:JP Inv P ops o v a)(hw:Inv w){K:Act->World->Prop}(h:K (a.put o.dst v) w):wpOp P ops Q i K a w:=by
 unfold wpOp;simp only [hi]
 rcases hy with ⟨b,hv⟩ | ⟨b,rfl⟩
 ·simp only [b,if_true,Oper.wp,hv w hw,Oper.upon];exact .inl h
 ·simp only [b,Bool.false_eq_true,if_false];exact h
theorem AbD{j:Nat}{oi oj:Oper}{v:Value}(hj:ops[j]? = some oj)(hap:oi.apart ops oj=true)(hsi:∀ cs b,oi.op≠.select cs b)(hsj:∀ cs b,oj.op≠.select cs b)
  (hQ:∀ c a w,Q (.panic c) (a.put oi.dst v) w->Q (.panic c) a w) {K:Act->World->Prop} {a:Act} {w:World} (hy:JP Inv P ops oi v a) (h:wpOp P ops Q j K (a.put oi.dst v) w) :
  wpOp P ops Q j (fun a' w'=>JP Inv P ops oi v a'/\K (a'.put oi.dst v) w') a w:=by
 obtain⟨g,h2,h3⟩:=Oper.apart_spec hap;have keep:∀ a,JP Inv P ops oi v a->∀ u,JP Inv P ops oi v (a.put oj.dst u):=fun a hy u=>hy.same (execOp_put oi hsi a oj.dst u h3) (wanted_put oi a oj.dst u h3);unfold wpOp at *;simp only [hj] at *;rw [wanted_put oj a oi.dst v g] at h
 split
 ·rename_i hw;simp only [hw,if_true] at h
  rcases h with h | ⟨ha,hl⟩
  case inr=>exact .inr ⟨by unfold Oper.asks at *;rw [execOp_put oj hsj a oi.dst v g] at ha;exact ha,hl⟩
  refine .inl ?_;unfold Oper.wp at *;rw [execOp_put oj hsj a oi.dst v g] at h;generalize (execOp a.eval oj).run P w=r at *
  cases r with
  | ok x w'=>
   cases x <;> simp only [Oper.upon] at h ⊢
   case value u=>exact⟨keep a hy u,by rw [<- Act.put_comm a v u h2];exact h⟩
   case skip=>exact⟨keep a hy _,by rw [<- Act.put_comm a v undef h2];exact h⟩
   case defer d=>
    refine⟨keep {a with defers:=d::a.defers} (hy.same rfl rfl) _,?_⟩;rw [<- Act.put_comm _ v undef h2,<- Act.put_defers];exact h
   case enter f args=>
    refine h.mono fun e w'' he=>?_
    cases e with
    | returned u=>exact⟨keep a hy u,by rw [<- Act.put_comm a v u h2];exact he⟩
    | panicked c=>exact hQ _ _ _ he
    | outgrown=>exact he
   case row row args=>exact Rows.mono h fun u w'' he=>⟨keep a hy u,by rw [<- Act.put_comm a v u h2];exact he⟩
  | halt x w'=>
   cases x <;> simp only [Oper.upon] at h ⊢
   case panic u=>exact hQ _ _ _ h
 ·rename_i hw;simp only [hw] at h;exact⟨keep a hy _,by rw [<- Act.put_comm a v undef h2];exact h⟩
theorem PL{i:Nat}{oi:Oper}{v:Value}(hi:ops[i]? = some oi)(hsel:∀ (j:Nat) (o:Oper) cs b,ops[j]? = some o->o.op≠.select cs b)(hQ:∀ c a w,Q (.panic c) (a.put oi.dst v) w->Q (.panic c) a w):
  ∀
   (m:Nat) (listed:Array Bool) (a:Act) (w:World),
   (∀ j oj,ops[j]? = some oj->j≠i->listed.getD j true=false->(∀ e∈oj.after,Region.binds .any e=true->e.on≠i)->oi.apart ops oj=true)->
   i∈Region.ready .any ops listed->ClP ops listed->Inv w->JP Inv P ops oi v a->MF Inv P ops Q m (listed.setIfInBounds i true) (a.put oi.dst v) w->MF Inv P ops Q (m+1) listed a w:=by
 intro m
 induction m with
 | zero=>
  intro listed a w _ hr _ hw hy H;refine⟨fun h=>(by rw [h] at hr;cases hr),fun j hj=>?_⟩
  by_cases hji:j=i
  ·subst hji;exact hy.op hi hw ⟨.inr (.inr hw),H⟩
  ·have:=ready_mono hj hji;rw [H.1] at this
   cases this
 | succ m ih=>
  intro listed a w hfree hr hcl hw hy H;refine⟨fun h=>(by rw [h] at hr;cases hr),fun j hj=>?_⟩
  by_cases hji:j=i
  ·subst hji;exact hy.op hi hw ⟨.inr (.inr hw),H⟩
  ·have d:=H.2 j (ready_mono hj hji);obtain⟨hjun,oj,hoj,hall⟩:=mem_ready.1 hj
   have hnot:∀ e∈oj.after,Region.binds .any e=true->e.on≠i:=fun e he hb heq=>by
    have d:=hall e he hb;have f:=(mem_ready.1 hr).1;rw [heq] at d
    rcases Nat.lt_or_ge i listed.size with h' | h'
    ·simp [h'] at f d;rw [f] at d;cases d
    ·simp [Array.getElem?_eq_none h'] at d
   have h2:=AbD hoj (hfree j oj hoj hji hjun hnot) (fun cs b=>hsel i oi cs b hi) (fun cs b=>hsel j oj cs b hoj) hQ hy d
   have hfree':∀ k ok,ops[k]? = some ok->k≠i->(listed.setIfInBounds j true).getD k true=false->
     (∀ e∈ok.after,Region.binds .any e=true->e.on≠i)->oi.apart ops ok=true:=fun k ok hk hki hun hno=>by
    refine hfree k ok hk hki ?_ hno
    by_cases hjk:j=k
    ·subst hjk;exact hjun
    ·rw [getD_set_ne true hjk] at hun;exact hun
   have hri:i∈Region.ready .any ops (listed.setIfInBounds j true):=ready_mono hr (Ne.symm hji);refine wpOp_mono (fun a' w' ⟨hy',hI,hk⟩=>?_) h2
   have hset:MF Inv P ops Q m ((listed.setIfInBounds j true).setIfInBounds i true) (a'.put oi.dst v) w':=by
    rw [Array.setIfInBounds_comm _ _ hji];exact hk
   have hi':=(Array.getElem?_eq_some_iff.1 hi).1
   have hjd:∀ x,dpB ops j x=true->listed.getD x true=true:=fun x hx=>by
    simp only [dpB,hoj] at hx;obtain⟨e,he,hb⟩:=Array.any_eq_true'.1 hx;simp only [Bool.and_eq_true,beq_iff_eq] at hb;rw [<- hb.2];exact XL (hall e he hb.1)
   have hiun:=(mem_ready.1 hr).1
   have hI':Inv w':=by
    rcases hI.resolve_left (by rw [Yy hoj hi' (Ne.symm hji) hnot];simp) with ⟨c,hc⟩ | hI
    ·exfalso
     simp only [Ug,Bool.and_eq_true,List.all_eq_true,List.mem_range,Bool.or_eq_true,beq_iff_eq] at hc
     rcases hc.2 i hi' with (h3 | h3) | h3
     ·exact hji h3.symm
     ·have g:=Rz hcl hjd c hc.1 i (by simpa using h3);rw [hiun] at g;cases g
     ·obtain⟨_,oi',hoi',hall'⟩:=mem_ready.1 hr;simp only [dpB,hoi'] at h3;obtain⟨e,he,hb⟩:=Array.any_eq_true'.1 h3;simp only [Bool.and_eq_true,beq_iff_eq] at hb;have l:=XL (hall' e he hb.1);rw [hb.2,hjun] at l;cases l
    ·exact hI
   have hcl':ClP ops (listed.setIfInBounds j true):=fun k x hd hk=>by
    by_cases hxj:x=j
    ·subst hxj;rw [Array.getD_eq_getD_getElem?,Array.getElem?_setIfInBounds]
     by_cases hs:x<listed.size
     ·simp [hs]
     ·simp [Array.getElem?_eq_none (Nat.le_of_not_lt hs),hs]
    ·rw [getD_set_ne true (Ne.symm hxj)]
     by_cases hkj:k=j
     ·subst hkj;exact hjd x hd
     ·rw [getD_set_ne true (Ne.symm hkj)] at hk;exact hcl k x hd hk
   exact⟨.inr (.inr hI'),ih _ a' w' hfree' hri hcl' hI' hy' hset⟩
end
def ZG(Inv:World->Prop)(P:Program)(l:List Oper)(Q:Exit->Act->World->Prop)(fuel i:Nat)(listed:Array Bool):Exit->Act->World->Prop:=Exit.then (fun a w=>(SH l.toArray i=true\/(∃ c,Ug l.toArray i c=true)\/Inv w)/\MF Inv P l.toArray Q fuel listed a w) Q
def Nw(Inv:World->Prop)(P:Program)(n:Sz)(l:List Oper)(Q:Exit->Act->World->Prop)(fuel:Nat)(listed:Array Bool)(L:Env)(w:World):Prop:=∀ a,Fr n a L->MF Inv P l.toArray Q fuel listed a w
section
variable {Inv:World->Prop} {P:Program} {n:Sz} {l:List Oper} {Q:Exit->Act->World->Prop} {L:Env} {w:World} {y:Code} {fuel:Nat} {m:Nat} {done:List Nat}
theorem ZH[Dr]{id:Nat}(Inv:World->World->Prop)(hm:P.follows .mixedOrders=true)(hl:l.length=m)(h:∀ w',Ext w w'->Nw (Inv w') P n l Q m (NN m []) L w'):W P n (.region id l.toArray true) Q L w:=fun a fr=>by
 refine wp_region_any hm ?_;have:=SI _ _ _ _ (h _ KI a fr);subst hl
 simpa [NN] using this
theorem Uh{i:Nat}{o:Oper}(ho:HR l i=some o)(h:S P n l.toArray (ZG Inv P l Q fuel i (NN m (i::done))) [o] L w):
  ∀ a,Fr n a L->wpOp P l.toArray Q i (fun a' w'=>(SH l.toArray i=true\/(∃ c,Ug l.toArray i c=true)\/Inv w')/\MF Inv P l.toArray Q fuel ((NN m done).setIfInBounds i true) a' w') a w:=
 fun a fr=>Ys ho (h a fr) (fun e a w hne he=>by cases e <;> first | exact absurd rfl hne | exact he)
theorem SJ{rs:List Nat}{listed:Array Bool}{a:Act}(hr:Region.ready .any l.toArray listed=rs)(hne:rs≠[])
  (h:∀ i∈rs,wpOp P l.toArray Q i (fun a' w'=>(SH l.toArray i=true\/(∃ c,Ug l.toArray i c=true)\/Inv w')/\MF Inv P l.toArray Q fuel (listed.setIfInBounds i true) a' w') a w):MF Inv P l.toArray Q (fuel+1) listed a w:=
 ⟨fun e=>by rw [hr] at e;exact absurd e hne,fun i hi=>h i (by rw [<- hr];exact hi)⟩
theorem Ef{i:Nat}{o:Oper}(hr:Region.ready .any l.toArray (NN m done)=[i])(ho:HR l i=some o)(h:S P n l.toArray (ZG Inv P l Q fuel i (NN m (i::done))) [o] L w):Nw Inv P n l Q (fuel+1) (NN m done) L w:=
 fun a fr=>SJ hr (by simp) fun k hk=>by
  obtain rfl:k=i:=by simpa using hk
  exact Uh ho h a fr
theorem Zd{i j:Nat}{o p:Oper}(hr:Region.ready .any l.toArray (NN m done)=[i,j])(ho:HR l i=some o)(hp:HR l j=some p)(h:S P n l.toArray (ZG Inv P l Q fuel i (NN m (i::done))) [o] L w)(h':S P n l.toArray (ZG Inv P l Q fuel j (NN m (j::done))) [p] L w):Nw Inv P n l Q (fuel+1) (NN m done) L w:=
 fun a fr=>SJ hr (by simp) fun k hk=>by
  have hk':k=i\/k=j:=by simpa using hk
  rcases hk' with rfl | rfl
  ·exact Uh ho h a fr
  ·exact Uh hp h' a fr
theorem NI3{i j s:Nat}{o p q:Oper}(hr:Region.ready .any l.toArray (NN m done)=[i,j,s])(ho:HR l i=some o)(hp:HR l j=some p)(hq:HR l s=some q)(h:S P n l.toArray (ZG Inv P l Q fuel i (NN m (i::done))) [o] L w)(h':S P n l.toArray (ZG Inv P l Q fuel j (NN m (j::done))) [p] L w)(h'':S P n l.toArray (ZG Inv P l Q fuel s (NN m (s::done))) [q] L w):Nw Inv P n l Q (fuel+1) (NN m done) L w:=
 fun a fr=>SJ hr (by simp) fun k hk=>by
  have hk':k=i\/k=j\/k=s:=by simpa using hk
  rcases hk' with rfl | rfl | rfl
  ·exact Uh ho h a fr
  ·exact Uh hp h' a fr
  ·exact Uh hq h'' a fr
theorem Ads{i:Nat}(hI:Inv w)(h:Nw Inv P n l Q fuel (NN m done) L w):S P n l.toArray (ZG Inv P l Q fuel i (NN m done)) [] L w:=fun a fr=>⟨.inr (.inr hI),h a fr⟩
theorem Fi{i:Nat}(hl:SH l.toArray i=true)(h:Nw Inv P n l Q fuel (NN m done) L w):S P n l.toArray (ZG Inv P l Q fuel i (NN m done)) [] L w:=fun a fr=>⟨.inl hl,h a fr⟩
theorem CE{i:Nat}(c:List Nat)(hl:Ug l.toArray i c=true)(h:Nw Inv P n l Q fuel (NN m done) L w):S P n l.toArray (ZG Inv P l Q fuel i (NN m done)) [] L w:=fun a fr=>⟨.inr (.inl ⟨c,hl⟩),h a fr⟩
theorem DB(hr:Region.ready .any l.toArray (NN m done)=[])(h:At n Q .normal L w):Nw Inv P n l Q 0 (NN m done) L w:=fun a fr=>⟨hr,h a fr⟩
theorem MW{s:Nat}{b:Bool}{listed:Array Bool}(_hb:gt L s=some (.bool b))(a:b=true->Nw Inv P n l Q fuel listed L w)(h2:b=false->Nw Inv P n l Q fuel listed L w):Nw Inv P n l Q fuel listed L w:=by
 cases b
 ·exact h2 rfl
 ·exact a rfl
variable {d:Nat} {op:Op} {ty:TypeId} {pos:String} {af:Array Edge}
theorem AB[Dr](i:Nat){v:Value}(hq:HY Q)(hI:Inv w)(hc:(QN l m done i&&ClB l.toArray (NN m done))=true)(ho:HR l i=some ⟨some d,op,ty,pos,af,none⟩)(hr:∀ w,Inv w->Bw P L w op ty v)(hn:Nat.blt d n.n=true)
  (h:Nw Inv P n l Q fuel (NN m (i::done)) ((d,v)::L) w):Nw Inv P n l Q (fuel+1) (NN m done) L w:=fun a fr=>by
 simp only [QN,Bool.and_eq_true] at hc;obtain⟨⟨⟨b,h2⟩,h3⟩,e⟩:=hc;have ho':l.toArray[i]? = some ⟨some d,op,ty,pos,af,none⟩:=by rw [Fg] at ho;simpa using ho
 exact PL (v:=v) ho' (Region.noSelect_spec b) (fun c a w k=>hq c a _ _ w k) _ _ a w (Region.free_spec ho' h2) (by simpa using h3) (ZF e) hI
  (.inl ⟨by simp [Region.wanted],fun w' hw'=>hr w' hw' w' (Ext.refl _) _ fr.RC _ _ _ _⟩) (h _ (fr.put hn))
theorem GO[Dr](i:Nat){v:Value}{j s:Nat}{want b:Bool}{oj:Oper}(hq:HY Q)(hI:Inv w)(hc:(QN l m done i&&ClB l.toArray (NN m done))=true)(ho:HR l i=some ⟨some d,op,ty,pos,af,some (j,want)⟩)(hj:HR l j=some oj)(hd:oj.dst=some s)(hb:gt L s=some (.bool b))(hw:b=want)(hr:∀ w,Inv w->Bw P L w op ty v)(hn:Nat.blt d n.n=true)
  (h:Nw Inv P n l Q fuel (NN m (i::done)) ((d,v)::L) w):Nw Inv P n l Q (fuel+1) (NN m done) L w:=fun a fr=>by
 simp only [QN,Bool.and_eq_true] at hc;obtain⟨⟨⟨f,h2⟩,h3⟩,g⟩:=hc;have ho':l.toArray[i]? = some ⟨some d,op,ty,pos,af,some (j,want)⟩:=by rw [Fg] at ho;simpa using ho
 have hj':l.toArray[j]? = some oj:=by rw [Fg] at hj;simpa using hj
 have hy:yielded l.toArray a.tmps j=some b:=by simp only [yielded,hj',Option.bind_some,hd,fr.get s _ hb]
 refine PL (v:=v) ho' (Region.noSelect_spec f) (fun c a w k=>hq c a _ _ w k) _ _ a w (Region.free_spec ho' h2) (by simpa using h3) (ZF g) hI
  (.inl ⟨by simp [Region.wanted,hy,hw],fun w' hw'=>?_⟩) (h _ (fr.put hn))
 have e:execOp a.eval ⟨some d,op,ty,pos,af,some (j,want)⟩=execOp a.eval ⟨some d,op,ty,pos,af,none⟩:=rfl;rw [e];exact hr w' hw' w' (Ext.refl _) _ fr.RC _ _ _ _
theorem Co(i:Nat){j s:Nat}{want b:Bool}{oj:Oper}(hq:HY Q)(hI:Inv w)(hc:(QN l m done i&&ClB l.toArray (NN m done))=true)(ho:HR l i=some ⟨some d,op,ty,pos,af,some (j,want)⟩)(hj:HR l j=some oj)(hd:oj.dst=some s)(hb:gt L s=some (.bool b))(hw:b = !want)(hn:Nat.blt d n.n=true)
  (h:Nw Inv P n l Q fuel (NN m (i::done)) ((d,undef)::L) w):Nw Inv P n l Q (fuel+1) (NN m done) L w:=fun a fr=>by
 simp only [QN,Bool.and_eq_true] at hc;obtain⟨⟨⟨e,h2⟩,h3⟩,f⟩:=hc;have ho':l.toArray[i]? = some ⟨some d,op,ty,pos,af,some (j,want)⟩:=by rw [Fg] at ho;simpa using ho
 have hj':l.toArray[j]? = some oj:=by rw [Fg] at hj;simpa using hj
 have hy:yielded l.toArray a.tmps j=some b:=by simp only [yielded,hj',Option.bind_some,hd,fr.get s _ hb]
 exact PL (v:=undef) ho' (Region.noSelect_spec e) (fun c a w k=>hq c a _ _ w k) _ _ a w (Region.free_spec ho' h2) (by simpa using h3) (ZF f) hI
  (.inr ⟨by simp [Region.wanted,hy,hw],rfl⟩) (h _ (fr.put hn))
theorem WU{w:World}{b:Nat}{cs:List Value}{t:TypeId}(h:w.heap[b]? = some (.cells cs.toArray t (0,0))):Hi (hp w) ⟨b,0,none⟩ cs:=
 ⟨rfl,fun j u hu=>by
  show G9 (hp w) (Addr.add ⟨b,0,none⟩ j)=some u
  simp only [Addr.add_lit,G9,hp,h]
  simpa using hu⟩
theorem Jd[Dr]{b off:Nat}{cs:List Value}{t t':TypeId}{x:Operand}{u:Value}{dd:TypeDesc}(hx:ev L x=some (.pointer (some ⟨b,off,none⟩)))(ht:P.underlying t=some dd)(hd:PJ dd=true)(h:w.heap[b]? = some (.cells cs.toArray t' (0,0)))(hu:nth cs off=some u):Bw P L w (.load t x) ty u:=by
 have a:=(WU h).add off;obtain⟨c,hc⟩:=S2 cs off u hu;rw [hc] at a;simp only [Addr.add_lit,Nat.zero_add] at a;exact Bj hx ht hd a (Le.refl _)
theorem MX[Dr]{b:Nat}{cs:List Value}{t t':TypeId}{x:Operand}{dd:TypeDesc}{zz:Value}{bt:Nat}(hx:ev L x=some (.pointer (some ⟨b,0,none⟩)))(ht:P.underlying t=some dd)(hd:VJ dd=true)(hz:Zr P t zz cs.length bt)(h:w.heap[b]? = some (.cells cs.toArray t' (0,0))):Bw P L w (.load t x) ty (.agg cs.toArray):=
 C9 hx ht hd hz (WU h) (Le.refl _)
theorem AbE[Dr]{κ:Type}[DecidableEq κ]{enc:κ->Value}{l:List κ}{vs:List Value}{k:κ}{b m:Nat}{t kt et:TypeId}{x y:Operand}{z:Value}(hx:ev L x=some (.map (some b)))(hy:ev L y=some (enc k))(ht:P.underlying t=some (.map kt et))(hk:NO P kt enc)(hz:Mz P et z)
  (h:w.heap[b]? = some (.map (mE enc 0 l vs).toArray m)) (hl:l.length=vs.length):Bw P L w (.lookup t x y false) ty (WO z k l vs):=fun w' hx' ρ hρ dst pos af g=>by
 have hb:=hx'.le b _ h;have:=SF (k:=k) hk ht hz hb hl;simp [execOp,hρ x _ hx,hρ y _ hy,this]
end
end Go.E
namespace Go.E
open Go Go.RowKit
section
variable {P:Program} {L:Env} {w w0:World} {O:List BS} {x y:Operand} {ty t t' e src dst u T:TypeId} {b:Nat} {cs:List Value}
end
def BAd(b:Nat)(v:Value):Prop:=v=.pointer none\/v=.pointer (some ⟨b,0,none⟩)
theorem BAd.one{b:Nat}{v:Value}(h:BAd b v):v.oneCell'=true:=by rcases h with rfl | rfl <;> rfl
section
variable {P:Program} {n:Sz} {ops:Array Oper} {Q:Exit->Act->World->Prop} {L:Env} {w w0:World} {O:List BS} {rest:List Oper} {d:Nat} {ty pt it e:TypeId} {pos:String} {af:Array Edge} {x y:Operand} {H:PH}
end
end Go.E
end
noncomputable section
namespace Go.L
inductive Pv where
 | mk (kind number:Int) (bytes:List UInt8) (names:List (List UInt8)) (parts:List Pv)
instance:Inhabited Pv:=⟨.mk 0 0 [] [] []⟩
abbrev PvF:Type:=Int×Int×List UInt8×List (List UInt8)×List Pv
def Pv.f:Pv->PvF
 | .mk k n b ns ps=>(k,n,b,ns,ps)
end Go.L
namespace Go.E
open Go Go.L
variable {α β:Type}
def Rp.via(r:Rp β)(f:α->β):Rp α:=⟨r.sz,fun H x c=>r.rel H (f x) c,fun h=>r.len h,fun hs h=>r.mono hs h,fun h=>r.one h⟩
def Rp.no(α:Type)(n:Nat):Rp α:=⟨n,fun _ _ _=>False,fun h=>h.elim,fun _ h=>h,fun h=>h.elim⟩
theorem AI.ZI{r s:Rp α}{H:PH}{v:Value}{l:List α}(hz:r.sz=s.sz)(h:AI r H v l)(hrel:∀ x∈l,∀ c,r.rel H x c->s.rel H x c):AI s H v l:=by
 obtain⟨a,cap,b,h2,h3,d,e⟩:=h.ex;refine⟨a,cap,b,h2,h3,d,fun A hA hl=>?_⟩;obtain⟨f,g⟩:=e A hA hl;refine⟨f,fun i x hx=>?_⟩;obtain⟨c,hc,hcell⟩:=g i x hx;exact⟨c,hrel x (List.mem_of_getElem? hx) c hc,fun j u hu=>by rw [<- hz];exact hcell j u hu⟩
def Rp.fields(r:Rp Pv):Rp PvF:=.pair (.int .i64) (.pair (.int .i64) (.pair (.vec .byte) (.pair (.vec .st) (.vec r))))
def Rp.LF:Nat->Rp Pv
 | 0=>.no Pv 5
 | d+1=>(Rp.fields (Rp.LF d)).via Pv.f
theorem Rp.Ov:∀ d,(Rp.LF d).sz=5
 | 0=>rfl
 | _+1=>rfl
theorem Rp.Ui{r s:Rp Pv}{H:PH}{x:PvF}{c:List Value}(hz:r.sz=s.sz)(hrel:∀ y∈x.2.2.2.2,∀ c,r.rel H y c->s.rel H y c)(h:(Rp.fields r).rel H x c):(Rp.fields s).rel H x c:=by
 obtain⟨c1,c2,a,b,c3,c4,d,h2,c5,c6,e,h3,c7,c8,f,g,v,i,j⟩:=h;exact⟨c1,c2,a,b,c3,c4,d,h2,c5,c6,e,h3,c7,c8,f,g,v,i,j.ZI hz hrel⟩
theorem Rp.SK{H:PH}:∀ (d:Nat) (x:Pv) (c:List Value),(Rp.LF d).rel H x c->(Rp.LF (d+1)).rel H x c
 | 0,_,_,h=>h.elim
 | d+1,x,c,h=>Rp.Ui (r:=Rp.LF d) (s:=Rp.LF (d+1)) (by rw [Rp.Ov,Rp.Ov]) (fun y _ c h=>Rp.SK d y c h) h
theorem Rp.VV{H:PH}{d e:Nat}(h:d<=e){x:Pv}{c:List Value}(hx:(Rp.LF d).rel H x c):(Rp.LF e).rel H x c:=by
 induction h with
 | refl=>exact hx
 | step _ ih=>exact Rp.SK _ _ _ ih
def Rp.tree:Rp Pv:=⟨5,fun H x c=>∃ d,(Rp.LF d).rel H x c,fun h=>by obtain⟨d,h⟩:=h;rw [(Rp.LF d).len h,Rp.Ov],fun hs h=>by obtain⟨d,h⟩:=h;exact⟨d,(Rp.LF d).mono hs h⟩,fun h=>by obtain⟨d,h⟩:=h;exact(Rp.LF d).one h⟩
theorem Rp.OV{H:PH}{x:Pv}{c:List Value}(h:Rp.tree.rel H x c):(Rp.fields Rp.tree).rel H x.f c:=by
 obtain⟨d,h⟩:=h
 cases d with
 | zero=>exact h.elim
 | succ d=>exact Rp.Ui (r:=Rp.LF d) (s:=Rp.tree) (Rp.Ov d) (fun y _ c h=>⟨d,h⟩) h
theorem AI.bound{H:PH}{v:Value}{l:List Pv}(h:AI Rp.tree H v l):∃ d,AI (Rp.LF d) H v l:=by
 obtain⟨a,cap,b,h2,h3,f,g⟩:=h.ex
 cases a with
 | none=>exact⟨0,none,cap,b,h2,h3,f,fun A hA=>by cases hA⟩
 | some A=>
  have key:∀ n,∃ d,∀ i x,i<n->l≠[]->l[i]? = some x->∃ c,(Rp.LF d).rel H x c/\∀ j u,c[j]? = some u->G9 H (A.add (i * 5+j))=some u:=by
   intro n
   induction n with
   | zero=>exact⟨0,fun i x hi=>absurd hi (Nat.not_lt_zero i)⟩
   | succ n ih=>
    obtain⟨d,hd⟩:=ih
    by_cases hl:l=[]
    ·exact⟨0,fun i x _ hn=>absurd hl hn⟩
    cases hx:l[n]? with
    | none=>
     refine⟨d,fun i x hi hn he=>?_⟩
     rcases Nat.lt_succ_iff_lt_or_eq.1 hi with hi | rfl
     ·exact hd i x hi hn he
     ·rw [hx] at he
      cases he
    | some y=>
     obtain⟨c,⟨e,hc⟩,hcell⟩:=(g A rfl hl).2 n y hx;refine⟨max d e,fun i x hi hn he=>?_⟩
     rcases Nat.lt_succ_iff_lt_or_eq.1 hi with hi | rfl
     ·obtain⟨c',k,m⟩:=hd i x hi hn he;exact⟨c',Rp.VV (Nat.le_max_left ..) k,m⟩
     ·rw [hx] at he
      cases he
      exact⟨c,Rp.VV (Nat.le_max_right ..) hc,hcell⟩
  obtain⟨d,hd⟩:=key l.length;refine⟨d,some A,cap,b,h2,h3,f,fun B hB hl=>?_⟩
  cases hB
  refine⟨(g A rfl hl).1,fun i x hx=>?_⟩;rw [Rp.Ov];exact hd i x (List.getElem?_eq_some_iff.1 hx).1 hl hx
theorem Rp.DK{H:PH}{x:Pv}{c:List Value}(h:(Rp.fields Rp.tree).rel H x.f c):Rp.tree.rel H x c:=by
 obtain⟨c1,c2,a,b,c3,c4,e,h2,c5,c6,g,h3,c7,c8,i,j,v,k,l⟩:=h;obtain⟨d,hd⟩:=l.bound;exact⟨d+1,c1,c2,a,b,c3,c4,e,h2,c5,c6,g,h3,c7,c8,i,j,v,k,hd⟩
end Go.E
namespace Go.E
open Go Go.RowKit
def JD(h:List UInt8×Int×Int×List UInt8):Value:=.agg #[.string ⟨h.1.toArray⟩,.int .i64 h.2.1,.int .i64 h.2.2.1,.string ⟨h.2.2.2.toArray⟩]
theorem ZJ{P:Program}{kt:TypeId}{fs:Array Field}(hd:P.underlying kt=some (.struct fs))(hc:∀ (b:Bool) (s m:List UInt8) (x y:Int) w,(Instr.checkKey b 10000 kt (.agg #[.string ⟨s.toArray⟩,.int .i64 x,.int .i64 y,.string ⟨m.toArray⟩])).run P w=.ok () w)
  (he:∀ (s s' m m':List UInt8) (x x' y y':Int) w,(Op.equalIn 10000 kt (.agg #[.string ⟨s.toArray⟩,.int .i64 x,.int .i64 y,.string ⟨m.toArray⟩]) (.agg #[.string ⟨s'.toArray⟩,.int .i64 x',.int .i64 y',.string ⟨m'.toArray⟩])).run P w=.ok (decide (s=s'/\x=x'/\y=y'/\m=m')) w):NO P kt JD:=
 ⟨fun b k w=>hc b k.1 k.2.2.2 k.2.1 k.2.2.1 w,
  fun k=>by
   obtain⟨d,he⟩:∃ d,10000=d+1:=⟨9999,rfl⟩;rw [he]
   cases d <;> simp [Instr.sameBits,JD,VU],
  ⟨_,hd,.inr ⟨fun a b=>rfl,fun a b w=>by
   obtain⟨a1,a2,a3,a4⟩:=a;obtain⟨c,e,f,g⟩:=b;have:=he a1 c a4 g a2 e a3 f w;unfold Op.equal;rw [show Op.maxDepth=10000 from rfl];simp only [JD];rw [this]
   congr 1
   rw [Bool.eq_iff_iff];simp⟩⟩⟩
section
variable {P:Program} {L:Env} {w:World} {t t' ty:TypeId} {x y:Operand}
theorem UQ{v:Nat}(h:v<2 ^ 64):IntKind.u64.wrap (v:Int)=(v:Int):=by
 simp only [IntKind.wrap];simp [IntKind.bits,IntKind.signed] <;> omega
theorem Adt[Dr]{op:BinOp}{c:Nat}{p q:Int}(hx:ev L x=some (.int .u64 p))(hy:ev L y=some (.int .u64 q))(ho:Zs op p.toNat q.toNat=some c)(h:(0<=p/\p<2 ^ 64)/\(0<=q/\q<2 ^ 64)):Bw P L w (.binOp op t x y t') ty (.int .u64 (c:Int)):=by
 intro w' _ ρ hρ dst pos af g;obtain⟨a,rfl⟩:=Int.eq_ofNat_of_zero_le h.1.1;obtain⟨b,rfl⟩:=Int.eq_ofNat_of_zero_le h.2.1;rw [Int.toNat_natCast,Int.toNat_natCast] at ho;have ha:a<2 ^ 64:=by omega
 have hb:b<2 ^ 64:=by omega
 have ea:(BitVec.ofInt 64 (a:Int)).toNat=a:=by simp;omega
 have eb:(BitVec.ofInt 64 (b:Int)).toNat=b:=by simp;omega
 cases op <;> simp only [Zs,Option.some.injEq,reduceCtorEq] at ho <;> subst ho
 ·have e:(Op.intBits .and .u64 (a:Int) (b:Int)).run P w'=.ok (.int .u64 ((a &&& b:Nat):Int)) w':=by
   show Result.ok (Value.int .u64 (IntKind.u64.wrap ((BitVec.ofInt 64 (a:Int) &&& BitVec.ofInt 64 (b:Int)).toNat:Int))) w'=_
   rw [BitVec.toNat_and,ea,eb,UQ (Nat.and_lt_two_pow _ hb)]
  simp only [execOp,hρ x _ hx,hρ y _ hy,eqGuard,binOp,Sem.run_bind,ne_eq,not_true_eq_false,if_false,Bool.not_false,if_true,Sem.run_pure,Result.andThen_ok,e]
 ·have e:(Op.intBits .or .u64 (a:Int) (b:Int)).run P w'=.ok (.int .u64 ((a ||| b:Nat):Int)) w':=by
   show Result.ok (Value.int .u64 (IntKind.u64.wrap ((BitVec.ofInt 64 (a:Int) ||| BitVec.ofInt 64 (b:Int)).toNat:Int))) w'=_
   rw [BitVec.toNat_or,ea,eb,UQ (Nat.or_lt_two_pow ha hb)]
  simp only [execOp,hρ x _ hx,hρ y _ hy,eqGuard,binOp,Sem.run_bind,ne_eq,not_true_eq_false,if_false,Bool.not_false,if_true,Sem.run_pure,Result.andThen_ok,e]
 ·have e:(Op.intBits .xor .u64 (a:Int) (b:Int)).run P w'=.ok (.int .u64 ((a ^^^ b:Nat):Int)) w':=by
   show Result.ok (Value.int .u64 (IntKind.u64.wrap ((BitVec.ofInt 64 (a:Int) ^^^ BitVec.ofInt 64 (b:Int)).toNat:Int))) w'=_
   rw [BitVec.toNat_xor,ea,eb,UQ (Nat.xor_lt_two_pow ha hb)]
  simp only [execOp,hρ x _ hx,hρ y _ hy,eqGuard,binOp,Sem.run_bind,ne_eq,not_true_eq_false,if_false,Bool.not_false,if_true,Sem.run_pure,Result.andThen_ok,e]
end
end Go.E
end
noncomputable section
namespace Go.E
open Go Go.RowKit
section
variable {P:Program} {L:Env} {w:World} {t ty:TypeId} {x a b:Operand} {l:List UInt8} {k k':IntKind} {i j:Int}
theorem N0(l:List UInt8)(a b:Nat):(⟨l.toArray⟩:ByteArray).extract a b=⟨((l.drop a).take (b - a)).toArray⟩:=by
 apply ByteArray.ext;rw [ByteArray.data_extract];simp [List.extract_eq_take_drop]
theorem ZK[Dr]{lo hi:Option Operand}(hx:ev L x=some (.string ⟨l.toArray⟩))(ht:P.underlying t=some .string)(a b:Nat)(ha:loB L lo a)(hb:hiB L hi b l.length)(d:a<=b)(h2:b<=l.length):
  Bw P L w (.slice t x lo hi none) ty (.string ⟨((l.drop a).take (b - a)).toArray⟩):=by
 intro w' _ ρ hρ dst pos af g;have hs:(ByteArray.mk l.toArray).size=l.length:=by simp [ByteArray.size]
 have i:(a:Int)<=(b:Int):=by omega
 have j:(b:Int)<=(l.length:Int):=by omega
 have k:(a:Int)<=(l.length:Int):=by omega
 cases lo with
 | none=>
  simp only [loB] at ha;subst ha
  cases hi with
  | none=>
   simp only [hiB] at hb;subst hb;simp [execOp,hρ x _ hx,Instr.sliceAt,run_underlying ht,Instr.slice,Instr.sliceBounds,hs,N0]
  | some c=>
   obtain⟨f,hb⟩:=hb;simp [execOp,hρ x _ hx,hρ c _ hb,Instr.sliceAt,run_underlying ht,Instr.slice,Instr.sliceBounds,Instr.sliceBound,asIntOf,hs,h2,N0]
 | some e=>
  obtain⟨m,ha⟩:=ha
  cases hi with
  | none=>
   simp only [hiB] at hb;subst hb;simp [execOp,hρ x _ hx,hρ e _ ha,Instr.sliceAt,run_underlying ht,Instr.slice,Instr.sliceBounds,Instr.sliceBound,asIntOf,hs,d,N0]
  | some c=>
   obtain⟨f,hb⟩:=hb;simp [execOp,hρ x _ hx,hρ e _ ha,hρ c _ hb,Instr.sliceAt,run_underlying ht,Instr.slice,Instr.sliceBounds,Instr.sliceBound,asIntOf,hs,d,h2,N0]
theorem LG[Dr](hx:ev L x=some (.string ⟨l.toArray⟩))(ha:ev L a=some (.int k i))(hb:ev L b=some (.int k' j))(ht:P.underlying t=some .string)(hc:0<=i/\i<=j/\j<=(l.length:Int)):
  Bw P L w (.slice t x (some a) (some b) none) ty (.string ⟨((l.drop i.toNat).take (j.toNat - i.toNat)).toArray⟩):=
 ZK hx ht i.toNat j.toNat ⟨k,by rw [Int.toNat_of_nonneg (by omega)];exact ha⟩ ⟨k',by rw [Int.toNat_of_nonneg (by omega)];exact hb⟩ (by omega) (by omega)
theorem QU[Dr](hx:ev L x=some (.string ⟨l.toArray⟩))(ha:ev L a=some (.int k i))(ht:P.underlying t=some .string)(hc:0<=i/\i<=(l.length:Int)):
  Bw P L w (.slice t x (some a) none none) ty (.string ⟨(l.drop i.toNat).toArray⟩):=by
 have:=ZK (P:=P) (w:=w) (ty:=ty) hx ht i.toNat l.length (lo:=some a) (hi:=none) ⟨k,by rw [Int.toNat_of_nonneg (by omega)];exact ha⟩ rfl (by omega) (by omega)
 rwa [List.take_of_length_le (by simp)] at this
theorem WV[Dr](hx:ev L x=some (.string ⟨l.toArray⟩))(hb:ev L b=some (.int k' j))(ht:P.underlying t=some .string)(hc:0<=j/\j<=(l.length:Int)):
  Bw P L w (.slice t x none (some b) none) ty (.string ⟨(l.take j.toNat).toArray⟩):=by
 have:=ZK (P:=P) (w:=w) (ty:=ty) hx ht 0 j.toNat (lo:=none) (hi:=some b) rfl ⟨k',by rw [Int.toNat_of_nonneg (by omega)];exact hb⟩ (by omega) (by omega)
 simpa using this
end
section
variable {P:Program} {n:Sz} {Q:Exit->Act->World->Prop} {L:Env} {w w0:World} {O:List BS} {lop:List Oper} {ix:Nat} {tr:Tr}
 {d:Nat} {ty:TypeId} {pos:String} {af:Array Edge} {α:Type} {r:Rp α} {x a b:Operand} {v:Value} {t t' e:TypeId} {H:PH} {l:List α} {k k':IntKind} {i j:Int} {zz:Value} {bt:Nat} {jg sg:Nat} {want bb:Bool} {oj:Oper}
theorem SL[Dr]{l:List UInt8}{u:TypeDesc}(ho:HR lop ix=some ⟨some d,.convert t' t x,ty,pos,af,none⟩)(hx:ev L x=some (.string ⟨l.toArray⟩))(ht:P.underlying t'=some u)(ht':P.underlying t=some (.slice e))(he:P.underlying e=some (.int .u8))(hn:Nat.blt d n.n=true)(hL:Bd w0 O w)(hl:l.length<=9223372036854775807)
  (h:∀ v w',Ext w w'->Bd w0 O w'->Le (fz w O) (fz w' O)->AI .byte (gz H w0 w' O) v l->D P n lop Q tr ((d,v)::L) w'):D P n lop Q (.h ix tr) L w:=by
 have hs:(ByteArray.mk l.toArray).size=l.length:=by simp [ByteArray.size]
 refine X4 (R:=fun a u w'=>u=.slice (some ⟨a.heap.size,0,none⟩) l.length (grownCap a l.length 0 e)/\w'=Lib.bytesWorld a e ⟨l.toArray⟩) ho hn (fun a b ρ hρ=>?_) (fun a u w' b j hR=>?_)
 ·have:=Lib.run_convert_string_bytes (P:=P) a t' t e ⟨l.toArray⟩ ht ht' he;rw [hs] at this;exact⟨_,_,by simp [execOp,hρ x _ hx,this],(QO a e hl).1,rfl,rfl⟩
 ·obtain⟨rfl,rfl⟩:=hR;obtain⟨g,h2⟩:=QO a e hl;have c:=hL.call b;exact h _ _ (b.trans g) (c.call g) ((AT hL b).trans (AT c g)) (h2.mono (S7 c))
end
section
variable {P:Program} {n:Sz} {ops:Array Oper} {Q:Exit->Act->World->Prop} {L:Env} {w w0:World} {O:List BS} {l:List Oper} {i:Nat} {t:Tr} {rest:List Oper}
 {d:Nat} {ty:TypeId} {pos:String} {af:Array Edge} {f:FuncId} {args:List Operand} {vs:List Value} {at_:Array TypeId} {fo:Operand}
theorem SM[Dr]{R:Value->World->Prop}(hf:ev L fo=some (.func (.func f) #[] #[]))(ha:Qb L args=some vs)(hn:Nat.blt d n.n=true)(hL:Bd w0 O w)(hok:Ok P f vs w (fun v w'=>Ext w w'/\R v w'))
  (h:∀ v w',R v w'->Ext w w'->Bd w0 O w'->Le (fz w O) (fz w' O)->S P n ops Q rest ((d,v)::L) w'):S P n ops Q (⟨some d,.call ⟨.value fo,args.toArray,at_⟩,ty,pos,af,none⟩::rest) L w:=
 Ep (cap:=[]) (R:=fun v w'=>Ext w w'/\R v w') hf ha hn (by rw [List.append_nil];exact hok) fun v w' hh=>h v w' hh.2 hh.1 (hL.call hh.1) (AT hL hh.1)
end
end Go.E
namespace Go.E
open Go
theorem SN(place:Nat->Option (Nat×Nat)):∀ (l m:List (Nat×Value)) (cells:Array Value),l.map (fun p=>(p.1,p.2.cells))=m.map (fun p=>(p.1,p.2.cells))->Instr.fill place cells l=Instr.fill place cells m
 | [],[],_,_=>rfl
 | [],_::_,_,h=>by cases h
 | _::_,[],_,h=>by cases h
 | (i,v)::l,(j,u)::m,cells,h=>by
  simp only [List.map_cons,List.cons.injEq,Prod.mk.injEq] at h;obtain⟨⟨rfl,a⟩,h2⟩:=h;unfold Instr.fill;rw [a]
  split
  ·rfl
  ·split
   ·rfl
   ·exact SN place l m _ h2
theorem SO{P:Program}{t:TypeId}{n:Nat}{ps qs:Array (Nat×Value)}{w:World}(h:ps.toList.map (fun p=>(p.1,p.2.cells))=qs.toList.map (fun p=>(p.1,p.2.cells))):(Instr.buildSlice t n ps).run P w=(Instr.buildSlice t n qs).run P w:=by
 unfold Instr.buildSlice;simp only [SN _ _ _ _ h]
theorem I6{v:Value}(h:v.oneCell'=true):v.cells=(Value.agg #[v]).cells:=by
 cases v <;> first | rfl | cases h
end Go.E
namespace Go.E
open Go
theorem Ael {P : Program} {t : TypeId} {f0 f1 f2 f3 : Field} {d f : IntKind} (ht : P.underlying t = some (.struct (P.fieldsOf t))) (hp : P.stoodInHeld t = false) (hf : (P.fieldsOf t).toList = [f0, f1, f2, f3]) (i : f0.name ≠ "_" /\ f0.offset = 0) (j : f1.name ≠ "_" /\ f1.offset = 1) (h2 : f2.name ≠ "_" /\ f2.offset = 2) (h3 : f3.name ≠ "_" /\ f3.offset = 3)
  (k:P.underlying f0.type=some .string) (l:P.underlying f1.type=some (.int d)) (o:P.underlying f2.type=some (.int f)) (p:P.underlying f3.type=some .string) (s m:List UInt8) (a b:Int) (g h:List UInt8) (c e:Int) (w:World) :
  (Op.equalIn 10000 t (.agg #[.string ⟨s.toArray⟩,.int d a,.int f b,.string ⟨m.toArray⟩]) (.agg #[.string ⟨g.toArray⟩,.int d c,.int f e,.string ⟨h.toArray⟩])).run P w=.ok (decide (s=g/\a=c/\b=e/\m=h)) w:=by
 rw [run_equalIn_struct w 9999 t _ _ ht hp,hf]
 have hs:∀ (dd:Nat) (s m:List UInt8),(Op.equalIn (dd+1) f0.type (.string ⟨s.toArray⟩) (.string ⟨m.toArray⟩)).run P w=.ok (decide (s=m)) w:=fun dd s m=>by
  simp [Op.equalIn,run_underlying k,VU]
 have q:∀ (dd:Nat) (s m:List UInt8),(Op.equalIn (dd+1) f3.type (.string ⟨s.toArray⟩) (.string ⟨m.toArray⟩)).run P w=.ok (decide (s=m)) w:=fun dd s m=>by
  simp [Op.equalIn,run_underlying p,VU]
 have key:∀ dd:Nat,(Op.eqFields (dd+1) #[.string ⟨s.toArray⟩,.int d a,.int f b,.string ⟨m.toArray⟩] #[.string ⟨g.toArray⟩,.int d c,.int f e,.string ⟨h.toArray⟩] [f0,f1,f2,f3]).run P w=.ok (decide (s=g/\a=c/\b=e/\m=h)) w:=by
  intro dd
  by_cases z:s=g <;> by_cases e1:a=c <;> by_cases e2:b=e <;> by_cases e3:m=h <;>
   simp [Op.eqFields,i.1,j.1,h2.1,h3.1,i.2,j.2,h2.2,h3.2,part,isAgg,run_underlying k,run_underlying l,run_underlying o,run_underlying p,hs,q,run_equalIn_int w dd _ _ _ _ _ l,run_equalIn_int w dd _ _ _ _ _ o,z,e1,e2,e3]
 exact key 9998
end Go.E
namespace Go.E
open Go Go.RowKit
section
variable {P:Program} {n:Sz} {ops:Array Oper} {Q:Exit->Act->World->Prop} {L:Env} {w w0:World} {O:List BS} {rest:List Oper}
 {ty:TypeId} {pos:String} {af:Array Edge} {α:Type} {r:Rp α} {x y:Operand} {u v:Value} {t e:TypeId} {H:PH}
end
end Go.E
end
noncomputable section
namespace Go.Proofs.YtekmbcbgknmhiaaGreatDoor
open Go Go.E Go.RowKit
theorem mixed:Tryz.prog.follows .mixedOrders=true:=by kernel_rfl
theorem Cj:Zr Tryz.prog 3 (.int .i64 0) 1 8:=by unfold Zr;kernel_rfl
theorem zr4:Zr Tryz.prog 4 (.bool false) 1 1:=by unfold Zr;kernel_rfl
theorem LH:Zr Tryz.prog 5 (.int .u8 0) 1 1:=by unfold Zr;kernel_rfl
theorem EZ:Zr Tryz.prog 9 (.string .empty) 1 16:=by unfold Zr;kernel_rfl
theorem IW:Zr Tryz.prog 22 (.slice none 0 0) 1 24:=by unfold Zr;kernel_rfl
theorem F7:Zr Tryz.prog 23 (.slice none 0 0) 1 24:=by unfold Zr;kernel_rfl
theorem G5:Zr Tryz.prog 24 (.slice none 0 0) 1 24:=by unfold Zr;kernel_rfl
theorem AO:Zr Tryz.prog 26 (.agg #[.int .i64 0,.slice none 0 0,.string .empty,.slice none 0 0,.int .i64 0,.int .i64 0,.slice none 0 0]) 7 112:=by unfold Zr;kernel_rfl
theorem AW:Zr Tryz.prog 28 (.agg #[.int .i64 0,.int .i64 0]) 2 16:=by unfold Zr;kernel_rfl
theorem WW:Zr Tryz.prog 44 (.slice none 0 0) 1 24:=by unfold Zr;kernel_rfl
theorem PM:Zr Tryz.prog 46 (.agg #[.int .i64 0,.slice none 0 0]) 2 32:=by unfold Zr;kernel_rfl
theorem AbG:Zr Tryz.prog 47 (.slice none 0 0) 1 24:=by unfold Zr;kernel_rfl
theorem RE:Zr Tryz.prog 49 (.agg #[.int .i64 0,.slice none 0 0]) 2 32:=by unfold Zr;kernel_rfl
theorem JJ:Zr Tryz.prog 50 (.slice none 0 0) 1 24:=by unfold Zr;kernel_rfl
theorem NW:Zr Tryz.prog 52 (.agg #[.int .i64 0,.slice none 0 0,.int .i64 0,.slice none 0 0,.slice none 0 0]) 5 88:=by unfold Zr;kernel_rfl
theorem TE:Zr Tryz.prog 58 (.slice none 0 0) 1 24:=by unfold Zr;kernel_rfl
theorem Yz:Zr Tryz.prog 62 (.slice none 0 0) 1 24:=by unfold Zr;kernel_rfl
theorem Hh:Zr Tryz.prog 64 (.agg #[.int .i64 0,.int .i64 0,.slice none 0 0,.slice none 0 0,.slice none 0 0]) 5 88:=by unfold Zr;kernel_rfl
theorem AbH:Zr Tryz.prog 66 (.agg #[.slice none 0 0,.int .i64 0,.int .i64 0,.slice none 0 0,.slice none 0 0,.slice none 0 0]) 6 112:=by unfold Zr;kernel_rfl
theorem AbI:Zr Tryz.prog 82 (.agg #[]) 0 0:=by unfold Zr;kernel_rfl
theorem Adu:Zr Tryz.prog 96 (.agg #[.slice none 0 0]) 1 24:=by unfold Zr;kernel_rfl
theorem Gm:Zr Tryz.prog 98 (.agg #[.slice none 0 0,.slice none 0 0,.slice none 0 0]) 3 72:=by unfold Zr;kernel_rfl
theorem ZL:Zr Tryz.prog 109 (.slice none 0 0) 1 24:=by unfold Zr;kernel_rfl
theorem Aem:Zr Tryz.prog 131 (.slice none 0 0) 1 24:=by unfold Zr;kernel_rfl
theorem LI:Zr Tryz.prog 135 (.agg #[.string .empty,.int .i64 0,.int .i64 0]) 3 32:=by unfold Zr;kernel_rfl
theorem Lj:Zr Tryz.prog 137 (.agg #[.int .i64 0,.int .i64 0]) 2 16:=by unfold Zr;kernel_rfl
theorem AcJ:Zr Tryz.prog 139 (.map none) 1 8:=by unfold Zr;kernel_rfl
theorem LJ:Zr Tryz.prog 142 (.agg #[.string .empty,.int .i64 0,.int .i64 0,.string .empty]) 4 48:=by unfold Zr;kernel_rfl
theorem XM:Zr Tryz.prog 173 (.agg #[.int .i64 0,.int .i64 0,.int .i64 0,.int .i64 0,.int .i64 0,.int .i64 0,.int .i64 0,.int .i64 0,.int .i64 0,.int .i64 0,.int .i64 0]) 11 88:=by unfold Zr;kernel_rfl
theorem P5:Zr Tryz.prog 192 (.agg #[.string .empty,.slice none 0 0]) 2 40:=by unfold Zr;kernel_rfl
theorem Uj:Zr Tryz.prog 203 (.agg #[.string .empty,.int .i64 0,.int .i64 0,.string .empty,.slice none 0 0]) 5 72:=by unfold Zr;kernel_rfl
theorem Ln(w:World):(Instr.build 26 #[]).run Tryz.prog w=.ok (.agg #[.int .i64 0,.slice none 0 0,.string .empty,.slice none 0 0,.int .i64 0,.int .i64 0,.slice none 0 0]) w:=by kernel_rfl
theorem UR(a:Int)(w:World):(Instr.build 26 #[(0,.int .i64 a)]).run Tryz.prog w=.ok (.agg #[.int .i64 a,.slice none 0 0,.string .empty,.slice none 0 0,.int .i64 0,.int .i64 0,.slice none 0 0]) w:=by kernel_rfl
theorem OW(b:Int)(a:Value)(c:a.oneCell'=true)(w:World):(Instr.build 26 #[(0,.int .i64 b),(1,a)]).run Tryz.prog w=.ok (.agg #[.int .i64 b,a,.string .empty,.slice none 0 0,.int .i64 0,.int .i64 0,.slice none 0 0]) w:=by cases a <;> first | (simp [Value.oneCell'] at c;done) | kernel_rfl
theorem R0(b:Int)(a:Value)(d:a.oneCell'=true)(c:Int)(w:World):(Instr.build 26 #[(0,.int .i64 b),(1,a),(4,.int .i64 c)]).run Tryz.prog w=.ok (.agg #[.int .i64 b,a,.string .empty,.slice none 0 0,.int .i64 c,.int .i64 0,.slice none 0 0]) w:=by cases a <;> first | (simp [Value.oneCell'] at d;done) | kernel_rfl
theorem VW(c:Int)(a:Value)(d:a.oneCell'=true)(b:Value)(e:b.oneCell'=true)(w:World):(Instr.build 26 #[(0,.int .i64 c),(1,a),(6,b)]).run Tryz.prog w=.ok (.agg #[.int .i64 c,a,.string .empty,.slice none 0 0,.int .i64 0,.int .i64 0,b]) w:=by cases a <;> first | (simp [Value.oneCell'] at d;done) | cases b <;> first | (simp [Value.oneCell'] at e;done) | kernel_rfl
theorem Uk(b:Int)(a:Value)(h2:a.oneCell'=true)(w:World):(Instr.build 26 #[(0,.int .i64 b),(2,a)]).run Tryz.prog w=.ok (.agg #[.int .i64 b,.slice none 0 0,a,.slice none 0 0,.int .i64 0,.int .i64 0,.slice none 0 0]) w:=by cases a <;> first | (simp [Value.oneCell'] at h2;done) | kernel_rfl
theorem VX(c:Int)(a:Value)(h2:a.oneCell'=true)(b:Value)(h3:b.oneCell'=true)(w:World):(Instr.build 26 #[(0,.int .i64 c),(2,a),(3,b)]).run Tryz.prog w=.ok (.agg #[.int .i64 c,.slice none 0 0,a,b,.int .i64 0,.int .i64 0,.slice none 0 0]) w:=by cases a <;> first | (simp [Value.oneCell'] at h2;done) | cases b <;> first | (simp [Value.oneCell'] at h3;done) | kernel_rfl
theorem TF(b:Int)(a:Value)(h2:a.oneCell'=true)(c:Int)(d:Int)(w:World):(Instr.build 26 #[(0,.int .i64 b),(2,a),(4,.int .i64 c),(5,.int .i64 d)]).run Tryz.prog w=.ok (.agg #[.int .i64 b,.slice none 0 0,a,.slice none 0 0,.int .i64 c,.int .i64 d,.slice none 0 0]) w:=by cases a <;> first | (simp [Value.oneCell'] at h2;done) | kernel_rfl
theorem Ul(b:Int)(a:Value)(h3:a.oneCell'=true)(w:World):(Instr.build 26 #[(0,.int .i64 b),(3,a)]).run Tryz.prog w=.ok (.agg #[.int .i64 b,.slice none 0 0,.string .empty,a,.int .i64 0,.int .i64 0,.slice none 0 0]) w:=by cases a <;> first | (simp [Value.oneCell'] at h3;done) | kernel_rfl
theorem Y0(a:Int)(b:Int)(w:World):(Instr.build 26 #[(0,.int .i64 a),(4,.int .i64 b)]).run Tryz.prog w=.ok (.agg #[.int .i64 a,.slice none 0 0,.string .empty,.slice none 0 0,.int .i64 b,.int .i64 0,.slice none 0 0]) w:=by kernel_rfl
theorem L5(b:Int)(a:Value)(c:a.oneCell'=true)(w:World):(Instr.build 26 #[(0,.int .i64 b),(6,a)]).run Tryz.prog w=.ok (.agg #[.int .i64 b,.slice none 0 0,.string .empty,.slice none 0 0,.int .i64 0,.int .i64 0,a]) w:=by cases a <;> first | (simp [Value.oneCell'] at c;done) | kernel_rfl
theorem Cf(w:World):(Instr.build 28 #[]).run Tryz.prog w=.ok (.agg #[.int .i64 0,.int .i64 0]) w:=by kernel_rfl
theorem OX(a:Int)(b:Int)(w:World):(Instr.build 28 #[(0,.int .i64 a),(1,.int .i64 b)]).run Tryz.prog w=.ok (.agg #[.int .i64 a,.int .i64 b]) w:=by kernel_rfl
theorem AbJ(a:Int)(w:World):(Instr.build 46 #[(0,.int .i64 a)]).run Tryz.prog w=.ok (.agg #[.int .i64 a,.slice none 0 0]) w:=by kernel_rfl
theorem AbK(a:Int)(w:World):(Instr.build 49 #[(0,.int .i64 a)]).run Tryz.prog w=.ok (.agg #[.int .i64 a,.slice none 0 0]) w:=by kernel_rfl
theorem Y1(a:Int)(b:Int)(w:World):(Instr.build 64 #[(0,.int .i64 a),(1,.int .i64 b)]).run Tryz.prog w=.ok (.agg #[.int .i64 a,.int .i64 b,.slice none 0 0,.slice none 0 0,.slice none 0 0]) w:=by kernel_rfl
theorem Um(f:Value)(g:f.oneCell'=true)(a b c d e:Value)(w:World):(Instr.build 66 #[(0,f),(1,.agg #[a,b,c,d,e])]).run Tryz.prog w=.ok (.agg #[f,a,b,c,d,e]) w:=by cases f <;> first | (simp [Value.oneCell'] at g;done) | kernel_rfl
theorem OY(w:World):(Instr.build 82 #[]).run Tryz.prog w=.ok (.agg #[]) w:=by kernel_rfl
theorem AbL(a:Value)(b:a.oneCell'=true)(w:World):(Instr.build 86 #[(0,a)]).run Tryz.prog w=.ok (.agg #[a,.int .i64 0]) w:=by cases a <;> first | (simp [Value.oneCell'] at b;done) | kernel_rfl
theorem AbM(a:Value)(b:a.oneCell'=true)(w:World):(Instr.build 96 #[(0,a)]).run Tryz.prog w=.ok (.agg #[a]) w:=by cases a <;> first | (simp [Value.oneCell'] at b;done) | kernel_rfl
theorem JE(a:Value)(b:Value)(d:b.oneCell'=true)(c:Value)(h2:c.oneCell'=true)(w:World):(Instr.build 98 #[(0,.agg #[a]),(1,b),(2,c)]).run Tryz.prog w=.ok (.agg #[a,b,c]) w:=by cases b <;> first | (simp [Value.oneCell'] at d;done) | cases c <;> first | (simp [Value.oneCell'] at h2;done) | kernel_rfl
theorem US(a:Value)(d:a.oneCell'=true)(b:Int)(c:Int)(w:World):(Instr.build 135 #[(0,a),(1,.int .i64 b),(2,.int .i64 c)]).run Tryz.prog w=.ok (.agg #[a,.int .i64 b,.int .i64 c]) w:=by cases a <;> first | (simp [Value.oneCell'] at d;done) | kernel_rfl
theorem ZM(a:Int)(w:World):(Instr.build 135 #[(1,.int .i64 a)]).run Tryz.prog w=.ok (.agg #[.string .empty,.int .i64 a,.int .i64 0]) w:=by kernel_rfl
theorem WX(a:Int)(b:Int)(w:World):(Instr.build 137 #[(0,.int .i64 a),(1,.int .i64 b)]).run Tryz.prog w=.ok (.agg #[.int .i64 a,.int .i64 b]) w:=by kernel_rfl
theorem ZN(a:Int)(w:World):(Instr.build 137 #[(1,.int .i64 a)]).run Tryz.prog w=.ok (.agg #[.int .i64 0,.int .i64 a]) w:=by kernel_rfl
theorem SP(a:Value)(e:a.oneCell'=true)(c:Int)(d:Int)(b:Value)(h3:b.oneCell'=true)(w:World):(Instr.build 142 #[(0,a),(1,.int .i64 c),(2,.int .i64 d),(3,b)]).run Tryz.prog w=.ok (.agg #[a,.int .i64 c,.int .i64 d,b]) w:=by cases a <;> first | (simp [Value.oneCell'] at e;done) | cases b <;> first | (simp [Value.oneCell'] at h3;done) | kernel_rfl
theorem Hk(b c d e f g h i j k a:Int)(w:World):(Instr.build 173 #[(0,.int .i64 b),(1,.int .i64 c),(2,.int .i64 d),(3,.int .i64 e),(4,.int .i64 f),(5,.int .i64 g),(6,.int .i64 h),(7,.int .i64 i),(8,.int .i64 j),(9,.int .i64 k),(10,.int .i64 a)]).run Tryz.prog w=.ok (.agg #[.int .i64 b,.int .i64 c,.int .i64 d,.int .i64 e,.int .i64 f,.int .i64 g,.int .i64 h,.int .i64 i,.int .i64 j,.int .i64 k,.int .i64 a]) w:=by kernel_rfl
theorem WY(a:Value)(c:a.oneCell'=true)(b:Value)(d:b.oneCell'=true)(w:World):(Instr.build 192 #[(0,a),(1,b)]).run Tryz.prog w=.ok (.agg #[a,b]) w:=by cases a <;> first | (simp [Value.oneCell'] at c;done) | cases b <;> first | (simp [Value.oneCell'] at d;done) | kernel_rfl
theorem WZ(a b c d:Value)(e:Value)(f:e.oneCell'=true)(w:World):(Instr.build 203 #[(0,.agg #[a,b,c,d]),(1,e)]).run Tryz.prog w=.ok (.agg #[a,b,c,d,e]) w:=by cases e <;> first | (simp [Value.oneCell'] at f;done) | kernel_rfl
theorem AbN(w:World):(Instr.buildSlice 22 0 #[]).run Tryz.prog w=.ok (.slice (some ⟨w.heap.size,0,none⟩) 0 0) (w.alloc (.cells #[] 9)):=by kernel_rfl
theorem N1(a:Value)(b:a.oneCell'=true)(w:World):(Instr.buildSlice 22 1 #[(0,a)]).run Tryz.prog w=.ok (.slice (some ⟨w.heap.size,0,none⟩) 1 1) (w.alloc (.cells #[a] 9)):=by cases a <;> first | (simp [Value.oneCell'] at b;done) | kernel_rfl
theorem UT(a:Value)(c:a.oneCell'=true)(b:Value)(d:b.oneCell'=true)(w:World):(Instr.buildSlice 22 2 #[(0,a),(1,b)]).run Tryz.prog w=.ok (.slice (some ⟨w.heap.size,0,none⟩) 2 2) (w.alloc (.cells #[a,b] 9)):=
 (SO (qs:=#[(0,.agg #[a]),(1,.agg #[b])]) (by show([(0,a.cells),(1,b.cells)]:List (Nat×Array Value))=[(0,(Value.agg #[a]).cells),(1,(Value.agg #[b]).cells)];rw [I6 c,I6 d])).trans (by kernel_rfl)
theorem AbO(w:World):(Instr.buildSlice 23 0 #[]).run Tryz.prog w=.ok (.slice (some ⟨w.heap.size,0,none⟩) 0 0) (w.alloc (.cells #[] 5)):=by kernel_rfl
theorem EC(a:Int)(w:World):(Instr.buildSlice 23 1 #[(0,.int .u8 a)]).run Tryz.prog w=.ok (.slice (some ⟨w.heap.size,0,none⟩) 1 1) (w.alloc (.cells #[.int .u8 a] 5)):=by kernel_rfl
theorem XN(a:Int)(b:Int)(w:World):(Instr.buildSlice 23 2 #[(0,.int .u8 a),(1,.int .u8 b)]).run Tryz.prog w=.ok (.slice (some ⟨w.heap.size,0,none⟩) 2 2) (w.alloc (.cells #[.int .u8 a,.int .u8 b] 5)):=by kernel_rfl
theorem UU(a:Int)(b:Int)(c:Int)(w:World):(Instr.buildSlice 23 3 #[(0,.int .u8 a),(1,.int .u8 b),(2,.int .u8 c)]).run Tryz.prog w=.ok (.slice (some ⟨w.heap.size,0,none⟩) 3 3) (w.alloc (.cells #[.int .u8 a,.int .u8 b,.int .u8 c] 5)):=by kernel_rfl
theorem K5(a b c d e f g:Value)(w:World):(Instr.buildSlice 24 1 #[(0,.agg #[a,b,c,d,e,f,g])]).run Tryz.prog w=.ok (.slice (some ⟨w.heap.size,0,none⟩) 1 1) (w.alloc (.cells #[a,b,c,d,e,f,g] 26)):=by kernel_rfl
theorem AbP(a b c d e f:Value)(g h i j k l:Value)(w:World):(Instr.buildSlice 42 2 #[(0,.agg #[a,b,c,d,e,f]),(1,.agg #[g,h,i,j,k,l])]).run Tryz.prog w=.ok (.slice (some ⟨w.heap.size,0,none⟩) 2 2) (w.alloc (.cells #[a,b,c,d,e,f,g,h,i,j,k,l] 66)):=by kernel_rfl
theorem Sj(a:Bool)(b:Bool)(w:World):(Instr.buildSlice 43 2 #[(0,.bool a),(1,.bool b)]).run Tryz.prog w=.ok (.slice (some ⟨w.heap.size,0,none⟩) 2 2) (w.alloc (.cells #[.bool a,.bool b] 4)):=by kernel_rfl
theorem AbQ(a b:Value)(w:World):(Instr.buildSlice 44 1 #[(0,.agg #[a,b])]).run Tryz.prog w=.ok (.slice (some ⟨w.heap.size,0,none⟩) 1 1) (w.alloc (.cells #[a,b] 192)):=by kernel_rfl
theorem AbR(a b c d e:Value)(w:World):(Instr.buildSlice 47 1 #[(0,.agg #[a,b,c,d,e])]).run Tryz.prog w=.ok (.slice (some ⟨w.heap.size,0,none⟩) 1 1) (w.alloc (.cells #[a,b,c,d,e] 203)):=by kernel_rfl
theorem Qi(a b c:Value)(w:World):(Instr.buildSlice 50 1 #[(0,.agg #[a,b,c])]).run Tryz.prog w=.ok (.slice (some ⟨w.heap.size,0,none⟩) 1 1) (w.alloc (.cells #[a,b,c] 98)):=by kernel_rfl
theorem AbS(w:World):(Instr.buildSlice 58 0 #[]).run Tryz.prog w=.ok (.slice (some ⟨w.heap.size,0,none⟩) 0 0) (w.alloc (.cells #[] 3)):=by kernel_rfl
theorem I7(a:Int)(w:World):(Instr.buildSlice 58 1 #[(0,.int .i64 a)]).run Tryz.prog w=.ok (.slice (some ⟨w.heap.size,0,none⟩) 1 1) (w.alloc (.cells #[.int .i64 a] 3)):=by kernel_rfl
theorem XO(a:Int)(b:Int)(w:World):(Instr.buildSlice 58 2 #[(0,.int .i64 a),(1,.int .i64 b)]).run Tryz.prog w=.ok (.slice (some ⟨w.heap.size,0,none⟩) 2 2) (w.alloc (.cells #[.int .i64 a,.int .i64 b] 3)):=by kernel_rfl
theorem XP(a:Int)(b:Int)(c:Int)(d:Int)(w:World):(Instr.buildSlice 58 4 #[(0,.int .i64 a),(1,.int .i64 b),(2,.int .i64 c),(3,.int .i64 d)]).run Tryz.prog w=.ok (.slice (some ⟨w.heap.size,0,none⟩) 4 4) (w.alloc (.cells #[.int .i64 a,.int .i64 b,.int .i64 c,.int .i64 d] 3)):=by kernel_rfl
theorem Jm(a b c d e:Value)(w:World):(Instr.buildSlice 62 1 #[(0,.agg #[a,b,c,d,e])]).run Tryz.prog w=.ok (.slice (some ⟨w.heap.size,0,none⟩) 1 1) (w.alloc (.cells #[a,b,c,d,e] 64)):=by kernel_rfl
theorem Lo(a:Value)(b:a.oneCell'=true)(w:World):(Instr.buildSlice 94 1 #[(0,a)]).run Tryz.prog w=.ok (.slice (some ⟨w.heap.size,0,none⟩) 1 1) (w.alloc (.cells #[a] 23)):=by cases a <;> first | (simp [Value.oneCell'] at b;done) | kernel_rfl
theorem Qj(a:Value)(f:a.oneCell'=true)(b:Value)(g:b.oneCell'=true)(c:Value)(h2:c.oneCell'=true)(d:Value)(h3:d.oneCell'=true)(e:Value)(h:e.oneCell'=true)(w:World):(Instr.buildSlice 94 5 #[(0,a),(1,b),(2,c),(3,d),(4,e)]).run Tryz.prog w=.ok (.slice (some ⟨w.heap.size,0,none⟩) 5 5) (w.alloc (.cells #[a,b,c,d,e] 23)):=
 (SO (qs:=#[(0,.agg #[a]),(1,.agg #[b]),(2,.agg #[c]),(3,.agg #[d]),(4,.agg #[e])]) (by show([(0,a.cells),(1,b.cells),(2,c.cells),(3,d.cells),(4,e.cells)]:List (Nat×Array Value))=[(0,(Value.agg #[a]).cells),(1,(Value.agg #[b]).cells),(2,(Value.agg #[c]).cells),(3,(Value.agg #[d]).cells),(4,(Value.agg #[e]).cells)];rw [I6 f,I6 g,I6 h2,I6 h3,I6 h])).trans (by kernel_rfl)
theorem ZO(w:World):(Instr.buildSlice 109 0 #[]).run Tryz.prog w=.ok (.slice (some ⟨w.heap.size,0,none⟩) 0 0) (w.alloc (.cells #[] 137)):=by kernel_rfl
theorem ZP(a b:Value)(w:World):(Instr.buildSlice 109 1 #[(0,.agg #[a,b])]).run Tryz.prog w=.ok (.slice (some ⟨w.heap.size,0,none⟩) 1 1) (w.alloc (.cells #[a,b] 137)):=by kernel_rfl
theorem VY(a b c:Value)(w:World):(Instr.buildSlice 131 1 #[(0,.agg #[a,b,c])]).run Tryz.prog w=.ok (.slice (some ⟨w.heap.size,0,none⟩) 1 1) (w.alloc (.cells #[a,b,c] 135)):=by kernel_rfl
theorem ZQ(a:Value)(c:a.oneCell'=true)(b:Value)(d:b.oneCell'=true)(w:World):(Instr.buildSlice 180 2 #[(0,a),(1,b)]).run Tryz.prog w=.ok (.slice (some ⟨w.heap.size,0,none⟩) 2 2) (w.alloc (.cells #[a,b] 58)):=
 (SO (qs:=#[(0,.agg #[a]),(1,.agg #[b])]) (by show([(0,a.cells),(1,b.cells)]:List (Nat×Array Value))=[(0,(Value.agg #[a]).cells),(1,(Value.agg #[b]).cells)];rw [I6 c,I6 d])).trans (by kernel_rfl)
theorem ZR(a b c d:Value)(w:World):(Instr.buildSlice 196 1 #[(0,.agg #[a,b,c,d])]).run Tryz.prog w=.ok (.slice (some ⟨w.heap.size,0,none⟩) 1 1) (w.alloc (.cells #[a,b,c,d] 142)):=by kernel_rfl
theorem JF:Tryz.prog.eqGuardType Tryz.prog.depth 28=false:=by kernel_rfl
theorem MY(a b c e:Int)(w:World):(Op.equalIn 10000 28 (.agg #[.int .i64 a,.int .i64 b]) (.agg #[.int .i64 c,.int .i64 e])).run Tryz.prog w=.ok (decide (a=c/\b=e)) w:=
 Adf (by kernel_rfl) (by kernel_rfl) (by kernel_rfl : (Tryz.prog.fieldsOf 28).toList = [{ name := "Code", type := 3, offset := 0, embedded := false, tag := "", pkgPath := "", byteOffset := 0 }, { name := "Index", type := 3, offset := 1, embedded := false, tag := "", pkgPath := "", byteOffset := 8 }]) ⟨by decide, rfl⟩ ⟨by decide, rfl⟩ Tryz.underlying3 Tryz.underlying3 a b c e w
theorem Aen(s m:List UInt8)(x y:Int)(a b:List UInt8)(c y2:Int)(w:World):(Op.equalIn 10000 142 (.agg #[.string ⟨s.toArray⟩,.int .i64 x,.int .i64 y,.string ⟨m.toArray⟩]) (.agg #[.string ⟨a.toArray⟩,.int .i64 c,.int .i64 y2,.string ⟨b.toArray⟩])).run Tryz.prog w=.ok (decide (s=a/\x=c/\y=y2/\m=b)) w:=
 Ael (by kernel_rfl) (by kernel_rfl) (by kernel_rfl : (Tryz.prog.fieldsOf 142).toList = [{ name := "path", type := 9, offset := 0, embedded := false, tag := "", pkgPath := "scriptorium/shapes", byteOffset := 0 }, { name := "kind", type := 3, offset := 1, embedded := false, tag := "", pkgPath := "scriptorium/shapes", byteOffset := 16 }, { name := "number", type := 3, offset := 2, embedded := false, tag := "", pkgPath := "scriptorium/shapes", byteOffset := 24 }, { name := "text", type := 9, offset := 3, embedded := false, tag := "", pkgPath := "scriptorium/shapes", byteOffset := 32 }]) ⟨by decide, rfl⟩ ⟨by decide, rfl⟩ ⟨by decide, rfl⟩ ⟨by decide, rfl⟩ Tryz.underlying9 Tryz.underlying3 Tryz.underlying3 Tryz.underlying9 s m x y a b c y2 w
theorem Adv:NO Tryz.prog 9 encS:=Yw Tryz.underlying9
theorem ZS:NO Tryz.prog 142 JD:=ZJ Tryz.underlying142 (fun _ _ _ _ _ _=>by kernel_rfl) (fun s a m b x c y y2 w=>Aen s m x y a b c y2 w)
end Go.Proofs.YtekmbcbgknmhiaaGreatDoor
end
noncomputable section
namespace Go.L
def E0(r:Int):List UInt8:=(Go.Utf8.encode r).data.toList
def Md(l:List UInt8)(p:Nat):Nat×Nat:=Go.Utf8.decode ⟨l.toArray⟩ p
def D0{κ α:Type}[DecidableEq κ](k:κ)(l:List (κ×List α)):List (κ×List α):=HC k (Im [] k l) l
end Go.L
namespace Go.E
open Go Go.RowKit
section
variable {P:Program} {n:Sz} {ops:Array Oper} {Q:Exit->Act->World->Prop} {L:Env} {w w0:World} {O:List BS} {rest:List Oper} {d:Nat} {ty t t':TypeId} {pos:String} {af:Array Edge} {x y x':Operand} {l:List UInt8}
theorem Aeo[Dr]{a:Int}(hx:ev L x=some (.int .i32 a))(ht:P.underlying t=some (.int .i32))(ht':P.underlying t'=some .string):Bw P L w (.convert t t' x) ty (.string ⟨(Go.L.E0 a).toArray⟩):=by
 intro w' _ ρ hρ dst pos af g;have e:(⟨(Go.L.E0 a).toArray⟩:ByteArray)=Utf8.encode a:=by unfold Go.L.E0;rw [Array.toArray_toList]
 rw [e];simp [execOp,hρ x _ hx,convert,run_underlying ht,run_underlying ht',Conv.intToString]
theorem VZ[Dr](hx:ev L x=some (.string ⟨l.toArray⟩))(ht:P.underlying t=some .string)(hn:Nat.blt d n.n=true)(hL:Bd w0 O w)
  (h:∀ w' b,Bd w0 (.obj b (.stringIter ⟨l.toArray⟩ 0)::O) w'->Le (fz w O) (fz w' (.obj b (.stringIter ⟨l.toArray⟩ 0)::O))->S P n ops Q rest ((d,.pointer (some ⟨b,0,none⟩))::L) w'):S P n ops Q (⟨some d,.range t x,ty,pos,af,none⟩::rest) L w:=by
 have hb:∀ b,(BS.obj w.heap.size (.stringIter ⟨l.toArray⟩ 0)).block=some b->w.heap.size<=b:=fun b e=>by cases e;exact Nat.le_refl _
 refine Du (v:=.pointer (some ⟨w.heap.size,0,none⟩)) (w':=w.alloc (.stringIter ⟨l.toArray⟩ 0)) rfl rfl hn (fun ρ hρ=>?_) (h _ _ (hL.new (C8 w _) (World.alloc_heap_new w _) hb) (PF hL (C8 w _) hb));simp [execOp,Instr.range,run_underlying ht,hρ x _ hx,newObj,Sem.run]
theorem XQ[Dr](i:Nat){b p:Nat}(hx:ev L x=some (.pointer (some ⟨b,0,none⟩)))(hn:Nat.blt d n.n=true)(hL:Bd w0 O w)(hi:Dy O i=some (.obj b (.stringIter ⟨l.toArray⟩ p)))
  (a:p<l.length->∀ w',Bd w0 (CX O i (.obj b (.stringIter ⟨l.toArray⟩ (p+(Go.L.Md l p).2)))) w'->Le (fz w O) (fz w' (CX O i (.obj b (.stringIter ⟨l.toArray⟩ (p+(Go.L.Md l p).2)))))->S P n ops Q rest ((d,.tuple #[.bool true,.int .i64 (p:Int),.int .i32 ((Go.L.Md l p).1:Int)])::L) w')
  (h2 : ¬ p<l.length->S P n ops Q rest ((d,.tuple #[.bool false])::L) w):S P n ops Q (⟨some d,.next x true,ty,pos,af,none⟩::rest) L w:=by
 have hb:w.heap[b]? = some (.stringIter ⟨l.toArray⟩ p):=hL.at hi;have hs:(ByteArray.mk l.toArray).size=l.length:=by simp [ByteArray.size]
 by_cases hp:p<l.length
 ·have hr:=Lib.run_next_any_at (P:=P) w b ⟨l.toArray⟩ p ty hb (by rw [hs];exact hp);have hput:=hL.putAt (.stringIter ⟨l.toArray⟩ (p+(Go.L.Md l p).2)) hi;refine Du (v:=.tuple #[.bool true,.int .i64 (p:Int),.int .i32 ((Go.L.Md l p).1:Int)]) (w':=_) rfl rfl hn (fun ρ hρ=>?_) (a hp _ hput.1 hput.2);have e:w.iterAt b ⟨l.toArray⟩ (p+(Utf8.decode ⟨l.toArray⟩ p).2)=w.putObj b (.stringIter ⟨l.toArray⟩ (p+(Go.L.Md l p).2)):=rfl;rw [e] at hr;simp [execOp,hρ x _ hx,hr,Go.L.Md]
 ·have hr:=Lib.run_next_end_at (P:=P) w b ⟨l.toArray⟩ p ty hb (by rw [hs];exact hp);refine Du (v:=.tuple #[.bool false]) (w':=w) rfl rfl hn (fun ρ hρ=>?_) (h2 hp);simp [execOp,hρ x _ hx,hr]
end
section
variable {κ:Type} {enc:κ->Value} {k:κ}
theorem XR:∀ (l:List κ) (vs:List Value) (i m:Nat),l.length=vs.length->l[m]? = some k->(mE enc i l vs).modify m (fun e=>{e with key:=enc k})=mE enc i l vs
 | b::l,u::vs,i,0,_,h=>by simp at h;subst h;simp [mE]
 | b::l,u::vs,i,m+1,hl,h=>by
  have:=XR l vs (i+1) m (by simpa using hl) (by simpa using h);simp only [mE,List.modify_succ_cons,this]
theorem XS{v:Value}:∀ (l:List κ) (vs:List Value) (i m:Nat),l.length=vs.length->(mE enc i l vs).modify m (fun e=>{e with val:=v})=mE enc i l (vs.set m v)
 | [],[],_,_,_=>by simp [mE]
 | b::l,u::vs,i,0,_=>by simp [mE]
 | b::l,u::vs,i,m+1,hl=>by
  have:=XS (v:=v) l vs (i+1) m (by simpa using hl);simp only [mE,List.modify_succ_cons,List.set_cons_succ,this]
theorem OZ:∀ (l:List κ) (vs:List Value) (i m:Nat),l.length=vs.length->m<l.length->(mE enc i l vs).findIdx? (fun e=>(e.born:Int)==((i+m:Nat):Int))=some m
 | b::l,u::vs,i,0,_,_=>by simp [mE,List.findIdx?_cons]
 | b::l,u::vs,i,m+1,hl,h=>by
  have:=OZ l vs (i+1) m (by simpa using hl) (by simpa using h);rw [show i+(m+1)=i+1+m by omega];have hne:((i:Int)==((i+1+m:Nat):Int))=false:=by simp;omega
  simp only [mE,List.findIdx?_cons,hne,Bool.false_eq_true,if_false,this,Option.map_some]
end
section
variable {κ α:Type} [DecidableEq κ] {k:κ} {l:List (κ×List α)}
theorem N2{m:Nat}(h:mI k (l.map Prod.fst)=some m):Go.L.D0 k l=l:=by
 unfold Go.L.D0;rw [OU h];have:=Si ([]:List α) h;obtain⟨a,h2⟩:=List.getElem?_eq_some_iff.1 this
 conv=>lhs;rw [<- h2]
 exact List.set_getElem_self a
theorem N3(h:mI k (l.map Prod.fst)=none):Go.L.D0 k l=l++[(k,[])]:=by
 unfold Go.L.D0;rw [OT h,Sh [] h]
theorem SQ:Go.L.Im [] k (Go.L.D0 k l)=Go.L.Im [] k l:=by
 cases h:mI k (l.map Prod.fst) with
 | some m=>rw [N2 h]
 | none=>
  rw [N3 h];clear h
  induction l with
  | nil=>simp [Go.L.Im]
  | cons a l ih=>
   obtain⟨a,y⟩:=a;simp only [List.cons_append,Go.L.Im]
   split
   ·rfl
   ·exact ih
theorem ZT:∃ m,mI k ((Go.L.D0 k l).map Prod.fst)=some m:=by
 cases h:mI k (l.map Prod.fst) with
 | some m=>rw [N2 h];exact⟨m,h⟩
 | none=>
  rw [N3 h];clear h
  induction l with
  | nil=>exact⟨0,by simp [mI]⟩
  | cons a l ih=>
   obtain⟨a,y⟩:=a;obtain⟨m,hm⟩:=ih;simp only [List.cons_append,List.map_cons,mI]
   split
   ·exact⟨_,rfl⟩
   ·rw [hm];exact⟨_,rfl⟩
theorem Wa{y z:List α}:∀ {l:List (κ×List α)},mI k (l.map Prod.fst)=none->Go.L.HC k y (l++[(k,z)])=Go.L.HC k y l
 | [],_=>by simp [Go.L.HC]
 | (a,x)::l,h=>by
  simp only [List.map_cons,mI] at h
  split at h
  ·cases h
  ·rename_i e;simp only [List.cons_append,Go.L.HC,if_neg e];rw [Wa (by cases b:mI k (l.map Prod.fst) <;> simp_all)]
theorem SR{y:List α}:Go.L.HC k y (Go.L.D0 k l)=Go.L.HC k y l:=by
 cases h:mI k (l.map Prod.fst) with
 | some m=>rw [N2 h]
 | none=>rw [N3 h,Wa h]
def Ow(k:κ)(l:List κ):Int:=match mI k l with | some m=>(m:Int) | none=>0
end
section
variable {P:Program} {n:Sz} {ops:Array Oper} {Q:Exit->Act->World->Prop} {L:Env} {w w0:World} {O:List BS} {rest:List Oper} {d:Nat} {ty ty' t mt kt et e:TypeId} {pos pos':String} {af af':Array Edge} {x y x' m':Operand}
 {κ α:Type} [DecidableEq κ] {enc:κ->Value} {cw:α->List Value} {sz:Nat} {l:List (κ×List α)} {vs:List Value} {k:κ} {H:PH} {A:List BS}
theorem Xa[Dr](ib:Nat){b:Nat}(hx:ev L x=some (.map (some b)))(hy:ev L y=some (enc k))(ht:P.underlying t=some (.map kt et))(hk:NO P kt enc)(hz:Mz P et (.slice none 0 0))(hn:Nat.blt d n.n=true)(hL:Bd w0 (A++mT cw e sz l vs) w)
  (hib:Dy A ib=some (P4 enc b l vs)) (hl:l.length=vs.length)
  (h:∀ vs' w',(Go.L.D0 k l).length=vs'.length->Bd w0 (CX A ib (P4 enc b (Go.L.D0 k l) vs')++mT cw e sz (Go.L.D0 k l) vs') w'->
   Le (fz w (A++mT cw e sz l vs)) (fz w' (CX A ib (P4 enc b (Go.L.D0 k l) vs')++mT cw e sz (Go.L.D0 k l) vs'))->
   S P n ops Q rest ((d,.tuple #[WO (.slice none 0 0) k ((Go.L.D0 k l).map Prod.fst) vs',.int .i64 (Ow k ((Go.L.D0 k l).map Prod.fst))])::L) w') :
  S P n ops Q (⟨some d,.mapEntry t x y,ty,pos,af,none⟩::rest) L w:=by
 have hb:w.heap[b]? = some (.map (mE enc 0 (l.map Prod.fst) vs).toArray l.length):=hL.at (JC _ hib);have hg:(getObj b).run P w=.ok (.map (mE enc 0 (l.map Prod.fst) vs).toArray l.length) w:=by simp [getObj,Sem.run,hb]
 have hs:∀ o,(setObj b o).run P w=.ok () (w.putObj b o):=fun o=>by simp [setObj,Sem.run,hb,World.putObj]
 have hll:(l.map Prod.fst).length=vs.length:=by rw [List.length_map];exact hl
 cases hm:mI k (l.map Prod.fst) with
 | some m=>
  obtain⟨f,h2⟩:=Ue hm;have he:=QS (enc:=enc) (l.map Prod.fst) vs 0 m k hll h2;have hp:=hL.putAt (.map (mE enc 0 (l.map Prod.fst) vs).toArray l.length) (JC _ hib);rw [MV _ _ hib] at hp;have h':=h vs (w.putObj b (.map (mE enc 0 (l.map Prod.fst) vs).toArray l.length));rw [N2 hm] at h';have g:(mE enc 0 (l.map Prod.fst) vs).toArray.modify m (fun e=>{e with key:=enc k})=(mE enc 0 (l.map Prod.fst) vs).toArray:=by rw [List.modify_toArray,XR _ vs 0 m hll h2]
  refine Du (v:=_) (w':=_) rfl rfl hn (fun ρ hρ=>?_) (h' hl hp.1 hp.2)
  have hr:(Instr.mapEntry t (.map (some b)) (enc k)).run P w=.ok (.tuple #[WO (.slice none 0 0) k (l.map Prod.fst) vs,.int .i64 (Ow k (l.map Prod.fst))]) (w.putObj b (.map (mE enc 0 (l.map Prod.fst) vs).toArray l.length)):=by
   simp only [Instr.mapEntry,Sem.run_bind,run_underlying ht,Result.andThen,hg,hk.check];rw [Sg hk hll,hm];simp only [Option.map_some,Sem.run_bind,Result.andThen,List.getElem?_toArray,he,Option.getD_some,Instr.keyThatStays,hk.bits,if_true];simp only [Sem.run_pure,Nat.zero_add];rw [g,hs];simp [WO,Ow,hm,goInt]
  simp [execOp,hρ x _ hx,hρ y _ hy,hr]
 | none=>
  have hp:=hL.putAt (.map (mE enc 0 (l.map Prod.fst++[k]) (vs++[.slice none 0 0])).toArray (l.length+1)) (JC _ hib);rw [MV _ _ hib] at hp;have hnil:=Sd hp.1 e sz;have h':=h (vs++[.slice none 0 0]) (w.putObj b (.map (mE enc 0 (l.map Prod.fst++[k]) (vs++[.slice none 0 0])).toArray (l.length+1)));rw [N3 hm] at h';have hpush:=UO (enc:=enc) (k:=k) (v:=.slice none 0 0) (l.map Prod.fst) vs 0 hll;rw [Nat.zero_add] at hpush;have c:(l++[(k,([]:List α))]).map Prod.fst=l.map Prod.fst++[k]:=by simp
  have i:(l++[(k,([]:List α))]).length=l.length+1:=by simp
  have hB:(.obj b (.map (mE enc 0 (l.map Prod.fst++[k]) (vs++[.slice none 0 0])).toArray (l.length+1)):BS)=P4 enc b (l++[(k,([]:List α))]) (vs++[.slice none 0 0]):=by unfold P4;rw [c,i]
  rw [hB] at hp hnil
  have hperm:(CX A ib (P4 enc b (l++[(k,([]:List α))]) (vs++[.slice none 0 0]))++mT cw e sz (l++[(k,([]:List α))]) (vs++[.slice none 0 0])).Perm (.row (.slice none 0 0) e sz 0 []::(CX A ib (P4 enc b (l++[(k,([]:List α))]) (vs++[.slice none 0 0]))++mT cw e sz l vs)):=by
   rw [UP k [] (.slice none 0 0) hl,<- List.append_assoc];exact List.perm_append_singleton _ _
  have hmm:mI k (l.map Prod.fst++[k])=some l.length:=by
   have hmk:∀ (ks:List κ),mI k ks=none->mI k (ks++[k])=some ks.length:=by
    intro ks
    induction ks with
    | nil=>intro _;simp [mI]
    | cons a ks ih=>
     intro hh;simp only [mI] at hh
     split at hh
     ·cases hh
     ·rename_i ee;simp only [List.cons_append,mI,if_neg ee];rw [ih (by cases f:mI k ks <;> simp_all)];simp
   have:=hmk _ hm
   rwa [List.length_map] at this
  refine Du (v:=_) (w':=_) rfl rfl hn (fun ρ hρ=>?_) (h' (by simp [hl]) (hnil.1.perm hperm) (by rw [I3 hperm];exact hp.2.trans hnil.2))
  have hr:(Instr.mapEntry t (.map (some b)) (enc k)).run P w=.ok (.tuple #[WO (.slice none 0 0) k ((l++[(k,([]:List α))]).map Prod.fst) (vs++[.slice none 0 0]),.int .i64 (Ow k ((l++[(k,([]:List α))]).map Prod.fst))]) (w.putObj b (.map (mE enc 0 (l.map Prod.fst++[k]) (vs++[.slice none 0 0])).toArray (l.length+1))):=by
   rw [c];simp only [Instr.mapEntry,Sem.run_bind,run_underlying ht,Result.andThen,hg,hk.check];rw [Sg hk hll,hm];have hz':(zeroValue et).run P w=.ok (.slice none 0 0) w:=hz w;simp only [Option.map_none,Sem.run_bind,Result.andThen,hz',List.push_toArray];rw [List.length_map] at hpush;rw [hpush,hs];simp [WO,Ow,hmm,goInt,hl]
  simp [execOp,hρ x _ hx,hρ y _ hy,hr]
theorem Adw[Dr](ib:Nat){b:Nat}{v:Value}{yl:List α}{T:List BS}(hpd:Adq cw e sz (Go.L.D0 k l) vs k yl v T)(hm:ev L m'=some (.map (some b)))(hkx:ev L x'=some (.int .i64 (Ow k ((Go.L.D0 k l).map Prod.fst))))(hv:ev L x=some v)
  (hL:Bd w0 (A++T) w) (hib:Dy A ib=some (P4 enc b (Go.L.D0 k l) vs))
  (h:∀ vs' w',(Go.L.HC k yl l).length=vs'.length->Bd w0 (CX A ib (P4 enc b (Go.L.HC k yl l) vs')++mT cw e sz (Go.L.HC k yl l) vs') w'->
   Le (fz w (A++T)) (fz w' (CX A ib (P4 enc b (Go.L.HC k yl l) vs')++mT cw e sz (Go.L.HC k yl l) vs'))->S P n ops Q rest L w') :
  S P n ops Q (⟨none,.entryStore mt m' x' x,ty,pos,af,none⟩::rest) L w:=by
 obtain⟨_,hl,hpm⟩:=hpd;obtain⟨m,hmi⟩:=ZT (k:=k) (l:=l);rw [SR] at hpm;have hll:((Go.L.D0 k l).map Prod.fst).length=vs.length:=by rw [List.length_map];exact hl
 obtain⟨c,h2⟩:=Ue hmi;have hb:w.heap[b]? = some (.map (mE enc 0 ((Go.L.D0 k l).map Prod.fst) vs).toArray (Go.L.D0 k l).length):=hL.at (JC T hib);have hg:(getObj b).run P w=.ok (.map (mE enc 0 ((Go.L.D0 k l).map Prod.fst) vs).toArray (Go.L.D0 k l).length) w:=by simp [getObj,Sem.run,hb]
 have hs:∀ o,(setObj b o).run P w=.ok () (w.putObj b o):=fun o=>by simp [setObj,Sem.run,hb,World.putObj]
 have hU:WQ k v ((Go.L.D0 k l).map Prod.fst) vs=vs.set m v:=by unfold WQ;rw [hmi]
 have hK:(Go.L.HC k yl l).map Prod.fst=(Go.L.D0 k l).map Prod.fst:=by
  have:=SG (k:=k) (y:=yl) (l:=Go.L.D0 k l);rw [SR] at this;rw [<- this];unfold upK;rw [hmi]
 have hlen:(Go.L.HC k yl l).length=(Go.L.D0 k l).length:=by have:=congrArg List.length hK;simpa using this
 have hf:=OZ (enc:=enc) _ vs 0 m hll c;rw [Nat.zero_add] at hf;have hp:=hL.putAt (.map (mE enc 0 ((Go.L.HC k yl l).map Prod.fst) (vs.set m v)).toArray (Go.L.HC k yl l).length) (JC T hib);rw [MV _ _ hib] at hp;have a:=List.Perm.append_left (CX A ib (P4 enc b (Go.L.HC k yl l) (WQ k v ((Go.L.D0 k l).map Prod.fst) vs))) hpm.symm;rw [hU] at a
 have hr:(Instr.entryStore mt (.map (some b)) (.int .i64 (Ow k ((Go.L.D0 k l).map Prod.fst))) v).run P w=.ok () (w.putObj b (.map (mE enc 0 ((Go.L.HC k yl l).map Prod.fst) (vs.set m v)).toArray (Go.L.HC k yl l).length)):=by
  simp only [Instr.entryStore,Sem.run_bind,Result.andThen,hg,Ow,hmi,asInt,asIntOf];simp only [Sem.run_bind,Sem.run_pure,Result.andThen,List.findIdx?_toArray,hf,List.modify_toArray];rw [XS _ vs 0 m hll,hs,hK,hlen]
 refine MR (w':=_) rfl rfl (fun ρ hρ=>?_) (h (vs.set m v) _ (by rw [hlen,List.length_set];exact hl) (hp.1.perm a) ?_)
 ·simp [execOp,hρ m' _ hm,hρ x' _ hkx,hρ x _ hv,hr]
 ·rw [I3 a];exact hp.2
end
end Go.E
end
noncomputable section
namespace Go.E
open Go Go.RowKit
def Aep(v v':Value)(lo:Nat):Prop:=∃ a m cap,v=.slice a m cap/\lo<=m/\m<=cap/\v'=.slice (if cap=lo then a else a.map (·.add lo)) (m - lo) (cap - lo)
theorem Aep.vec{α:Type}{r:Rp α}{H:PH}{v v':Value}{lo:Nat}{l:List α}(h:Aep v v' lo)(hv:AI r H v l)(hr:r.sz=1):AI r H v' (l.drop lo):=by
 obtain⟨a,m,cap,rfl,c,h2,rfl⟩:=h;obtain⟨a',cap',he⟩:=hv.header;have hm:m=l.length:=by cases he;rfl
 subst hm;obtain⟨a2,f,g,hs⟩:=hv.sub lo l.length c (Nat.le_refl _)
 cases g
 rw [hr,Nat.mul_one,List.take_of_length_le (by simp)] at hs;exact hs
section
variable {P:Program} {n:Sz} {ops:Array Oper} {Q:Exit->Act->World->Prop} {L:Env} {w w0:World} {O:List BS} {rest:List Oper} {d:Nat}
 {ty:TypeId} {pos:String} {af:Array Edge} {α:Type} {r:Rp α} {x a b:Operand} {v:Value} {t e:TypeId} {H:PH} {k:IntKind} {lo:Int} {m:Nat} {zz:Value} {bt:Nat} {xs:List Value}
end
end Go.E
end
noncomputable section
namespace Go
abbrev No:Int->Value:=Value.int .i64
abbrev Aa8:Value:=.slice none 0 0
abbrev Abi(b:Nat):Value:=.pointer (some ⟨b,0,none⟩)
abbrev Abj(l:List UInt8):Value:=.string ⟨l.toArray⟩
abbrev Abk:=List UInt8
abbrev Abl:List Value:=[.int .i64 0,.slice none 0 0,.string ⟨([]:List UInt8).toArray⟩,.slice none 0 0,.int .i64 0,.int .i64 0,.slice none 0 0]
end Go
namespace Go.Proofs.YtekmbcbgknmhiaaGreatDoor
open Go Go.E Go.RowKit Go.L
set_option maxHeartbeats 1000000
set_option maxRecDepth 10000
open _root_.Go.Proofs.Tryz
def Da(a0:Abk)(a1:Abk):Option Int:=
 some ((Lib.compareBytes a0 a1))
theorem JK[Dr](w:World)(H:PH)(_hH:Le H (hp w)){a0 a1:Abk}{r:Int}(h:Da a0 a1=some r):
  Ok prog 238 [Abj a0,Abj a1] w (fun v w'=>Ext w w'/\v=No r):=by
 refine A3 (n:=8) [(0,(Abj a0)),(1,(Abj a1))] func238 rfl fun hL=>AD 1 rfl<|Bi 2 rfl<|Ag (Adl func304 rfl rfl (by kernel_rfl) (by kernel_rfl) rfl rfl) rfl<|A4 1 rfl<|Ax ?_
 cases h
 refine Ak rfl ⟨hL.ext,rfl⟩
def strings_Compare(a0:Abk)(a1:Abk):Option Int:=
 Option.bind (Da a0 a1) (fun a=>some a)
theorem J5[Dr](w:World)(H:PH)(hH:Le H (hp w)){a0 a1:Abk}{r:Int}(h:strings_Compare a0 a1=some r):
  Ok prog 188 [Abj a0,Abj a1] w (fun v w'=>Ext w w'/\v=No r):=by
 refine A3 (n:=8) [(0,(Abj a0)),(1,(Abj a1))] func188 rfl fun hL=>AD 1 rfl<|Bi 2 rfl<|Ay h fun e a h=>AA rfl rfl hL (JK _ _ (Ar hH hL) a) fun f d b c=>A4 1 rfl<|Ax ?_
 cases h
 refine Ak rfl ⟨b.ext,rfl⟩
def cmp_isNaN_int(a0:Int):Option Bool:=
 some (!decide (a0=a0))
theorem MZ[Dr](w:World)(H:PH)(_hH:Le H (hp w)){a0:Int}{r:Bool}(h:cmp_isNaN_int a0=some r):
  Ok prog 239 [No a0] w (fun v w'=>Ext w w'/\v=.bool r):=by
 refine A3 (n:=6) [(0,No a0)] func239 rfl fun hL=>AD 1 rfl<|AD 4 rfl<|Ax ?_
 cases h
 refine Ak rfl ⟨hL.ext,rfl⟩
def HD(a0 a1:Int):Option Int:=
 Option.bind (cmp_isNaN_int a0) (fun b=>Option.bind (cmp_isNaN_int a1) (fun a=>if b then(if a then some (0) else some ((-1))) else(if a then some (1) else(if a0<a1 then some ((-1)) else(if a1<a0 then some (1) else some (0))))))
theorem LK[Dr](w:World)(H:PH)(hH:Le H (hp w)){a0 a1 r:Int}(h:HD a0 a1=some r):
  Ok prog 189 [No a0,No a1] w (fun v w'=>Ext w w'/\v=No r):=by
 refine A3 (n:=20) [(0,No a0),(1,No a1)] func189 rfl fun hL=>AD 1 rfl<|Bi 1 rfl<|Ay h fun p f h=>AA rfl rfl hL (MZ _ _ (Ar hH hL) f) fun q m b k=>A4 1 rfl<|Bi 1 rfl<|Ay h fun s g h=>AA rfl rfl b (MZ _ _ (Ar hH b) g) fun t o a l=>A4 1 rfl<|A7<|AD 1 rfl<|Bb rfl h (fun i h=>?_) (fun i h=>?_)
 ·refine A7<|AD 1 rfl<|Bb rfl h (fun j h=>?_) (fun j h=>?_)
  ·refine AD 1 rfl<|Ax ?_
   iterate 2 refine An ?_
   cases h
   refine Ak rfl ⟨a.ext,rfl⟩
  refine Av<|Ao<|AD 1 rfl<|Ax<|An ?_
  cases h
  refine Ak rfl ⟨a.ext,rfl⟩
 refine Av<|Ao<|A7<|AD 1 rfl<|Bb rfl h (fun c h=>?_) (fun c h=>?_)
 ·refine AD 1 rfl<|Ax<|An ?_
  cases h
  refine Ak rfl ⟨a.ext,rfl⟩
 refine Av<|Ao<|A7<|AD 3 rfl<|AM rfl h (fun d h=>?_) (fun d h=>?_)
 ·refine AD 1 rfl<|Ax<|An ?_
  cases h
  refine Ak rfl ⟨a.ext,rfl⟩
 refine Av<|Ao<|A7<|AD 3 rfl<|AM rfl h (fun e h=>?_) (fun e h=>?_)
 ·refine AD 1 rfl<|Ax<|An ?_
  cases h
  refine Ak rfl ⟨a.ext,rfl⟩
 refine Av<|Ao<|AD 1 rfl<|Ax ?_
 cases h
 refine Ak rfl ⟨a.ext,rfl⟩
def P6:Option Int:=
 some (0)
def E1(a0:List Int):Int->Option ((Int) ⊕ (Int)):=fun a=>
 if a<(a0.length:Int) then AS (0<=a/\a<(a0.length:Int)) (if a0.getD a.toNat default=0 then AS (B0 (a+1)) (some (Sum.inl (a+1))) else Option.map Sum.inr (some (a0.getD a.toNat default))) else Option.map Sum.inr P6
def P7(a0:List Int)(s:Int):Option Int:=Go.L.run (E1 a0) s
def N4(a0:List Int):Option Int:=
 (P7 a0) (0:Int)
theorem TG[Dr](w:World)(H:PH)(hH:Le H (hp w)){a0:List Int}{b:Value}(e:AI (.int .i64) H b a0){r:Int}(h:N4 a0=some r):
  Ok prog 187 [b] w (fun v w'=>Ext w w'/\v=No r):=by
 refine A3 (n:=18) [(0,b)] func187 rfl fun hL=>AD 1 rfl<|AD 1 rfl<|Bo (σ:=Unit) (fun(_:Unit)=>[(3,No 0)]) (fun(_:Unit) wr=>Bd w [] wr/\P6=some r) ?_ ?_
 ·refine Bi 1 rfl<|Ag (Bu rfl Abm e) rfl<|A4 1 rfl<|A5 ?_;obtain⟨f,h⟩:=AZ h;refine Bx (σ:=Int×Nat) (fun⟨a,n⟩=>[(3,No 0),(6,b),(7,No (a0.length:Int)),(8,No a)]) (fun⟨a,n⟩ wr=>Bd w [] wr/\F6 (E1 a0) n a=some r) (fun⟨a,n⟩=>n) (0,f) (Sub.of rfl) ⟨hL,h⟩ ?_;rintro⟨a,nn36⟩ o ⟨c,h⟩;obtain⟨f,q,rfl,h,d⟩:=AY h;refine AD 1 rfl<|A7<|AM rfl h (fun i h=>?_) (fun i h=>?_)
  ·refine Av<|Ao<|A7<|A5<|Am<|Az h fun g h=>Bf rfl rfl Abm Cj e a.toNat (EX g) (Ba g) rfl ?_;rintro s _ rfl j;refine Ag (Bj rfl Abn rfl j (hH.trans c.arg)) rfl<|A4 1 rfl<|AD 3 rfl<|BV rfl h (fun k h=>?_) (fun k h=>?_)
   ·refine AD 2 rfl<|Ax<|Aq<|An<|By ?_;have h:=BP.out h d;refine Aq<|Bs ?_
    cases h
    refine Ak rfl ⟨c.ext,rfl⟩
   refine Av<|AF<|Ao<|Aw<|Az h fun l h=>Ag (A1 rfl l) rfl<|As 1 rfl<|AK ?_;have h:=BP.again h d;refine AN ((a+1),f) (Sub.of rfl) ⟨c,h⟩ (Nat.lt_succ_self _)
  refine Br<|AG<|A6 ?_;have h:=BP.out h d;refine Be<|A8 () (Sub.of rfl) ⟨c,h⟩
 rintro _ p ⟨m,h⟩;refine AD 2 rfl<|Ax ?_
 cases h
 refine Ak rfl ⟨m.ext,rfl⟩
def IX(a0:Abk×Int×Int×Abk)(a1:Abk×Int×Int×Abk):Option Int:=
 Option.bind (strings_Compare a0.1 a1.1) (fun c=>Option.bind (HD a0.2.1 a1.2.1) (fun d=>Option.bind (HD a0.2.2.1 a1.2.2.1) (fun e=>Option.bind (strings_Compare a0.2.2.2 a1.2.2.2) (fun a=>Option.bind (N4 ([c,d,e,a])) (fun b=>some b)))))
theorem N5[Dr](w:World)(H:PH)(hH:Le H (hp w)){a0 a1:Abk×Int×Int×Abk}{r:Int}(h:IX a0 a1=some r):
  Ok prog 137 [.agg #[Abj a0.1,No a0.2.1,No a0.2.2.1,Abj a0.2.2.2],.agg #[Abj a1.1,No a1.2.1,No a1.2.2.1,Abj a1.2.2.2]] w (fun v w'=>Ext w w'/\v=No r):=by
 refine A3 (n:=27) [(0,.agg #[Abj a0.1,No a0.2.1,No a0.2.2.1,Abj a0.2.2.2]),(1,.agg #[Abj a1.1,No a1.2.1,No a1.2.2.1,Abj a1.2.2.2])] func137 rfl fun hL=>Am<|CY (t:=142) rfl rfl rfl hL fun w1 b1 j y _=>CY (t:=142) rfl rfl rfl j fun w2 b2 k z _=>A4 1 rfl<|DD (.q 0 (.q 1 (.q 2 (.q 3 (.q 4 (.q 5 (.q 6 (.q 7 (.q 8 (.q 9 (.q 10 (.q 11 (.q 12 (.q 13 (.q 14 (.q 15 (.q 16 (.q 17 (.q 18 (.q 19 (.h 20 (.q 21 (.q 22 (.tail 23)))))))))))))))))))))))) mixed (by kernel_rfl) (fun w3 m=>?_);have a:=k.call m;refine BQ (Ae rfl Abw rfl EZ) rfl rfl<|BQ (Af 1 rfl Ab1 rfl a rfl) rfl rfl<|BQ (Ae rfl Abw rfl EZ) rfl rfl<|BQ (Af 0 rfl Ab1 rfl a rfl) rfl rfl<|Ay h fun x5 o h=>Ec rfl rfl rfl (fun w6 ag=>J5 _ _ (Le.refl _) o)<|BQ (Ae rfl Abw rfl Cj) rfl rfl<|BQ (Af 1 rfl Abn rfl a rfl) rfl rfl<|BQ (Ae rfl Abw rfl Cj) rfl rfl<|BQ (Af 0 rfl Abn rfl a rfl) rfl rfl<|Ay h fun x7 p h=>Ec rfl rfl rfl (fun w8 ah=>LK _ _ (Le.refl _) p)<|BQ (Ae rfl Abw rfl Cj) rfl rfl ?_
 refine BQ (Af 1 rfl Abn rfl a rfl) rfl rfl<|BQ (Ae rfl Abw rfl Cj) rfl rfl<|BQ (Af 0 rfl Abn rfl a rfl) rfl rfl<|Ay h fun x9 s h=>Ec rfl rfl rfl (fun ai ad=>LK _ _ (Le.refl _) s)<|BQ (Ae rfl Abw rfl EZ) rfl rfl<|BQ (Af 1 rfl Ab1 rfl a rfl) rfl rfl<|BQ (Ae rfl Abw rfl EZ) rfl rfl<|BQ (Af 0 rfl Ab1 rfl a rfl) rfl rfl<|Ay h fun u c h=>Ec rfl rfl rfl (fun aj ae=>J5 _ _ (Le.refl _) c)<|MD (r:=(.int .i64)) (l:=[x5,x7,x9,u]) rfl rfl (fun _=>XP _ _ _ _ _) rfl (leMax 4) hH a (.c1 rfl (.c1 rfl (.c1 rfl (.c1 rfl .nil)))) fun ak al af b x d=>Ay h fun am e h=>Ec rfl rfl rfl (fun an f=>TG _ _ (Le.refl _) ((d.mono (Ar hH b)).mono f.le) e)<|Df 1 rfl<|Cd (fun ao g=>?_);have i:=b.call g;refine Ac<|Ax ?_
 cases h
 refine Ak rfl ⟨i.ext,rfl⟩
def MG(a0:Abk)(a1:Abk):Option Int:=
 some ((Lib.compareBytes a0 a1))
theorem QV[Dr](w:World)(H:PH)(hH:Le H (hp w)){a0 a1:Abk}{a b:Value}(c:AI .byte H a a0)(d:AI .byte H b a1){r:Int}(h:MG a0 a1=some r):
  Ok prog 175 [a,b] w (fun v w'=>Ext w w'/\v=No r):=by
 refine A3 (n:=8) [(0,a),(1,b)] func175 rfl fun hL=>AD 1 rfl<|Bi 2 rfl<|Ag (Adj func227 rfl rfl (by kernel_rfl) (by kernel_rfl) rfl rfl c (hH.trans hL.arg) d (hH.trans hL.arg)) rfl<|A4 1 rfl<|Ax ?_
 cases h
 refine Ak rfl ⟨hL.ext,rfl⟩
def LL(a0 a1:Int)(a:Abk):Option Int:=
 AS (0<=a0/\a0<=(a.length:Int)) (AS (0<=a1/\a1<=(a.length:Int)) (Option.bind (MG (a.drop a0.toNat) (a.drop a1.toNat)) (fun b=>some b)))
theorem Qk[Dr](w:World)(H:PH)(hH:Le H (hp w)){a0 a1:Int}{i:Abk}{b:Value}{f:Addr}(c:AI .byte H b i)(d:Hi H f [b]){r:Int}(h:LL a0 a1 i=some r):
  Ok prog 174 [No a0,No a1,.pointer (some f)] w (fun v w'=>Ext w w'/\v=No r):=by
 refine A3 (n:=13) [(0,No a0),(1,No a1),(2,.pointer (some f))] func174 rfl fun hL=>AD 1 rfl<|DD (.q 0 (.q 1 (.q 2 (.q 3 (.q 4 (.q 5 (.q 6 (.q 7 (.tail 8))))))))) mixed (by kernel_rfl) (fun t j=>?_);have a:=hL.call j;refine BQ (Bj rfl AbF rfl d (hH.trans a.arg)) rfl rfl<|Df 1 rfl<|Az h fun k h=>VQ rfl rfl rfl AbF LH c k rfl fun u l=>BQ (Bj rfl AbF rfl d (hH.trans a.arg)) rfl rfl<|Df 1 rfl<|Az h fun m h=>VQ rfl rfl rfl AbF LH c m rfl fun x o=>Ay h fun y p h=>Ec rfl rfl rfl (fun z e=>QV _ _ (Le.refl _) ((l.mono (hH.trans a.arg)).mono e.le) ((o.mono (hH.trans a.arg)).mono e.le) p)<|Df 1 rfl<|Cd (fun w9 s=>?_);have g:=a.call s;refine Ac<|Ax ?_
 cases h
 refine Ak rfl ⟨g.ext,rfl⟩
end Go.Proofs.YtekmbcbgknmhiaaGreatDoor
end
noncomputable section
namespace Go.E
open Go Go.RowKit
instance AeT:Dr:=⟨false⟩
theorem Ext.off{w w':World}(h:Below w.heap.size w w'):Ext w w':=⟨h,fun o=>absurd o (by decide)⟩
structure Cb (P:Program) (a:World) (H:PH) (f:FuncId) (cap:List Value) {σ:Type} (J:σ->List BS->PH->Prop) (step:σ->List UInt8×Int×Int×List UInt8->Option σ):Prop where
 mono:∀ {s:σ} {R:List BS} {G G':PH},Le G G'->J s R G->J s R G'
 ok:∀ {w:World} {O R:List BS} {s s':σ} {x:List UInt8×Int×Int×List UInt8},Bd a (HAppend.hAppend O R) w->J s R (gz H a w (HAppend.hAppend O R))->step s x=some s'->
  Ok P f (JD x::cap) w (fun v w'=>v=.tuple #[]/\∃ R':List BS,Bd a (HAppend.hAppend O R') w'/\Le (fz w (HAppend.hAppend O R)) (fz w' (HAppend.hAppend O R'))/\J s' R' (gz H a w' (HAppend.hAppend O R')))
section
variable {P:Program} {n:Sz} {ops:Array Oper} {Q:Exit->Act->World->Prop} {L:Env} {w w0:World} {O:List BS} {rest:List Oper} {d:Nat} {ty t t':TypeId} {pos:String} {af:Array Edge} {x y:Operand} {v:Value} {e:TypeId} {pv:Value}
theorem Xb{a b:Int}(c : -9223372036854775808<=a/\a<=9223372036854775807/\0<b): -9223372036854775808<=a.tdiv b/\a.tdiv b<=9223372036854775807:=by
 obtain⟨c,h2,h3⟩:=c;have e:(a.tdiv b).natAbs<=a.natAbs:=by rw [Int.natAbs_tdiv];exact Nat.div_le_self _ _
 rcases Int.le_total 0 a with h | h
 ·have d:0<=a.tdiv b:=Int.tdiv_nonneg h (by omega);omega
 ·have d:0<=(-a).tdiv b:=Int.tdiv_nonneg (by omega) (by omega);rw [Int.neg_tdiv] at d;omega
theorem Adx{a b:Int}(hx:ev L x=some (.int .i64 a))(hy:ev L y=some (.int .i64 b))(c : -9223372036854775808<=a/\a<=9223372036854775807/\0<b):Bw P L w (.binOp .quo t x y t') ty (.int .i64 (a.tdiv b)):=by
 intro w' _ ρ hρ dst pos af g;have hb:b≠0:=by omega
 have⟨d,e⟩:=Xb c;simp [execOp,hρ x _ hx,hρ y _ hy,eqGuard,binOp,Op.intDiv,hb,wrap64 (x:=a.tdiv b) (by omega) (by omega)]
theorem Ady{a b:Int}{k:IntKind}(hx:ev L x=some (.int k a))(hy:ev L y=some (.int k b))(c : -9223372036854775808<=a/\a<=9223372036854775807/\0<b):Bw P L w (.binOp .rem t x y t') ty (.int k (a.tmod b)):=by
 intro w' _ ρ hρ dst pos af g;have hb:b≠0:=by omega
 simp [execOp,hρ x _ hx,hρ y _ hy,eqGuard,binOp,Op.intDiv,hb]
theorem Un(i off:Nat){b:Nat}{cs vs ns:List Value}{a:TypeId}{zz:Value}{bt:Nat}(hx:ev L x=some (.pointer (some ⟨b,off,none⟩)))(hy:ev L y=some v)(hc:v.cells.toList=vs)(hz:Zr P t zz vs.length bt)(hL:Bd w0 O w)(hi:Dy O i=some (.box b cs a))(hlen:Nat.ble (off+vs.length) cs.length=true)(hns:cs.take off++vs++cs.drop (off+vs.length)=ns)(c:∀ u∈vs,u.oneCell'=true)
  (h:∀ w',Bd w0 (CX O i (.box b ns a)) w'->Le (fz w O) (fz w' (CX O i (.box b ns a)))->S P n ops Q rest L w'):S P n ops Q (⟨none,.store t x y,ty,pos,af,none⟩::rest) L w:=by
 subst hc;have hlen':=Nat.le_of_ble_eq_true hlen;obtain⟨inf,d,g,f,j⟩:=hz.parts;have hb:w.heap[b]? = some (.cells cs.toArray a (0,0)):=hL.at hi;have hst:=run_storeCells_at P b off a v.cells.toList 0 cs.toArray w hb (by simp at hlen' ⊢;omega) c;simp only [Nat.add_zero,List.toList_toArray] at hst;rw [hns] at hst;have hsz:v.cells.size=inf.size:=by rw [f];simp
 refine MR (w':=w.setRow b ns.toArray) rfl rfl (fun ρ hρ=>by
  simp [execOp,hρ x _ hx,hρ y _ hy,Instr.storeAt,Instr.sureAddr,storeVar,sizeOf,typeInfo,d,hsz,hst]) ?_
 have hg:=Oq w b ns.toArray
 have hnl:ns.length=cs.length:=by
  rw [<- hns];simp only [List.length_append,List.length_take,List.length_drop];omega
 have hok:BS.ok (w.setRow b ns.toArray) (.box b ns a):=by
  show(w.setRow b ns.toArray).heap[b]? = _
  exact MU w b cs.toArray ns.toArray a hb
 exact h _ (hL.MC hi (Nat.le_refl _) hg hok (fun b' e=>.inl e)) (HK hL hi hg (fun b' e=>.inl e))
theorem Adz{α:Type}{r:Rp α}{l:List α}{H:PH}{b c:Operand}{k k':IntKind}{zz:Value}{bt:Nat}(hx:ev L x=some v)(hb:ev L b=some (.int k (l.length:Int)))(hc:ev L c=some (.int k' (l.length:Int)))(ht:P.underlying t=some (.slice e))(he:Zr P e zz r.sz bt)(hv:AI r H v l)(hn:Nat.blt d n.n=true)
  (h:∀ v',AI r H v' l->S P n ops Q rest ((d,v')::L) w):S P n ops Q (⟨some d,.slice t x none (some b) (some c),ty,pos,af,none⟩::rest) L w:=by
 obtain⟨inf,i,q,s,u⟩:=he.parts;obtain⟨A,cap,j,o,p,a,f⟩:=hv.ex;subst j
 have hr:∀ w,Bw P L w (.slice t x none (some b) (some c)) ty (.slice A l.length l.length):=fun w w' _ ρ hρ dst pos af g=>by
  have m:(l.length:Int)<=(cap:Int):=by omega
  simp [execOp,hρ x _ hx,hρ b _ hb,hρ c _ hc,Instr.sliceAt,run_underlying ht,Instr.slice,Instr.sliceBounds,Instr.sliceBound,asIntOf,sizeOf,typeInfo,i,m]
  cases A <;> simp [Addr.add_zero'] <;> (intro h;omega)
 exact Ag (hr w) hn (h _ ⟨A,l.length,rfl,Nat.le_refl _,by omega,fun hA=>by have:=a hA;omega,f⟩)
theorem Wb{b m e:Nat}{a:Int}{k:IntKind}{zz:Value}{bt len:Nat}(hx:ev L x=some (.pointer (some ⟨b,0,none⟩)))(hy:ev L y=some (.int k a))(ht:P.underlying t=some (.array len e))(he:Zr P e zz 1 bt)(hl:Nat.blt 1 len=true)(hm:0<=a/\a<(len:Int))(hmm:a.toNat=m):Bw P L w (.indexAddr t x y) ty (.pointer (some ⟨b,m,none⟩)):=by
 intro w' _ ρ hρ dst pos af g;obtain⟨inf,c,f,d,i⟩:=he.parts;have hl' : ¬ len<=1:=by simp only [Nat.blt_eq] at hl;omega
 have i3':inf.size=1:=by rw [d]
 simp [execOp,hρ x _ hx,hρ y _ hy,Instr.indexAt,asIntOf,run_underlying ht,Instr.sureAddr,sizeOf,typeInfo,c,i3',hm,hmm,Addr.add];intro h;exact h.symm
theorem XT(i m:Nat){b:Nat}{l:List Int}{cs:List Value}{c:TypeId}{k:IntKind}(hx:ev L x=some (.pointer (some ⟨b,m,none⟩)))(ht:P.underlying t=some (.int k))(hL:Bd w0 O w)(hi:Dy O i=some (.box b cs c))(hcs:l.map (Value.int k)=cs)(hm:m<l.length):Bw P L w (.load t x) ty (.int k (l.getD m default)):=by
 subst hcs;have a:=(AL hL hi).add m;rw [Addr.add_lit,Nat.zero_add] at a
 have h2:(l.map (Value.int k)).drop m=.int k (l.getD m default)::(l.map (Value.int k)).drop (m+1):=by
  rw [List.drop_eq_getElem_cons (by simpa using hm)];simp [hm]
 rw [h2] at a;exact Bj hx ht rfl a (Le.refl _)
theorem ZU(m:Nat){b off:Nat}{cs c:List Value}{d:TypeId}{dd:TypeDesc}{zz:Value}{bt:Nat}(hx:ev L x=some (.pointer (some ⟨b,off,none⟩)))(ht:P.underlying t=some dd)(hd:VJ dd=true)(hz:Zr P t zz c.length bt)(h:w.heap[b]? = some (.cells cs.toArray d (0,0)))(hc:(cs.drop off).take m=c):Bw P L w (.load t x) ty (.agg c.toArray):=by
 have a:=((WU h).add off).part m;rw [hc,Addr.add_lit,Nat.zero_add] at a;exact C9 hx ht hd hz a (Le.refl _)
theorem ZV{u:Value}{dd:TypeDesc}(hx:ev L x=some (.iface t' u))(ht:P.underlying t'=some dd)(hd:XF dd=true):Bw P L w (.typeAssert x t t' true) ty (.tuple #[u,.bool true]):=fun w' _ ρ hρ dst pos af g=>by
 cases dd <;> simp [XF] at hd <;> simp [execOp,hρ x _ hx,Instr.typeAssert,run_underlying ht]
theorem Y2{p:Prop}(b:Bool)(a:b=true->p)(h2:b=false->p):p:=by
 cases b
 ·exact h2 rfl
 ·exact a rfl
theorem Uo{f:FuncId}{args:List Operand}{vs:List Value}{at_:Array TypeId}{dst:Option Tmp}{fst cap:List Value}{fo:Operand}(hc:Ip P f)(hf:ev L fo=some (.func (.func f) fst.toArray cap.toArray))(ha:Qb L args=some vs)(ρ:Operand->Value)(hρ:WG L ρ):
  (execOp ρ ⟨dst,.call ⟨.value fo,args.toArray,at_⟩,ty,pos,af,none⟩).run P w=.ok (.enter f (fst++vs++cap).toArray) w:=by
 obtain ⟨fn, c, a, h2, h3⟩ := hc;have b := hρ.map _ _ ha;have h2' : ¬ fn.name = "runtime.NumGoroutine" := by simpa using h2
 simp [execOp,resolve,hρ fo _ hf,Deferred.ofValue,b,invoke,callFunc,a,h2',h3]
theorem AbT{f:FuncId}{args:List Operand}{vs:List Value}{at_:Array TypeId}(fst cap:List Value){fo:Operand}{R:Value->World->Prop}(hf:ev L fo=some (.func (.func f) fst.toArray cap.toArray))(ha:Qb L args=some vs)(hn:Nat.blt d n.n=true)(hok:Ok P f (fst++vs++cap) w R)
  (h:∀ v w',R v w'->S P n ops Q rest ((d,v)::L) w'):S P n ops Q (⟨some d,.call ⟨.value fo,args.toArray,at_⟩,ty,pos,af,none⟩::rest) L w:=
 QI rfl fun a fr=>by
  unfold Oper.wp;rw [Uo hok.1 hf ha _ fr.RC];refine hok.2.mono fun e w' ⟨v,he,hv⟩=>?_;subst he;exact h v w' hv _ (fr.put hn)
theorem ZW{f:FuncId}{args:List Operand}{vs:List Value}{at_:Array TypeId}(fst cap:List Value){fo:Operand}{R:Value->World->Prop}(hf:ev L fo=some (.func (.func f) fst.toArray cap.toArray))(ha:Qb L args=some vs)(hn:Nat.blt d n.n=true)(hL:Bd w0 O w)(hok:Ok P f (fst++vs++cap) w (fun v w'=>Ext w w'/\R v w'))
  (h:∀ v w',R v w'->Ext w w'->Bd w0 O w'->Le (fz w O) (fz w' O)->S P n ops Q rest ((d,v)::L) w'):S P n ops Q (⟨some d,.call ⟨.value fo,args.toArray,at_⟩,ty,pos,af,none⟩::rest) L w:=
 AbT fst cap hf ha hn hok fun v w' hh=>h v w' hh.2 hh.1 (hL.call hh.1) (AT hL hh.1)
theorem Ql{α:Type}{r:Option α}{f:FuncId}{args:List Operand}{vs:List Value}{at_:Array TypeId}(fst cap:List Value){fo:Operand}{R:World->α->Value->Prop}{N:World->Prop}(hf:ev L fo=some (.func (.func f) fst.toArray cap.toArray))(ha:Qb L args=some vs)(hn:Nat.blt d n.n=true)
  (hok:SA P f (fst++vs++cap) w pv (fun v w'=>Ua r v (R w') (N w'))) (b:r=none->∀ w',N w'->At n Q (.panic (Zc pv)) L w')
  (h:∀ y,r=some y->∀ v w',R w' y v->S P n ops Q rest ((d,v)::L) w'):S P n ops Q (⟨some d,.call ⟨.value fo,args.toArray,at_⟩,ty,pos,af,none⟩::rest) L w:=
 QI rfl fun a fr=>by
  unfold Oper.wp;rw [Uo hok.1 hf ha _ fr.RC];refine hok.2.mono fun e w' k=>?_
  cases e with
  | returned v=>
   cases r with
   | none=>exact k.elim
   | some y=>exact h y rfl v w' k _ (fr.put hn)
  | panicked c=>
   obtain⟨rfl,k⟩:=k
   cases r with
   | none=>exact b rfl w' k a fr
   | some y=>exact k.elim
  | outgrown=>exact k.elim
theorem Ad0{σ:Type}{c:Code}(I:σ->Env)(R:σ->World->Prop)(hx:W P n c (V9 n I R Q) L w)(hy:∀ s w',R s w'->At n Q .normal (I s) w'):W P n c Q L w:=fun a fr=>
 wp_mono (hx a fr) fun e a' w' q=>by
  cases e with
  | normal=>obtain⟨s,b,h2⟩:=q;exact hy s w' h2 a' b
  | _=>exact q
theorem JG{id:Nat}{l:List Oper}{m:Nat}(hq:HY Q)(Inv:World->World->Prop)(hm:P.follows .mixedOrders=true)(hl:l.length=m)(h:HY Q->∀ w',Ext w w'->Nw (Inv w') P n l Q m (NN m []) L w'):W P n (.region id l.toArray true) Q L w:=ZH Inv hm hl (h hq)
theorem Mp{Inv:World->Prop}{l:List Oper}{fuel:Nat}{listed:Array Bool}(hI:Inv w)(h:Inv w->Nw Inv P n l Q fuel listed L w):Nw Inv P n l Q fuel listed L w:=h hI
theorem AX{Inv:World->Prop}{l:List Oper}{fuel i m:Nat}{done:List Nat}(hI:Inv w)(h:Inv w->Nw Inv P n l Q fuel (NN m done) L w):S P n l.toArray (ZG Inv P l Q fuel i (NN m done)) [] L w:=Ads hI (h hI)
def SS(K L:Env):Bool:=K.all fun x=>(gt L x.1).isNone
theorem ZX{L:Env}{s:Nat}{u:Value}(hu:gt L s=some u):∀ K:Env,SS K L=true->gt (K++L) s=some u
 | [],_=>hu
 | (a,z)::K,h=>by
  simp only [SS,List.all_cons,Bool.and_eq_true] at h;have ih:=ZX hu K h.2
  have hne:Nat.beq a s=false:=by
   cases hb:Nat.beq a s with
   | false=>rfl
   | true=>
    have:=Nat.eq_of_beq_eq_true hb;rw [this,hu] at h;exact absurd h.1 (by simp)
  show(bif Nat.beq a s then some z else gt (K++L) s)=some u
  rw [hne];exact ih
theorem Fr.strip{a:Act}{L':Env}{v':Value}(k:Nat)(fr:Fr n a ((d,v')::L'))(hv:v=v')(hl:L'.drop k=L)(hk:SS (L'.take k) L=true):Fr n a ((d,v)::L):=by
 subst hv;refine⟨fr.size,fr.defers,fun s u hs=>fr.get s u ?_⟩;have e:L'=L'.take k++L:=by rw [<- hl,List.take_append_drop]
 rw [e];have hs':(bif Nat.beq d s then some v else gt L s)=some u:=hs
 show(bif Nat.beq d s then some v else gt (L'.take k++L) s)=some u
 cases hb:Nat.beq d s with
 | true=>rw [hb] at hs';exact hs'
 | false=>rw [hb] at hs';exact ZX hs' _ hk
theorem GP{l:List Oper}(m d:Nat)(v:Value)(hb:S P n ops Q (l.drop m) ((d,v)::L) w->S P n ops Q l L w)(h:S P n ops Q (l.drop m) ((d,v)::L) w):S P n ops Q l L w:=hb h
theorem S.to{l:List Oper}{L':Env}{v':Value}(hm:S P n ops Q l ((d,v)::L) w)(k:Nat)(hv:v=v')(hl:L'.drop k=L)(hk:SS (L'.take k) L=true):S P n ops Q l ((d,v')::L') w:=fun a fr=>hm a (fr.strip k hv hl hk)
def trq:Nat->Tr->Tr
 | 0,t=>t
 | m+1,.q _ t=>trq m t
 | _+1,t=>t
theorem Wc{l:List Oper}{t:Tr}(m d:Nat)(v:Value)(hb:D P n l Q (trq m t) ((d,v)::L) w->D P n l Q t L w)(h:D P n l Q (trq m t) ((d,v)::L) w):D P n l Q t L w:=hb h
theorem D.to{l:List Oper}{t:Tr}{L':Env}{v':Value}(hm:D P n l Q t ((d,v)::L) w)(k:Nat)(hv:v=v')(hl:L'.drop k=L)(hk:SS (L'.take k) L=true):D P n l Q t ((d,v')::L') w:=fun a fr=>hm a (fr.strip k hv hl hk)
section
variable {b c e:Bool}
theorem KK(h:b=true):Value.bool (b&&c)=.bool c:=by rw [h];rfl
theorem KL(h:b=false):Value.bool (b&&c)=.bool false:=by rw [h];rfl
theorem PN(h:b=true):Value.bool (b||c)=.bool true:=by rw [h];rfl
theorem PO(h:b=false):Value.bool (b||c)=.bool c:=by rw [h];rfl
end
end
end Go.E
end
noncomputable section
namespace Go.L
inductive Qv where
 | mk (kind:Int) (words:List (List UInt8)) (pattern data:List UInt8) (low high:Int) (subs:List Qv)
instance:Inhabited Qv:=⟨.mk 0 [] [] [] 0 0 []⟩
abbrev QvF:Type:=Int×List (List UInt8)×List UInt8×List UInt8×Int×Int×List Qv
def Qv.f:Qv->QvF
 | .mk k ws p d l h ss=>(k,ws,p,d,l,h,ss)
end Go.L
namespace Go.E
open Go Go.L
variable {α β:Type}
def Rp.Qm(r:Rp Qv):Rp QvF:=.pair (.int .i64) (.pair (.vec .st) (.pair .st (.pair (.vec .byte) (.pair (.int .i64) (.pair (.int .i64) (.vec r))))))
def Rp.J6:Nat->Rp Qv
 | 0=>.no Qv 7
 | d+1=>(Rp.Qm (Rp.J6 d)).via Qv.f
theorem Rp.Na:∀ d,(Rp.J6 d).sz=7
 | 0=>rfl
 | _+1=>rfl
theorem Rp.SU{r s:Rp Qv}{H:PH}{x:QvF}{c:List Value}(hz:r.sz=s.sz)(hrel:∀ y∈x.2.2.2.2.2.2,∀ c,r.rel H y c->s.rel H y c)(h:(Rp.Qm r).rel H x c):(Rp.Qm s).rel H x c:=by
 obtain⟨c1,c2,e,f,c3,c4,g,h2,c5,c6,i,h3,c7,c8,j,k,l,a,m,n,b,d,o,p,v,q,t⟩:=h;exact⟨c1,c2,e,f,c3,c4,g,h2,c5,c6,i,h3,c7,c8,j,k,l,a,m,n,b,d,o,p,v,q,t.ZI hz hrel⟩
theorem Rp.R1{H:PH}:∀ (d:Nat) (x:Qv) (c:List Value),(Rp.J6 d).rel H x c->(Rp.J6 (d+1)).rel H x c
 | 0,_,_,h=>h.elim
 | d+1,x,c,h=>Rp.SU (r:=Rp.J6 d) (s:=Rp.J6 (d+1)) (by rw [Rp.Na,Rp.Na]) (fun y _ c h=>Rp.R1 d y c h) h
theorem Rp.Up{H:PH}{d e:Nat}(h:d<=e){x:Qv}{c:List Value}(hx:(Rp.J6 d).rel H x c):(Rp.J6 e).rel H x c:=by
 induction h with
 | refl=>exact hx
 | step _ ih=>exact Rp.R1 _ _ _ ih
def Rp.Bg:Rp Qv:=⟨7,fun H x c=>∃ d,(Rp.J6 d).rel H x c,fun h=>by obtain⟨d,h⟩:=h;rw [(Rp.J6 d).len h,Rp.Na],fun hs h=>by obtain⟨d,h⟩:=h;exact⟨d,(Rp.J6 d).mono hs h⟩,fun h=>by obtain⟨d,h⟩:=h;exact(Rp.J6 d).one h⟩
theorem Rp.Dh{H:PH}{x:Qv}{c:List Value}(h:Rp.Bg.rel H x c):(Rp.Qm Rp.Bg).rel H x.f c:=by
 obtain⟨d,h⟩:=h
 cases d with
 | zero=>exact h.elim
 | succ d=>exact Rp.SU (r:=Rp.J6 d) (s:=Rp.Bg) (Rp.Na d) (fun y _ c h=>⟨d,h⟩) h
theorem AI.Ad1{H:PH}{v:Value}{l:List Qv}(h:AI Rp.Bg H v l):∃ d,AI (Rp.J6 d) H v l:=by
 obtain⟨a,cap,b,h2,h3,f,g⟩:=h.ex
 cases a with
 | none=>exact⟨0,none,cap,b,h2,h3,f,fun A hA=>by cases hA⟩
 | some A=>
  have key:∀ n,∃ d,∀ i x,i<n->l≠[]->l[i]? = some x->∃ c,(Rp.J6 d).rel H x c/\∀ j u,c[j]? = some u->G9 H (A.add (i * 7+j))=some u:=by
   intro n
   induction n with
   | zero=>exact⟨0,fun i x hi=>absurd hi (Nat.not_lt_zero i)⟩
   | succ n ih=>
    obtain⟨d,hd⟩:=ih
    by_cases hl:l=[]
    ·exact⟨0,fun i x _ hn=>absurd hl hn⟩
    cases hx:l[n]? with
    | none=>
     refine⟨d,fun i x hi hn he=>?_⟩
     rcases Nat.lt_succ_iff_lt_or_eq.1 hi with hi | rfl
     ·exact hd i x hi hn he
     ·rw [hx] at he
      cases he
    | some y=>
     obtain⟨c,⟨e,hc⟩,hcell⟩:=(g A rfl hl).2 n y hx;refine⟨max d e,fun i x hi hn he=>?_⟩
     rcases Nat.lt_succ_iff_lt_or_eq.1 hi with hi | rfl
     ·obtain⟨c',k,m⟩:=hd i x hi hn he;exact⟨c',Rp.Up (Nat.le_max_left ..) k,m⟩
     ·rw [hx] at he
      cases he
      exact⟨c,Rp.Up (Nat.le_max_right ..) hc,hcell⟩
  obtain⟨d,hd⟩:=key l.length;refine⟨d,some A,cap,b,h2,h3,f,fun B hB hl=>?_⟩
  cases hB
  refine⟨(g A rfl hl).1,fun i x hx=>?_⟩;rw [Rp.Na];exact hd i x (List.getElem?_eq_some_iff.1 hx).1 hl hx
theorem Rp.F4{H:PH}{x:Qv}{c:List Value}(h:(Rp.Qm Rp.Bg).rel H x.f c):Rp.Bg.rel H x c:=by
 obtain⟨c1,c2,g,i,c3,c4,j,h2,c5,c6,k,h3,c7,c8,l,m,n,a,o,p,b,e,q,r,v,s,t⟩:=h;obtain⟨d,hd⟩:=t.Ad1;exact⟨d+1,c1,c2,g,i,c3,c4,j,h2,c5,c6,k,h3,c7,c8,l,m,n,a,o,p,b,e,q,r,v,s,hd⟩
end Go.E
end
noncomputable section
namespace Go.Proofs.YtekmbcbgknmhiaaGreatDoor
open Go Go.E Go.RowKit Go.L
set_option maxHeartbeats 1000000
set_option maxRecDepth 10000
open _root_.Go.Proofs.Tryz
def ED(a0 a1 a2:Int):Option Bool:=
 some (decide ((a1<=a0)/\(a0<=a2)))
theorem DL(w:World)(H:PH)(_hH:Le H (hp w)){a0 a1 a2:Int}{r:Bool}(h:ED a0 a1 a2=some r):
  Ok prog 30 [No a0,No a1,No a2] w (fun v w'=>Ext w w'/\v=.bool r):=by
 refine A3 (n:=15) [(0,No a0),(1,No a1),(2,No a2)] func30 rfl fun hL=>AD 1 rfl<|Bi 4 rfl<|MS 3 3 rfl rfl rfl rfl rfl rfl<|A4 1 rfl<|Ax ?_
 cases h
 refine Ak rfl ⟨hL.ext,rfl⟩
def GA(a0 a1:Int):Option ((Int×Int)):=
 some ((a0,a1))
theorem FC(w:World)(H:PH)(_hH:Le H (hp w)){a0 a1:Int}{r:(Int×Int)}(h:GA a0 a1=some r):
  Ok prog 18 [No a0,No a1] w (fun v w'=>Ext w w'/\v=.agg #[No r.1,No r.2]):=by
 refine A3 (n:=8) [(0,No a0),(1,No a1)] func18 rfl fun hL=>Am<|AH AW rfl rfl hL fun e f b c _=>Ac<|Bi 2 rfl<|Ag (AR rfl (fun _=>OX _ _ _)) rfl<|Ah 0 rfl AW b rfl (Bc rfl) fun g a d=>Ac<|Ax ?_
 cases h
 refine BH rfl (.cell rfl Ack rfl AW (AL (i:=0) a rfl)) ⟨a.ext,rfl⟩
def Lp:Option Bool:=
 some true
def K6(a0:List Int)(a1:List Int):Int->Option ((Int) ⊕ (Bool)):=fun a=>
 if a<(a0.length:Int) then AS (0<=a/\a<(a0.length:Int)) (AS (0<=a/\a<(a1.length:Int)) (if a0.getD a.toNat default=a1.getD a.toNat default then AS (B0 (a+1)) (some (Sum.inl (a+1))) else none)) else Option.map Sum.inr Lp
def N6(a0:List Int)(a1:List Int)(s:Int):Option Bool:=Go.L.run (K6 a0 a1) s
def Pa(a0:List Int)(a1:List Int):Option Bool:=
 if(a0.length:Int)=(a1.length:Int) then(N6 a0 a1) (0:Int) else none
theorem UW(w:World)(H:PH)(hH:Le H (hp w)){a0 a1:List Int}{b c:Value}(d:AI (.int .i64) H b a0)(f:AI (.int .i64) H c a1){r:Bool}(h:Pa a0 a1=some r):
  Ok prog 26 [b,c] w (fun v w'=>Ext w w'/\v=.bool r):=by
 refine A3 (n:=26) [(0,b),(1,c)] func26 rfl fun hL=>AD 1 rfl<|A7<|Bi 1 rfl<|Ag (Bu rfl Abm d) rfl<|As 1 rfl<|Ag (Bu rfl Abm f) rfl<|A4 1 rfl<|BV rfl h (fun aa h=>?_) (fun aa h=>?_)
 ·cases h
 refine Av<|Ao<|Bo (σ:=Unit) (fun(_:Unit)=>[]) (fun(_:Unit) wr=>Bd w [] wr/\Lp=some r) ?_ ?_
 ·refine AD 1 rfl<|A5 ?_;obtain⟨g,h⟩:=AZ h;refine Bx (σ:=Int×Nat) (fun⟨a,n⟩=>[(0,b),(1,c),(5,No a)]) (fun⟨a,n⟩ wr=>Bd w [] wr/\F6 (K6 a0 a1) n a=some r) (fun⟨a,n⟩=>n) (0,g) (Sub.of rfl) ⟨hL,h⟩ ?_;rintro⟨a,nn57⟩ ab ⟨i,h⟩;obtain⟨g,ad,rfl,h,j⟩:=AY h;refine A7<|Bi 2 rfl<|Ag (Bu rfl Abm d) rfl<|A4 1 rfl<|AM rfl h (fun m h=>?_) (fun m h=>?_)
  ·refine Av<|Ao<|A7<|A5<|DD (.q 0 (.q 1 (.q 2 (.q 3 (.q 4 (.q 5 (.q 6 (.q 7 (.q 8 (.tail 9)))))))))) mixed (by kernel_rfl) (fun ae o=>?_);have e:=i.call o;refine Df 2 rfl<|Az h fun k h=>HX rfl rfl rfl Abm Cj d a.toNat (EX k) (Ba k) rfl ?_;rintro af _ rfl p;refine BQ (Bj rfl Abn rfl p (hH.trans e.arg)) rfl rfl<|Df 2 rfl<|Az h fun l h=>HX rfl rfl rfl Abm Cj f a.toNat (EX l) (Ba l) rfl ?_;rintro ag _ rfl s;refine BQ (Bj rfl Abn rfl s (hH.trans e.arg)) rfl rfl<|Df 1 rfl<|Cd (fun ah t=>?_);have u:=e.call t;refine Ac<|BV rfl h (fun x h=>?_) (fun x h=>?_)
   ·cases h
   refine Av<|AF<|Ao<|Aw<|As 1 rfl<|Az h fun y h=>Ag (A1 rfl y) rfl<|As 1 rfl<|AK ?_;have h:=BP.again h j;refine AN ((a+1),g) (Sub.of rfl) ⟨u,h⟩ (Nat.lt_succ_self _)
  refine Br<|AG<|A6 ?_;have h:=BP.out h j;refine Be<|A8 () (Sub.nil _) ⟨i,h⟩
 rintro _ ac ⟨z,h⟩;refine AD 1 rfl<|Ax ?_
 cases h
 refine Ak rfl ⟨z.ext,rfl⟩
def GQ(a0:Abk)(a1:Abk):Option Bool:=
 some (decide (a0=a1))
theorem Mq(w:World)(H:PH)(hH:Le H (hp w)){a0 a1:Abk}{a b:Value}(c:AI .byte H a a0)(d:AI .byte H b a1){r:Bool}(h:GQ a0 a1=some r):
  Ok prog 31 [a,b] w (fun v w'=>Ext w w'/\v=.bool r):=by
 refine A3 (n:=10) [(0,a),(1,b)] func31 rfl fun hL=>AD 1 rfl<|Bi 1 rfl<|Ag (KJ rfl AbF Ac5 Ab1 c (hH.trans hL.arg)) rfl<|As 1 rfl<|Ag (KJ rfl AbF Ac5 Ab1 d (hH.trans hL.arg)) rfl<|Ag (Mm rfl rfl) rfl<|A4 1 rfl<|Ax ?_
 cases h
 refine Ak rfl ⟨hL.ext,rfl⟩
def HL(a0:Int):Option UInt8:=
 if a0<10 then AS (B0 (48+a0)) (some ((Go.L.u8 (48+a0)))) else AS (B0 (97+a0)) (AS (B0 ((97+a0) - 10)) (some ((Go.L.u8 ((97+a0) - 10)))))
theorem Nc(w:World)(H:PH)(_hH:Le H (hp w)){a0:Int}{r:UInt8}(h:HL a0=some r):
  Ok prog 71 [No a0] w (fun v w'=>Ext w w'/\v=.int .u8 (r.toNat:Int)):=by
 refine A3 (n:=12) [(0,No a0)] func71 rfl fun hL=>AD 1 rfl<|A7<|AD 2 rfl<|AM rfl h (fun a h=>?_) (fun a h=>?_)
 ·refine Bi 1 rfl<|Az h fun b h=>Ag (A1 rfl b) rfl<|Ag (DE Abn Ac5 rfl (Hm _)) rfl<|A4 1 rfl<|Ax<|An ?_
  cases h
  refine Ak rfl ⟨hL.ext,rfl⟩
 refine Av<|Ao<|Bi 1 rfl<|Az h fun c h=>Ag (A1 rfl c) rfl<|Az h fun d h=>Ag (A1 rfl d) rfl<|Ag (DE Abn Ac5 rfl (Hm _)) rfl<|A4 1 rfl<|Ax ?_
 cases h
 refine Ak rfl ⟨hL.ext,rfl⟩
def LM(a0:Abk):Option Bool:=
 Option.bind (ED (a0.length:Int) (1:Int) (32:Int)) (fun a=>some a)
def CV(a0:Abk):Int->Option ((Int) ⊕ (Bool)):=fun a=>
 if a<(a0.length:Int) then AS (0<=a/\a<(a0.length:Int)) (Option.bind (ED ((a0.getD a.toNat default).toNat:Int) (97:Int) (122:Int)) (fun b=>if !b then if a=0 then Option.map Sum.inr (some false) else Option.bind (ED ((a0.getD a.toNat default).toNat:Int) (48:Int) (57:Int)) (fun c=>if !c then if((a0.getD a.toNat default).toNat:Int)=45 then AS (B0 (a+1)) (some (Sum.inl (a+1))) else if((a0.getD a.toNat default).toNat:Int)=95 then AS (B0 (a+1)) (some (Sum.inl (a+1))) else if((a0.getD a.toNat default).toNat:Int)=46 then AS (B0 (a+1)) (some (Sum.inl (a+1))) else Option.map Sum.inr (some false) else AS (B0 (a+1)) (some (Sum.inl (a+1)))) else AS (B0 (a+1)) (some (Sum.inl (a+1))))) else Option.map Sum.inr ((LM a0))
def Ox(a0:Abk)(s:Int):Option Bool:=Go.L.run (CV a0) s
def Mr(a0:Abk):Option Bool:=
 (Ox a0) (0:Int)
theorem SV(w:World)(H:PH)(hH:Le H (hp w)){a0:Abk}{r:Bool}(h:Mr a0=some r):
  Ok prog 214 [Abj a0] w (fun v w'=>Ext w w'/\v=.bool r):=by
 refine A3 (n:=42) [(0,(Abj a0))] func214 rfl fun hL=>AD 1 rfl<|Bo (σ:=Unit) (fun(_:Unit)=>[(0,(Abj a0))]) (fun(_:Unit) wr=>Bd w [] wr/\(LM a0)=some r) ?_ ?_
 ·refine AD 1 rfl<|A5 ?_;obtain⟨i,h⟩:=AZ h;refine Bx (σ:=Int×Nat) (fun⟨c,n⟩=>[(0,(Abj a0)),(3,No c)]) (fun⟨c,n⟩ wr=>Bd w [] wr/\F6 (CV a0) n c=some r) (fun⟨c,n⟩=>n) (0,i) (Sub.of rfl) ⟨hL,h⟩ ?_;rintro⟨c,nn102⟩ ah ⟨l,h⟩;obtain⟨i,al,rfl,h,d⟩:=AY h;refine A7<|Bi 2 rfl<|Ag (Cv rfl Ab1) rfl<|A4 1 rfl<|AM rfl h (fun o h=>?_) (fun o h=>?_)
  ·refine Av<|Ao<|A7<|A5<|Bi 2 rfl<|Az h fun p h=>Ag (Dz rfl rfl Ab1 p) rfl<|Ag (DE Ac5 Abn rfl (EB _)) rfl<|A4 1 rfl<|Bi 1 rfl<|Ay h fun am q h=>AA rfl rfl l (DL _ _ (Ar hH l) q) fun an ai k ae=>As 2 rfl<|AP (s:=18) rfl (fun b=>?_) (fun b=>?_)
   ·have h:=HA b h;refine Aa rfl b<|Ag (Ad rfl) rfl<|Aa rfl b<|Ag (Ad rfl) rfl<|Aa rfl b<|Ag (Ad rfl) rfl<|AP (s:=21) rfl (fun a=>?_) (fun a=>?_)
    ·have h:=BI (of_decide_eq_true a) h
     iterate 4 refine Ai rfl a rfl ?_
     iterate 2 refine Cl rfl rfl rfl ?_
     iterate 2 refine Ai rfl a rfl ?_
     iterate 2 refine Cl rfl rfl rfl ?_
     iterate 2 refine Ai rfl a rfl ?_
     iterate 2 refine Cl rfl rfl rfl ?_
     refine Ai rfl a rfl<|Aa rfl b<|Ag (A2 rfl a rfl) rfl<|Ag (A2 rfl b rfl) rfl<|Ac<|Cg rfl<|AD 1 rfl<|Ax<|Aq<|An<|By ?_;have h:=BP.out h d;refine Aq<|Bs ?_
     cases h
     refine Ak rfl ⟨k.ext,rfl⟩
    have h:=BJ (of_decide_eq_false a) h;refine Aa rfl a<|Ag (Ad rfl) rfl<|Aa rfl a<|Ay h fun ao t h=>AA rfl rfl k (DL _ _ (Ar hH k) t) fun ap aj j af=>Aa rfl a<|Ag (Ad rfl) rfl<|Aa rfl a<|Ag (Ad rfl) rfl<|AP (s:=25) rfl (fun e=>?_) (fun e=>?_)
    ·have h:=HA e h;refine Aa rfl e<|Ag (Ad rfl) rfl<|Aa rfl e<|Ag (Ad rfl) rfl<|Aa rfl a<|Ag (A2 rfl e rfl) rfl<|Aa rfl a<|Ag (Ad rfl) rfl<|AP (s:=29) rfl (fun f=>?_) (fun f=>?_)
     ·have h:=BJ (CG f) h;refine Aa rfl f<|Ag (Ad rfl) rfl<|Aa rfl f<|Ag (Ad rfl) rfl<|Aa rfl a<|Ag (A2 rfl f rfl) rfl<|Aa rfl a<|Ag (Ad rfl) rfl<|AP (s:=33) rfl (fun g=>?_) (fun g=>?_)
      ·have h:=BJ (CG g) h;refine Aa rfl g<|Ag (Ad rfl) rfl<|Aa rfl g<|Ag (Ad rfl) rfl<|Aa rfl a<|Ag (A2 rfl g rfl) rfl<|Aa rfl b<|Ag (A9 rfl a rfl) rfl<|Ag (A2 rfl b rfl) rfl<|Ac<|BV rfl h (fun u h=>?_) (fun u h=>?_)
       ·refine AD 1 rfl<|Ax<|Aq<|An<|By ?_;have h:=BP.out h d;refine Aq<|Bs ?_
        cases h
        refine Ak rfl ⟨j.ext,rfl⟩
       refine Av<|AF<|Ao<|Aw<|As 1 rfl<|Az h fun x h=>Ag (A1 rfl x) rfl<|As 1 rfl<|AK ?_;have h:=BP.again h d;refine AN ((c+1),i) (Sub.of rfl) ⟨j,h⟩ (Nat.lt_succ_self _)
      have h:=BI (CH g) h
      iterate 2 refine Ai rfl g rfl ?_
      refine Aa rfl a<|Ag (A9 rfl g rfl) rfl<|Aa rfl b<|Ag (A9 rfl a rfl) rfl<|Ag (A2 rfl b rfl) rfl<|Ac<|Cr rfl<|Av<|AF<|Ao<|Aw<|As 1 rfl<|Az h fun y h=>Ag (A1 rfl y) rfl<|As 1 rfl<|AK ?_;have h:=BP.again h d;refine AN ((c+1),i) (Sub.of rfl) ⟨j,h⟩ (Nat.lt_succ_self _)
     have h:=BI (CH f) h
     iterate 2 refine Ai rfl f rfl ?_
     refine Aa rfl a<|Ag (A9 rfl f rfl) rfl<|Aa rfl a<|Ag (Ad rfl) rfl ?_
     iterate 2 refine Ai rfl rfl rfl ?_
     refine Aa rfl a<|Ag (A9 rfl rfl rfl) rfl<|Aa rfl b<|Ag (A9 rfl a rfl) rfl<|Ag (A2 rfl b rfl) rfl<|Ac<|Cr rfl<|Av<|AF<|Ao<|Aw<|As 1 rfl<|Az h fun z h=>Ag (A1 rfl z) rfl<|As 1 rfl<|AK ?_;have h:=BP.again h d;refine AN ((c+1),i) (Sub.of rfl) ⟨j,h⟩ (Nat.lt_succ_self _)
    have h:=HB e h
    iterate 2 refine Ai rfl e rfl ?_
    refine Aa rfl a<|Ag (A9 rfl e rfl) rfl<|Aa rfl a<|Ag (Ad rfl) rfl ?_
    iterate 2 refine Ai rfl rfl rfl ?_
    refine Aa rfl a<|Ag (A9 rfl rfl rfl) rfl<|Aa rfl a<|Ag (Ad rfl) rfl ?_
    iterate 2 refine Ai rfl rfl rfl ?_
    refine Aa rfl a<|Ag (A9 rfl rfl rfl) rfl<|Aa rfl b<|Ag (A9 rfl a rfl) rfl<|Ag (A2 rfl b rfl) rfl<|Ac<|Cr rfl<|Av<|AF<|Ao<|Aw<|As 1 rfl<|Az h fun aa h=>Ag (A1 rfl aa) rfl<|As 1 rfl<|AK ?_;have h:=BP.again h d;refine AN ((c+1),i) (Sub.of rfl) ⟨j,h⟩ (Nat.lt_succ_self _)
   have h:=HB b h
   iterate 3 refine Ai rfl b rfl ?_
   iterate 15 refine Cl rfl rfl rfl ?_
   refine Ai rfl b rfl<|Ag (A9 rfl b rfl) rfl<|Ac<|Cr rfl<|Av<|AF<|Ao<|Aw<|As 1 rfl<|Az h fun ab h=>Ag (A1 rfl ab) rfl<|As 1 rfl<|AK ?_;have h:=BP.again h d;refine AN ((c+1),i) (Sub.of rfl) ⟨k,h⟩ (Nat.lt_succ_self _)
  refine Br<|AG<|A6 ?_;have h:=BP.out h d;refine Be<|A8 () (Sub.of rfl) ⟨l,h⟩
 rintro _ aq ⟨m,h⟩;refine Bi 1 rfl<|Ag (Cv rfl Ab1) rfl<|Ay h fun ar ac h=>AA rfl rfl m (DL _ _ (Ar hH m) ac) fun au ak ad ag=>A4 1 rfl<|Ax ?_
 cases h
 refine Ak rfl ⟨ad.ext,rfl⟩
def P8(a:List Abk):Option ((List Abk)):=
 some a
def Ds(a0:Abk):(List Abk)×Int×Int->Option (((List Abk)×Int×Int) ⊕ ((List Abk))):=fun⟨c,b,a⟩=>
 if a<=(a0.length:Int) then(if a=(a0.length:Int) then AS (0<=b/\b<=a/\a<=(a0.length:Int)) (AS (Go.E.J3 16 (c.length+([((a0.drop b.toNat).take (a.toNat - b.toNat))]).length)) (AS (B0 (a+1)) (AS (B0 (a+1)) (some (Sum.inl ((c++[((a0.drop b.toNat).take (a.toNat - b.toNat))]),(a+1),(a+1))))))) else AS (0<=a/\a<(a0.length:Int)) (if((a0.getD a.toNat default).toNat:Int)=47 then AS (0<=b/\b<=a/\a<=(a0.length:Int)) (AS (Go.E.J3 16 (c.length+([((a0.drop b.toNat).take (a.toNat - b.toNat))]).length)) (AS (B0 (a+1)) (AS (B0 (a+1)) (some (Sum.inl ((c++[((a0.drop b.toNat).take (a.toNat - b.toNat))]),(a+1),(a+1))))))) else AS (B0 (a+1)) (some (Sum.inl (c,b,(a+1)))))) else Option.map Sum.inr (P8 c)
def TH(a0:Abk)(s:(List Abk)×Int×Int):Option ((List Abk)):=Go.L.run (Ds a0) s
def N7(a0:Abk):Option ((List Abk)):=
 if a0=([]:Abk) then some ([]) else(TH a0) (([]:List Abk),0,0)
theorem TI(w:World)(H:PH)(hH:Le H (hp w)){a0:Abk}{r:(List Abk)}(h:N7 a0=some r):
  Ok prog 153 [Abj a0] w (fun v w'=>Ext w w'/\∃ u0,v=u0/\BN 9 .st H w w' u0 r):=by
 refine A3 (n:=34) [(0,(Abj a0))] func153 rfl fun hL=>AD 1 rfl<|A7<|Bi 1 rfl<|Ag (Mm rfl rfl) rfl<|Ac<|AM rfl h (fun a2 h=>?_) (fun a2 h=>?_)
 ·refine AD 1 rfl<|Ax<|An ?_
  cases h
  refine Ak rfl ⟨hL.ext,_,rfl,BN.nil⟩
 refine Av<|Ao<|Bi 1 rfl ?_;obtain⟨a3,a9,a4⟩:=C0 .st H 9 hL;refine Ac<|AD 1 rfl<|Bo (σ:=(List Abk)×Value×(List Value)) (fun⟨q,k,j⟩=>[(3,k)]) (fun⟨q,k,j⟩ wr=>DF w [.row k 9 1 (q).length j] wr fun Oz=>AJ .st (gz H w wr Oz) q j/\P8 q=some r) ?_ ?_
 ·refine AD 1 rfl<|A5 ?_;obtain⟨t,h⟩:=AZ h;refine Bx (σ:=(List Abk)×Int×Int×Value×(List Value)×Nat) (fun⟨f,a,b,g,e,n⟩=>[(0,(Abj a0)),(3,g),(4,No a),(5,No b)]) (fun⟨f,a,b,g,e,n⟩ wr=>DF w [.row g 9 1 (f).length e] wr fun Oz=>AJ .st (gz H w wr Oz) f e/\F6 (Ds a0) n (f,a,b)=some r) (fun⟨f,a,b,g,e,n⟩=>n) (([]:List Abk),0,0,Aa8,[],t) (Sub.of rfl) ⟨a3,a4,h⟩ ?_;rintro⟨f,a,b,g,e,nn93⟩ ba ⟨o,c,h⟩;obtain⟨t,bi,rfl,h,p⟩:=AY h;refine A7<|Bi 2 rfl<|Ag (Cv rfl Ab1) rfl<|A4 1 rfl<|AM rfl h (fun ax h=>?_) (fun ax h=>?_)
  ·refine Av<|Ao<|A7<|A5<|Bi 2 rfl<|Ag (Cv rfl Ab1) rfl<|As 2 rfl<|AP (s:=18) rfl (fun d=>?_) (fun d=>?_)
   ·have h:=BI (of_decide_eq_true d) h
    iterate 4 refine Ai rfl d rfl ?_
    refine Ag (A2 rfl d rfl) rfl<|Ac<|Cg rfl<|Bi 4 rfl<|Az h fun z h=>Ag (LG rfl rfl rfl Ab1 z) rfl<|Bp (r:=.st) (l:=[((a0.drop a.toNat).take (b.toNat - a.toNat))]) rfl (fun _=>N1 _ rfl _) rfl (leMax 1) hH o (.c1 rfl .nil) fun bb bc a7 aa u ab=>Az h fun ac h=>?_;have c:=c.mono (Ab hH u);refine Bt (r:=.st) (l:=f) (m:=[((a0.drop a.toNat).take (b.toNat - a.toNat))]) 0 rfl rfl Ac7 EZ rfl (by decide) rfl hH aa rfl c ab ac fun ay bd ad ae a5 af=>A4 1 rfl<|Aw<|As 1 rfl<|Az h fun ag h=>Ag (A1 rfl ag) rfl<|As 1 rfl<|AK<|AF<|Ao<|Aw<|As 1 rfl<|Az h fun ah h=>Ag (A1 rfl ah) rfl<|As 1 rfl<|AK ?_;have h:=BP.again h p;refine AN ((f++[((a0.drop a.toNat).take (b.toNat - a.toNat))]),(b+1),(b+1),ay,ad,t) (Sub.of rfl) ⟨ae,af,h⟩ (Nat.lt_succ_self _)
   have h:=BJ (of_decide_eq_false d) h;refine Aa rfl d<|Ag (Ad rfl) rfl<|Aa rfl d<|Ag (Ad rfl) rfl<|Aa rfl d<|Az h fun ai h=>Ag (Dz rfl rfl Ab1 ai) rfl<|Aa rfl d<|Ag (Ad rfl) rfl<|Ag (A9 rfl d rfl) rfl<|Ac<|AM rfl h (fun aj h=>?_) (fun aj h=>?_)
   ·refine Bi 4 rfl<|Az h fun ak h=>Ag (LG rfl rfl rfl Ab1 ak) rfl<|Bp (r:=.st) (l:=[((a0.drop a.toNat).take (b.toNat - a.toNat))]) rfl (fun _=>N1 _ rfl _) rfl (leMax 1) hH o (.c1 rfl .nil) fun be bf a8 al x am=>Az h fun an h=>?_;have c:=c.mono (Ab hH x);refine Bt (r:=.st) (l:=f) (m:=[((a0.drop a.toNat).take (b.toNat - a.toNat))]) 0 rfl rfl Ac7 EZ rfl (by decide) rfl hH al rfl c am an fun az bg ao ap a6 aq=>A4 1 rfl<|Aw<|As 1 rfl<|Az h fun ar h=>Ag (A1 rfl ar) rfl<|As 1 rfl<|AK<|AF<|Ao<|Aw<|As 1 rfl<|Az h fun au h=>Ag (A1 rfl au) rfl<|As 1 rfl<|AK ?_;have h:=BP.again h p;refine AN ((f++[((a0.drop a.toNat).take (b.toNat - a.toNat))]),(b+1),(b+1),az,ao,t) (Sub.of rfl) ⟨ap,aq,h⟩ (Nat.lt_succ_self _)
   refine Av<|AF<|Ao<|Aw<|As 1 rfl<|Az h fun av h=>Ag (A1 rfl av) rfl<|As 1 rfl<|AK ?_;have h:=BP.again h p;refine AN (f,a,(b+1),g,e,t) (Sub.of rfl) ⟨o,c,h⟩ (Nat.lt_succ_self _)
  refine Br<|AG<|A6 ?_;have h:=BP.out h p;refine Be<|A8 (f,g,e) (Sub.of rfl) ⟨o,c,h⟩
 rintro⟨q,k,j⟩ bh ⟨y,aw,h⟩;refine AD 2 rfl<|Ax ?_
 cases h
 refine Ak rfl ⟨y.ext,_,rfl,(y.Ge hH (i:=0) rfl aw)⟩
def P9:Option Int:=
 some ((-1))
def FD(a1:Bool)(c:(List Abk)):Int×Int->Option ((Int×Int) ⊕ (Int)):=fun⟨b,a⟩=>
 if a<(c.length:Int) then AS (0<=a/\a<(c.length:Int)) (Option.bind (Mr (c.getD a.toNat default)) (fun d=>if !d then AS (0<=a/\a<(c.length:Int)) (if c.getD a.toNat default=([35]:Abk) then AS (0<=a/\a<(c.length:Int)) (AS (B0 (b+((c.getD a.toNat default).length:Int))) (AS (B0 ((b+((c.getD a.toNat default).length:Int))+1)) (AS (B0 (a+1)) (some (Sum.inl (((b+((c.getD a.toNat default).length:Int))+1),(a+1))))))) else if a1 then AS (0<=a/\a<(c.length:Int)) (if c.getD a.toNat default=([42]:Abk) then AS (0<=a/\a<(c.length:Int)) (AS (B0 (b+((c.getD a.toNat default).length:Int))) (AS (B0 ((b+((c.getD a.toNat default).length:Int))+1)) (AS (B0 (a+1)) (some (Sum.inl (((b+((c.getD a.toNat default).length:Int))+1),(a+1))))))) else AS (0<=a/\a<(c.length:Int)) (if c.getD a.toNat default=([42,42]:Abk) then AS (0<=a/\a<(c.length:Int)) (AS (B0 (b+((c.getD a.toNat default).length:Int))) (AS (B0 ((b+((c.getD a.toNat default).length:Int))+1)) (AS (B0 (a+1)) (some (Sum.inl (((b+((c.getD a.toNat default).length:Int))+1),(a+1))))))) else Option.map Sum.inr (some b))) else Option.map Sum.inr (some b)) else AS (0<=a/\a<(c.length:Int)) (AS (B0 (b+((c.getD a.toNat default).length:Int))) (AS (B0 ((b+((c.getD a.toNat default).length:Int))+1)) (AS (B0 (a+1)) (some (Sum.inl (((b+((c.getD a.toNat default).length:Int))+1),(a+1))))))))) else Option.map Sum.inr P9
def TJ(a1:Bool)(a:(List Abk))(s:Int×Int):Option Int:=Go.L.run (FD a1 a) s
def LN(a0:Abk)(a1:Bool):Option Int:=
 Option.bind (N7 a0) (fun a=>(TJ a1 a) (0,0))
theorem PA(w:World)(H:PH)(hH:Le H (hp w)){a0:Abk}{a1:Bool}{r:Int}(h:LN a0 a1=some r):
  Ok prog 164 [Abj a0,.bool a1] w (fun v w'=>Ext w w'/\v=No r):=by
 refine A3 (n:=56) [(0,(Abj a0)),(1,.bool a1)] func164 rfl fun hL=>AD 1 rfl<|Bi 1 rfl<|Ay h fun x1 a6 h=>Bn rfl rfl hL (TI _ _ (Ar hH hL) a6) ?_;rintro ab w2 ⟨_,rfl,ac⟩ a7 a8 bc;have ad:=ac.Cz hH hL a7;refine A4 1 rfl<|AD 1 rfl<|Bo (σ:=Unit) (fun(_:Unit)=>[]) (fun(_:Unit) wr=>Bd w [] wr/\P9=some r) ?_ ?_
 ·refine AD 1 rfl<|A5 ?_;obtain⟨k,h⟩:=AZ h;refine Bx (σ:=Int×Int×Nat) (fun⟨f,a,n⟩=>[(1,.bool a1),(5,ab),(6,No f),(7,No a)]) (fun⟨f,a,n⟩ wr=>DF w [] wr fun Oz=>AI .st (gz H w wr Oz) ab x1/\F6 (FD a1 x1) n (f,a)=some r) (fun⟨f,a,n⟩=>n) (0,0,k) (Sub.of rfl) ⟨a8,ad,h⟩ ?_;rintro⟨f,a,nn157⟩ a9 ⟨l,b,h⟩;obtain⟨k,bd,rfl,h,j⟩:=AY h;refine A7<|Bi 2 rfl<|Ag (Bu rfl Ac7 b) rfl<|A4 1 rfl<|AM rfl h (fun ae h=>?_) (fun ae h=>?_)
  ·refine Av<|Ao<|A7<|A5<|A7<|Bi 2 rfl<|Az h fun o h=>Bf rfl rfl Ac7 EZ b a.toNat (EX o) (Ba o) rfl ?_;rintro be _ rfl af;refine Ag (Bj rfl Ab1 rfl af (Ar hH l)) rfl<|Ay h fun bf ag h=>AA rfl rfl l (SV _ _ (Ar hH l) ag) fun bg ba e m=>As 2 rfl<|AP (s:=22) rfl (fun g=>?_) (fun g=>?_)
   ·have h:=HA g h;refine Aa rfl g<|Ag (Ad rfl) rfl<|Aa rfl g<|Ag (Ad rfl) rfl<|Aa rfl g<|Az h fun p h=>?_;have b:=b.mono (Ab hH m);refine Bf rfl rfl Ac7 EZ b a.toNat (EX p) (Ba p) rfl ?_;rintro bh _ rfl ah;refine Aa rfl g<|Ag (Bj rfl Ab1 rfl ah (Ar hH e)) rfl<|Aa rfl g<|Ag (Mn rfl rfl) rfl<|Ag (A2 rfl g rfl) rfl<|As 1 rfl<|AP (s:=29) rfl (fun c=>?_) (fun c=>?_)
    ·have h:=BJ (CG c) h;refine Aa rfl c<|Ag (Ad rfl) rfl<|Aa rfl c<|Ag (Ad rfl) rfl<|AP (s:=31) rfl (fun d=>?_) (fun d=>?_)
     ·have h:=HA d h;refine Aa rfl d<|Ag (Ad rfl) rfl<|Aa rfl d<|Ag (Ad rfl) rfl<|Aa rfl d<|Az h fun q h=>Bf rfl rfl Ac7 EZ b a.toNat (EX q) (Ba q) rfl ?_;rintro bi _ rfl ai;refine Aa rfl d<|Ag (Bj rfl Ab1 rfl ai (Ar hH e)) rfl<|Aa rfl d<|Ag (Mm rfl rfl) rfl<|Aa rfl d<|Ag (Ad rfl) rfl<|AP (s:=37) rfl (fun i=>?_) (fun i=>?_)
      ·have h:=BI (of_decide_eq_true i) h
       iterate 5 refine Ai rfl i rfl ?_
       refine Aa rfl d<|Ag (A2 rfl i rfl) rfl<|Aa rfl c<|Ag (A2 rfl d rfl) rfl<|Aa rfl c<|Ag (Ad rfl) rfl<|Ag (A2 rfl c rfl) rfl<|Ac<|Cr rfl<|Av<|Ao<|Aw<|As 3 rfl<|Az h fun t h=>Bf rfl rfl Ac7 EZ b a.toNat (EX t) (Ba t) rfl ?_;rintro bj _ rfl aj;refine Ag (Bj rfl Ab1 rfl aj (Ar hH e)) rfl<|Ag (Cv rfl Ab1) rfl<|Az h fun ak h=>Ag (A1 rfl ak) rfl<|Az h fun al h=>Ag (A1 rfl al) rfl<|As 1 rfl<|AK<|AF<|Ao<|Aw<|As 1 rfl<|Az h fun am h=>Ag (A1 rfl am) rfl<|As 1 rfl<|AK ?_;have h:=BP.again h j;refine AN (((f+((x1.getD a.toNat default).length:Int))+1),(a+1),k) (Sub.of rfl) ⟨e,b,h⟩ (Nat.lt_succ_self _)
      have h:=BJ (of_decide_eq_false i) h;refine Aa rfl i<|Ag (Ad rfl) rfl<|Aa rfl i<|Ag (Ad rfl) rfl<|Aa rfl i<|Az h fun u h=>Bf rfl rfl Ac7 EZ b a.toNat (EX u) (Ba u) rfl ?_;rintro bk _ rfl an;refine Aa rfl i<|Ag (Bj rfl Ab1 rfl an (Ar hH e)) rfl<|Aa rfl i<|Ag (Mm rfl rfl) rfl<|Aa rfl d<|Ag (A9 rfl i rfl) rfl<|Aa rfl c<|Ag (A2 rfl d rfl) rfl<|Aa rfl c<|Ag (Ad rfl) rfl<|Ag (A2 rfl c rfl) rfl<|Ac<|BV rfl h (fun ao h=>?_) (fun ao h=>?_)
      ·refine AD 2 rfl<|Ax<|An<|Aq<|An<|By ?_;have h:=BP.out h j;refine Aq<|Bs ?_
       cases h
       refine Ak rfl ⟨e.ext,rfl⟩
      refine Av<|Ao<|Aw<|As 3 rfl<|Az h fun x h=>Bf rfl rfl Ac7 EZ b a.toNat (EX x) (Ba x) rfl ?_;rintro bl _ rfl ap;refine Ag (Bj rfl Ab1 rfl ap (Ar hH e)) rfl<|Ag (Cv rfl Ab1) rfl<|Az h fun aq h=>Ag (A1 rfl aq) rfl<|Az h fun ar h=>Ag (A1 rfl ar) rfl<|As 1 rfl<|AK<|AF<|Ao<|Aw<|As 1 rfl<|Az h fun au h=>Ag (A1 rfl au) rfl<|As 1 rfl<|AK ?_;have h:=BP.again h j;refine AN (((f+((x1.getD a.toNat default).length:Int))+1),(a+1),k) (Sub.of rfl) ⟨e,b,h⟩ (Nat.lt_succ_self _)
     have h:=HB d h
     iterate 6 refine Ai rfl d rfl ?_
     iterate 5 refine Cl rfl rfl rfl ?_
     refine Ai rfl d rfl<|Aa rfl c<|Ag (A9 rfl d rfl) rfl<|Aa rfl c<|Ag (Ad rfl) rfl<|Ag (A2 rfl c rfl) rfl<|Ac<|Cg rfl<|AD 2 rfl<|Ax<|An<|Aq<|An<|By ?_;have h:=BP.out h j;refine Aq<|Bs ?_
     cases h
     refine Ak rfl ⟨e.ext,rfl⟩
    have h:=BI (CH c) h
    iterate 2 refine Ai rfl c rfl ?_
    iterate 12 refine Cl rfl rfl rfl ?_
    iterate 2 refine Ai rfl c rfl ?_
    refine Ag (A9 rfl c rfl) rfl<|Ac<|Cr rfl<|Av<|Ao<|Aw<|As 3 rfl<|Az h fun y h=>Bf rfl rfl Ac7 EZ b a.toNat (EX y) (Ba y) rfl ?_;rintro bm _ rfl av;refine Ag (Bj rfl Ab1 rfl av (Ar hH e)) rfl<|Ag (Cv rfl Ab1) rfl<|Az h fun aw h=>Ag (A1 rfl aw) rfl<|Az h fun ax h=>Ag (A1 rfl ax) rfl<|As 1 rfl<|AK<|AF<|Ao<|Aw<|As 1 rfl<|Az h fun ay h=>Ag (A1 rfl ay) rfl<|As 1 rfl<|AK ?_;have h:=BP.again h j;refine AN (((f+((x1.getD a.toNat default).length:Int))+1),(a+1),k) (Sub.of rfl) ⟨e,b,h⟩ (Nat.lt_succ_self _)
   have h:=HB g h
   iterate 5 refine Ai rfl g rfl ?_
   refine Ag (A9 rfl g rfl) rfl<|As 1 rfl ?_
   iterate 2 refine Ai rfl rfl rfl ?_
   iterate 12 refine Cl rfl rfl rfl ?_
   iterate 2 refine Ai rfl rfl rfl ?_
   refine Ag (A9 rfl rfl rfl) rfl<|Ac<|Cr rfl<|Av<|Ao<|Aw<|As 3 rfl<|Az h fun z h=>?_;have b:=b.mono (Ab hH m);refine Bf rfl rfl Ac7 EZ b a.toNat (EX z) (Ba z) rfl ?_;rintro bn _ rfl az;refine Ag (Bj rfl Ab1 rfl az (Ar hH e)) rfl<|Ag (Cv rfl Ab1) rfl<|Az h fun a2 h=>Ag (A1 rfl a2) rfl<|Az h fun a3 h=>Ag (A1 rfl a3) rfl<|As 1 rfl<|AK<|AF<|Ao<|Aw<|As 1 rfl<|Az h fun a4 h=>Ag (A1 rfl a4) rfl<|As 1 rfl<|AK ?_;have h:=BP.again h j;refine AN (((f+((x1.getD a.toNat default).length:Int))+1),(a+1),k) (Sub.of rfl) ⟨e,b,h⟩ (Nat.lt_succ_self _)
  refine Br<|AG<|A6 ?_;have h:=BP.out h j;refine Be<|A8 () (Sub.nil _) ⟨l,h⟩
 rintro _ bb ⟨a5,h⟩;refine AD 1 rfl<|Ax ?_
 cases h
 refine Ak rfl ⟨a5.ext,rfl⟩
def HZ(a0:Abk):Option ((Int×Int)):=
 if 64<(a0.length:Int) then Option.bind (GA (3:Int) (-1:Int)) (fun b=>some ((b.1,b.2))) else Option.bind (LN a0 true) (fun d=>if 0<=d then Option.bind (LN a0 true) (fun c=>Option.bind (GA (1:Int) c) (fun a=>some ((a.1,a.2)))) else some ((0,0)))
theorem Oy(w:World)(H:PH)(hH:Le H (hp w)){a0:Abk}{r:(Int×Int)}(h:HZ a0=some r):
  Ok prog 110 [Abj a0] w (fun v w'=>Ext w w'/\v=.agg #[No r.1,No r.2]):=by
 refine A3 (n:=14) [(0,(Abj a0))] func110 rfl fun hL=>Am<|AH AW rfl rfl hL fun w1 b1 a y _=>Ac<|A7<|Bi 1 rfl<|Ag (Cv rfl Ab1) rfl<|A4 1 rfl<|AM rfl h (fun m h=>?_) (fun m h=>?_)
 ·refine Am<|Ay h fun x4 o h=>AA rfl rfl a (FC _ _ (Ar hH a) o) fun w5 ae p z=>Ah 0 rfl AW p rfl (Bc rfl) fun w6 f aa=>Ac<|Ax<|An ?_
  cases h
  refine BH rfl (.cell rfl Ack rfl AW (AL (i:=0) f rfl)) ⟨f.ext,rfl⟩
 refine Av<|Ao<|A7<|Bi 1 rfl<|Ay h fun x8 q h=>AA rfl rfl a (PA _ _ (Ar hH a) q) fun w9 af b ab=>A4 1 rfl<|AM rfl h (fun g h=>?_) (fun g h=>?_)
 ·refine Bi 1 rfl<|Ay h fun ag j h=>AA rfl rfl b (PA _ _ (Ar hH b) j) fun ah ac c s=>Ay h fun ai k h=>AA rfl rfl c (FC _ _ (Ar hH c) k) fun aj ad l t=>Ah 0 rfl AW l rfl (Bc rfl) fun ak d u=>Ac<|Ax<|An ?_
  cases h
  refine BH rfl (.cell rfl Ack rfl AW (AL (i:=0) d rfl)) ⟨d.ext,rfl⟩
 refine Av<|Ao<|Am<|Ag (AR rfl (fun _=>Cf _)) rfl<|Ah 0 rfl AW b rfl (Bc rfl) fun al e x=>Ac<|Ax ?_
 cases h
 refine BH rfl (.cell rfl Ack rfl AW (AL (i:=0) e rfl)) ⟨e.ext,rfl⟩
def Je:Option Bool:=
 some true
def GR(a0:List Abk)(a1:List Abk):Int->Option ((Int) ⊕ (Bool)):=fun a=>
 if a<(a0.length:Int) then AS (0<=a/\a<(a0.length:Int)) (AS (0<=a/\a<(a1.length:Int)) (if a0.getD a.toNat default=a1.getD a.toNat default then AS (B0 (a+1)) (some (Sum.inl (a+1))) else Option.map Sum.inr (some false))) else Option.map Sum.inr Je
def K7(a0:List Abk)(a1:List Abk)(s:Int):Option Bool:=Go.L.run (GR a0 a1) s
def Kv(a0:List Abk)(a1:List Abk):Option Bool:=
 if(a0.length:Int)=(a1.length:Int) then(K7 a0 a1) (0:Int) else some false
theorem TK(w:World)(H:PH)(hH:Le H (hp w)){a0 a1:List Abk}{b c:Value}(d:AI .st H b a0)(g:AI .st H c a1){r:Bool}(h:Kv a0 a1=some r):
  Ok prog 43 [b,c] w (fun v w'=>Ext w w'/\v=.bool r):=by
 refine A3 (n:=26) [(0,b),(1,c)] func43 rfl fun hL=>AD 1 rfl<|A7<|Bi 1 rfl<|Ag (Bu rfl Ac7 d) rfl<|As 1 rfl<|Ag (Bu rfl Ac7 g) rfl<|A4 1 rfl<|BV rfl h (fun aa h=>?_) (fun aa h=>?_)
 ·refine AD 1 rfl<|Ax<|An ?_
  cases h
  refine Ak rfl ⟨hL.ext,rfl⟩
 refine Av<|Ao<|Bo (σ:=Unit) (fun(_:Unit)=>[]) (fun(_:Unit) wr=>Bd w [] wr/\Je=some r) ?_ ?_
 ·refine AD 1 rfl<|A5 ?_;obtain⟨i,h⟩:=AZ h;refine Bx (σ:=Int×Nat) (fun⟨a,n⟩=>[(0,b),(1,c),(5,No a)]) (fun⟨a,n⟩ wr=>Bd w [] wr/\F6 (GR a0 a1) n a=some r) (fun⟨a,n⟩=>n) (0,i) (Sub.of rfl) ⟨hL,h⟩ ?_;rintro⟨a,nn57⟩ ab ⟨j,h⟩;obtain⟨i,ad,rfl,h,e⟩:=AY h;refine A7<|Bi 2 rfl<|Ag (Bu rfl Ac7 d) rfl<|A4 1 rfl<|AM rfl h (fun o h=>?_) (fun o h=>?_)
  ·refine Av<|Ao<|A7<|A5<|DD (.q 0 (.q 1 (.q 2 (.q 3 (.q 4 (.q 5 (.q 6 (.q 7 (.q 8 (.tail 9)))))))))) mixed (by kernel_rfl) (fun ae p=>?_);have f:=j.call p;refine Df 2 rfl<|Az h fun k h=>HX rfl rfl rfl Ac7 EZ d a.toNat (EX k) (Ba k) rfl ?_;rintro af _ rfl s;refine BQ (Bj rfl Ab1 rfl s (hH.trans f.arg)) rfl rfl<|Df 2 rfl<|Az h fun l h=>HX rfl rfl rfl Ac7 EZ g a.toNat (EX l) (Ba l) rfl ?_;rintro ag _ rfl t;refine BQ (Bj rfl Ab1 rfl t (hH.trans f.arg)) rfl rfl<|BQ (Mn rfl rfl) rfl rfl<|Cd (fun ah u=>?_);have m:=f.call u;refine Ac<|BV rfl h (fun x h=>?_) (fun x h=>?_)
   ·refine AD 1 rfl<|Ax<|Aq<|An<|By ?_;have h:=BP.out h e;refine Aq<|Bs ?_
    cases h
    refine Ak rfl ⟨m.ext,rfl⟩
   refine Av<|AF<|Ao<|Aw<|As 1 rfl<|Az h fun y h=>Ag (A1 rfl y) rfl<|As 1 rfl<|AK ?_;have h:=BP.again h e;refine AN ((a+1),i) (Sub.of rfl) ⟨m,h⟩ (Nat.lt_succ_self _)
  refine Br<|AG<|A6 ?_;have h:=BP.out h e;refine Be<|A8 () (Sub.nil _) ⟨j,h⟩
 rintro _ ac ⟨z,h⟩;refine AD 1 rfl<|Ax ?_
 cases h
 refine Ak rfl ⟨z.ext,rfl⟩
def KM(a0:Int):Option (Go.L.Pv):=
 some ((Go.L.Pv.mk (1:Int) a0 ([]) ([]) ([])))
theorem O0(w:World)(H:PH)(_hH:Le H (hp w)){a0:Int}{r:Go.L.Pv}(h:KM a0=some r):
  Ok prog 37 [No a0] w (fun v w'=>Ext w w'/\∃ b c d,v=.agg #[No r.f.1,No r.f.2.1,b,c,d]/\BN 5 .byte H w w' b (r.f.2.2.1)/\BN 9 .st H w w' c (r.f.2.2.2.1)/\BN 64 .tree H w w' d (r.f.2.2.2.2)):=by
 refine A3 (n:=5) [(0,No a0)] func37 rfl fun hL=>Am<|AH Hh rfl rfl hL fun k l e g _=>Ac<|Bi 1 rfl<|Ag (AR rfl (fun _=>Y1 _ _ _)) rfl<|Ah 0 rfl Hh e rfl (Bc rfl) fun m a j=>Ac<|Ax ?_
 cases h
 refine BH rfl (.cell rfl Ac8 rfl Hh (AL (i:=0) a rfl)) ⟨a.ext,_,_,_,rfl,BN.nil,BN.nil,BN.nil⟩
def Pb(a0:Abk):Option (Go.L.Qv):=
 some ((Go.L.Qv.mk (1:Int) ([a0]) ([]:Abk) ([]) (0:Int) (0:Int) ([])))
theorem UX(w:World)(H:PH)(hH:Le H (hp w)){a0:Abk}{r:Go.L.Qv}(h:Pb a0=some r):
  Ok prog 36 [Abj a0] w (fun v w'=>Ext w w'/\∃ d e g,v=.agg #[No r.f.1,d,Abj r.f.2.2.1,e,No r.f.2.2.2.2.1,No r.f.2.2.2.2.2.1,g]/\AI .st (un H (nw w w')) d (r.f.2.1)/\BN 5 .byte H w w' e (r.f.2.2.2.1)/\BN 26 .Bg H w w' g (r.f.2.2.2.2.2.2)):=by
 refine A3 (n:=6) [(0,(Abj a0))] func36 rfl fun hL=>Am<|AH AO rfl rfl hL fun q s j m _=>Ac<|Bi 1 rfl<|Bp (r:=.st) (l:=[a0]) rfl (fun _=>N1 _ rfl _) rfl (leMax 1) hH j (.c1 rfl .nil) fun t u p k o a=>Ag (AR rfl (fun _=>OW _ _ a.one _)) rfl<|Ah 0 rfl AO k rfl (AU rfl (AU a.one (Bc rfl))) fun x b c=>Ac<|Ax ?_
 cases h
 refine BH rfl (.cell rfl AcF rfl AO (AL (i:=0) b rfl)) ?_;have a:=a.mono (Ab hH c);exact⟨b.ext,_,_,_,rfl,(a.mono (B5 hH)),BN.nil,BN.nil⟩
end Go.Proofs.YtekmbcbgknmhiaaGreatDoor
end
noncomputable section
namespace Go.Proofs.YtekmbcbgknmhiaaGreatDoor
open Go Go.E Go.RowKit
theorem Wd(w:World)(H:PH)(hH:Le H (hp w)){a b c:Int}:Ok Tryz.prog 30 [.int .i64 a,.int .i64 b,.int .i64 c] w (fun v w'=>Ext w w'/\v=.bool (decide (b<=a/\a<=c))):=by
 refine DL w H hH ?_
 first
  | rfl
  | (unfold ED;congr 1;by_cases d:b<=a <;> by_cases h2:a<=c <;> simp [d,h2])
end Go.Proofs.YtekmbcbgknmhiaaGreatDoor
end
noncomputable section
namespace Go
abbrev AfS:=Go.E.Rp.pair (Go.E.Rp.int .i64) (Go.E.Rp.int .i64)
end Go
namespace Go
abbrev AfK:=List (Abk×Int×Int)
end Go
namespace Go.Proofs.YtekmbcbgknmhiaaGreatDoor
open Go Go.E Go.RowKit Go.L
set_option maxHeartbeats 1000000
set_option maxRecDepth 10000
open _root_.Go.Proofs.Tryz
def I8(a b:Int):Option Int:=
 if a=3 then if b<2048 then some (0) else Option.bind (ED b (55296:Int) (57343:Int)) (fun c=>if c then some (0) else if a=4 then Option.bind (ED b (65536:Int) (1114111:Int)) (fun d=>if !d then some (0) else some a) else some a) else if a=4 then Option.bind (ED b (65536:Int) (1114111:Int)) (fun e=>if !e then some (0) else some a) else some a
def HM(a0:Abk)(a1 c:Int):Int×Int->Option ((Int×Int) ⊕ (Int)):=fun⟨b,a⟩=>
 if a<c then AS (B0 (a1+a)) (AS (0<=(a1+a)/\(a1+a)<(a0.length:Int)) (Option.bind (ED ((a0.getD ((a1+a).toNat) default).toNat:Int) (128:Int) (191:Int)) (fun d=>if !d then Option.map Sum.inr (some (0)) else AS (B0 (64 * b)) (AS (B0 ((64 * b)+((a0.getD ((a1+a).toNat) default).toNat:Int))) (AS (B0 (((64 * b)+((a0.getD ((a1+a).toNat) default).toNat:Int)) - 128)) (AS (B0 (a+1)) (some (Sum.inl ((((64 * b)+((a0.getD ((a1+a).toNat) default).toNat:Int)) - 128),(a+1)))))))))) else Option.map Sum.inr ((I8 c) b)
def Lq(a0:Abk)(a1 a:Int)(s:Int×Int):Option Int:=Go.L.run (HM a0 a1 a) s
def Gn(a0:Abk)(a1 a b:Int):Option Int:=
 if a=0 then some (0) else AS (B0 (a1+a)) (if(a0.length:Int)<(a1+a) then some (0) else(Lq a0 a1 a) (b,1))
def I9(a0:Abk)(a1 a b:Int):Option Int:=
 Option.bind (ED ((a0.getD a1.toNat default).toNat:Int) (240:Int) (244:Int)) (fun c=>if c then AS (B0 (((a0.getD a1.toNat default).toNat:Int) - 240)) ((Gn a0 a1) (4:Int) (((a0.getD a1.toNat default).toNat:Int) - 240)) else(Gn a0 a1) a b)
def JQ(a0:Abk)(a1 a b:Int):Option Int:=
 Option.bind (ED ((a0.getD a1.toNat default).toNat:Int) (224:Int) (239:Int)) (fun c=>if c then AS (B0 (((a0.getD a1.toNat default).toNat:Int) - 224)) ((I9 a0 a1) (3:Int) (((a0.getD a1.toNat default).toNat:Int) - 224)) else(I9 a0 a1) a b)
def Pc(a0:Abk)(a1:Int):Option Int:=
 AS (0<=a1/\a1<(a0.length:Int)) (Option.bind (ED ((a0.getD a1.toNat default).toNat:Int) (194:Int) (223:Int)) (fun a=>if a then AS (B0 (((a0.getD a1.toNat default).toNat:Int) - 192)) ((JQ a0 a1) (2:Int) (((a0.getD a1.toNat default).toNat:Int) - 192)) else(JQ a0 a1) (0:Int) (0:Int)))
theorem UY(w:World)(H:PH)(hH:Le H (hp w)){a0:Abk}{a1:Int}{l:Value}(aa:AI .byte H l a0){r:Int}(h:Pc a0 a1=some r):
  Ok prog 203 [l,No a1] w (fun v w'=>Ext w w'/\v=No r):=by
 refine A3 (n:=79) [(0,l),(1,No a1)] func203 rfl fun hL=>AD 1 rfl<|Bi 2 rfl<|Az h fun a4 h=>Bf rfl rfl AbF LH aa a1.toNat (EX a4) (Ba a4) rfl ?_;rintro p1 _ rfl bg;refine Ag (Bj rfl Ac5 rfl bg (hH.trans hL.arg)) rfl<|Ag (DE Ac5 Abn rfl (EB _)) rfl<|A4 1 rfl<|AD 2 rfl<|Bo (σ:=Int×Int) (fun⟨m,o⟩=>[(0,l),(1,No a1),(5,No ((a0.getD a1.toNat default).toNat:Int)),(6,No m),(7,No o)]) (fun⟨m,o⟩ wr=>Bd w [] wr/\(JQ a0 a1) m o=some r) ?_ ?_
 ·refine Bi 1 rfl<|Ay h fun cb a5 h=>AA rfl rfl hL (DL _ _ (Ar hH hL) a5) fun cc bu ah bl=>Ac<|Bb rfl h (fun a6 h=>?_) (fun a6 h=>?_)
  ·refine Aw<|As 1 rfl<|Az h fun a7 h=>Ag (A1 rfl a7) rfl<|As 2 rfl<|AK<|A8 (2,(((a0.getD a1.toNat default).toNat:Int) - 192)) (Sub.of rfl) ⟨ah,h⟩
  refine Av<|A8 (0,0) (Sub.of rfl) ⟨ah,h⟩
 rintro⟨m,o⟩ bv ⟨ai,h⟩;refine Bo (σ:=Int×Int) (fun⟨p,q⟩=>[(0,l),(1,No a1),(5,No ((a0.getD a1.toNat default).toNat:Int)),(6,No p),(7,No q)]) (fun⟨p,q⟩ wr=>Bd w [] wr/\(I9 a0 a1) p q=some r) ?_ ?_
 ·refine Bi 1 rfl<|Ay h fun cd a8 h=>AA rfl rfl ai (DL _ _ (Ar hH ai) a8) fun ce bw aj bm=>Ac<|Bb rfl h (fun a9 h=>?_) (fun a9 h=>?_)
  ·refine Aw<|As 1 rfl<|Az h fun ba h=>Ag (A1 rfl ba) rfl<|As 2 rfl<|AK<|A8 (3,(((a0.getD a1.toNat default).toNat:Int) - 224)) (Sub.of rfl) ⟨aj,h⟩
  refine Av<|A8 (m,o) (Sub.of rfl) ⟨aj,h⟩
 rintro⟨p,q⟩ bx ⟨ak,h⟩;refine Bo (σ:=Int×Int) (fun⟨i,t⟩=>[(0,l),(1,No a1),(6,No i),(7,No t)]) (fun⟨i,t⟩ wr=>Bd w [] wr/\(Gn a0 a1) i t=some r) ?_ ?_
 ·refine Bi 1 rfl<|Ay h fun cf bb h=>AA rfl rfl ak (DL _ _ (Ar hH ak) bb) fun cg bz al bn=>Ac<|Bb rfl h (fun bc h=>?_) (fun bc h=>?_)
  ·refine Aw<|As 1 rfl<|Az h fun bd h=>Ag (A1 rfl bd) rfl<|As 2 rfl<|AK<|A8 (4,(((a0.getD a1.toNat default).toNat:Int) - 240)) (Sub.of rfl) ⟨al,h⟩
  refine Av<|A8 (p,q) (Sub.of rfl) ⟨al,h⟩
 rintro⟨i,t⟩ b0 ⟨ab,h⟩;refine A7<|Bi 3 rfl<|AP (s:=30) rfl (fun d=>?_) (fun d=>?_)
 ·have h:=BI (of_decide_eq_true d) h
  iterate 6 refine Ai rfl d rfl ?_
  refine Ag (A2 rfl d rfl) rfl<|Ac<|Cg rfl<|AD 1 rfl<|Ax<|An ?_
  cases h
  refine Ak rfl ⟨ab.ext,rfl⟩
 have h:=BJ (of_decide_eq_false d) h;refine Aa rfl d<|Ag (Ad rfl) rfl<|Aa rfl d<|Ag (Ad rfl) rfl<|Aa rfl d<|Az h fun be h=>Ag (A1 rfl be) rfl<|Aa rfl d<|Ag (Ad rfl) rfl<|Aa rfl d<|Ag (Bu rfl AbF aa) rfl<|Aa rfl d<|Ag (Ad rfl) rfl<|Ag (A9 rfl d rfl) rfl<|Ac<|AM rfl h (fun bf h=>?_) (fun bf h=>?_)
 ·refine AD 1 rfl<|Ax<|An ?_
  cases h
  refine Ak rfl ⟨ab.ext,rfl⟩
 refine Av<|Ao<|AD 2 rfl<|Bo (σ:=Int) (fun u=>[(6,No i),(8,No u)]) (fun u wr=>Bd w [] wr/\(I8 i) u=some r) ?_ ?_
 ·refine AD 1 rfl<|A5 ?_;obtain⟨ac,h⟩:=AZ h;refine Bx (σ:=Int×Int×Nat) (fun⟨g,c,n⟩=>[(0,l),(1,No a1),(6,No i),(8,No g),(9,No c)]) (fun⟨g,c,n⟩ wr=>Bd w [] wr/\F6 (HM a0 a1 i) n (g,c)=some r) (fun⟨g,c,n⟩=>n) (t,1,ac) (Sub.of rfl) ⟨ab,h⟩ ?_;rintro⟨g,c,nn120⟩ bo ⟨x,h⟩;obtain⟨ac,b1,rfl,h,z⟩:=AY h;refine A7<|AD 3 rfl<|AM rfl h (fun am h=>?_) (fun am h=>?_)
  ·refine Av<|Ao<|A7<|A5<|Bi 3 rfl<|Az h fun an h=>Ag (A1 rfl an) rfl<|Az h fun ad h=>Bf rfl rfl AbF LH aa ((a1+c).toNat) (EX ad) (Ba ad) rfl ?_;rintro b2 _ rfl ao;refine Ag (Bj rfl Ac5 rfl ao (hH.trans x.arg)) rfl<|Ag (DE Ac5 Abn rfl (EB _)) rfl<|A4 1 rfl<|A7<|Bi 1 rfl<|Ay h fun b3 ap h=>AA rfl rfl x (DL _ _ (Ar hH x) ap) fun b4 bp ae bh=>A4 1 rfl<|Bb rfl h (fun aq h=>?_) (fun aq h=>?_)
   ·refine AD 1 rfl<|Ax<|An<|Aq<|An<|By ?_;have h:=BP.out h z;refine Aq<|Bs ?_
    cases h
    refine Ak rfl ⟨ae.ext,rfl⟩
   refine Av<|Ao<|Aw<|As 1 rfl<|Az h fun ar h=>Ag (A1 rfl ar) rfl<|As 1 rfl<|Az h fun au h=>Ag (A1 rfl au) rfl<|Az h fun av h=>Ag (A1 rfl av) rfl<|As 1 rfl<|AK<|AF<|Ao<|Aw<|As 1 rfl<|Az h fun aw h=>Ag (A1 rfl aw) rfl<|As 1 rfl<|AK ?_;have h:=BP.again h z;refine AN ((((64 * g)+((a0.getD ((a1+c).toNat) default).toNat:Int)) - 128),(c+1),ac) (Sub.of rfl) ⟨ae,h⟩ (Nat.lt_succ_self _)
  refine Br<|AG<|A6 ?_;have h:=BP.out h z;refine Be<|A8 g (Sub.of rfl) ⟨x,h⟩
 rintro u bq ⟨k,h⟩;refine A7<|Bi 3 rfl<|AP (s:=61) rfl (fun a=>?_) (fun a=>?_)
 ·have h:=BI (of_decide_eq_true a) h;refine Aa rfl a<|Ag (Ad rfl) rfl<|Aa rfl a<|Ag (Ad rfl) rfl<|Aa rfl a<|Ag (Ad rfl) rfl<|AP (s:=64) rfl (fun j=>?_) (fun j=>?_)
  ·have h:=BI (of_decide_eq_true j) h
   iterate 2 refine Ai rfl j rfl ?_
   refine Aa rfl a<|Ag (A2 rfl j rfl) rfl<|Ag (A2 rfl a rfl) rfl<|As 1 rfl ?_
   iterate 3 refine Ai rfl rfl rfl ?_
   iterate 3 refine Cl rfl rfl rfl ?_
   refine Ai rfl rfl rfl<|Ag (A2 rfl rfl rfl) rfl<|Ac<|Cg rfl<|AD 1 rfl<|Ax<|An ?_
   cases h
   refine Ak rfl ⟨k.ext,rfl⟩
  have h:=BJ (of_decide_eq_false j) h;refine Aa rfl j<|Ag (Ad rfl) rfl<|Aa rfl j<|Ay h fun b5 ax h=>AA rfl rfl k (DL _ _ (Ar hH k) ax) fun b6 br y bi=>Aa rfl a<|Ag (A9 rfl j rfl) rfl<|Ag (A2 rfl a rfl) rfl<|As 1 rfl<|AP (s:=69) rfl (fun b=>?_) (fun b=>?_)
  ·have h:=HA b h
   iterate 3 refine Ai rfl b rfl ?_
   iterate 3 refine Cl rfl rfl rfl ?_
   refine Ai rfl b rfl<|Ag (A2 rfl b rfl) rfl<|Ac<|Cg rfl<|AD 1 rfl<|Ax<|An ?_
   cases h
   refine Ak rfl ⟨y.ext,rfl⟩
  have h:=HB b h;refine Aa rfl b<|Ag (Ad rfl) rfl<|Aa rfl b<|Ag (Ad rfl) rfl<|Aa rfl b<|Ag (Ad rfl) rfl<|AP (s:=72) rfl (fun e=>?_) (fun e=>?_)
  ·have h:=BI (of_decide_eq_true e) h;refine Aa rfl e<|Ag (Ad rfl) rfl<|Aa rfl e<|Ay h fun b7 ay h=>AA rfl rfl y (DL _ _ (Ar hH y) ay) fun b8 bs af bj=>Aa rfl e<|Ag (Ad rfl) rfl<|Aa rfl b<|Ag (A2 rfl e rfl) rfl<|Ag (A9 rfl b rfl) rfl<|Ac<|Bb rfl h (fun az h=>?_) (fun az h=>?_)
   ·refine AD 1 rfl<|Ax<|An ?_
    cases h
    refine Ak rfl ⟨af.ext,rfl⟩
   refine Av<|Ao<|AD 2 rfl<|Ax ?_
   cases h
   refine Ak rfl ⟨af.ext,rfl⟩
  have h:=BJ (of_decide_eq_false e) h
  iterate 3 refine Ai rfl e rfl ?_
  refine Aa rfl b<|Ag (A9 rfl e rfl) rfl<|Ag (A9 rfl b rfl) rfl<|Ac<|Cr rfl<|Av<|Ao<|AD 2 rfl<|Ax ?_
  cases h
  refine Ak rfl ⟨y.ext,rfl⟩
 have h:=BJ (of_decide_eq_false a) h
 iterate 3 refine Ai rfl a rfl ?_
 iterate 2 refine Cl rfl rfl rfl ?_
 refine Ai rfl a rfl<|Ag (A9 rfl a rfl) rfl<|As 1 rfl<|Aa rfl rfl<|Ag (Ad rfl) rfl<|Aa rfl rfl<|Ag (Ad rfl) rfl<|Aa rfl rfl<|Ag (Ad rfl) rfl<|AP (s:=72) rfl (fun f=>?_) (fun f=>?_)
 ·have h:=BI (of_decide_eq_true f) h;refine Aa rfl f<|Ag (Ad rfl) rfl<|Aa rfl f<|Ay h fun b9 a2 h=>AA rfl rfl k (DL _ _ (Ar hH k) a2) fun ca bt ag bk=>Aa rfl f<|Ag (Ad rfl) rfl<|Aa rfl rfl<|Ag (A2 rfl f rfl) rfl<|Ag (A9 rfl rfl rfl) rfl<|Ac<|Bb rfl h (fun a3 h=>?_) (fun a3 h=>?_)
  ·refine AD 1 rfl<|Ax<|An ?_
   cases h
   refine Ak rfl ⟨ag.ext,rfl⟩
  refine Av<|Ao<|AD 2 rfl<|Ax ?_
  cases h
  refine Ak rfl ⟨ag.ext,rfl⟩
 have h:=BJ (of_decide_eq_false f) h
 iterate 3 refine Ai rfl f rfl ?_
 refine Aa rfl rfl<|Ag (A9 rfl f rfl) rfl<|Ag (A9 rfl rfl rfl) rfl<|Ac<|Cr rfl<|Av<|Ao<|AD 2 rfl<|Ax ?_
 cases h
 refine Ak rfl ⟨k.ext,rfl⟩
def KN(a0:Abk)(a1:Int):Option Int:=
 AS (0<=a1/\a1<(a0.length:Int)) (Option.bind (ED ((a0.getD a1.toNat default).toNat:Int) (48:Int) (57:Int)) (fun c=>if c then some (1) else Option.bind (ED ((a0.getD a1.toNat default).toNat:Int) (97:Int) (122:Int)) (fun d=>if d then some (1) else Option.bind (ED ((a0.getD a1.toNat default).toNat:Int) (65:Int) (90:Int)) (fun a=>if a then some (1) else Option.bind (Pc a0 a1) (fun b=>some b)))))
theorem O1(w:World)(H:PH)(hH:Le H (hp w)){a0:Abk}{a1:Int}{c:Value}(e:AI .byte H c a0){r:Int}(h:KN a0 a1=some r):
  Ok prog 152 [c,No a1] w (fun v w'=>Ext w w'/\v=No r):=by
 refine A3 (n:=24) [(0,c),(1,No a1)] func152 rfl fun hL=>AD 1 rfl<|Bi 2 rfl<|Az h fun i h=>Bf rfl rfl AbF LH e a1.toNat (EX i) (Ba i) rfl ?_;rintro p1 _ rfl o;refine Ag (Bj rfl Ac5 rfl o (hH.trans hL.arg)) rfl<|Ag (DE Ac5 Abn rfl (EB _)) rfl<|A4 1 rfl<|A7<|Bi 1 rfl<|Ay h fun x3 p h=>AA rfl rfl hL (DL _ _ (Ar hH hL) p) fun w4 ab f x=>As 1 rfl<|AP (s:=13) rfl (fun b=>?_) (fun b=>?_)
 ·have h:=HA b h
  iterate 2 refine Ai rfl b rfl ?_
  refine Ag (A2 rfl b rfl) rfl<|As 1 rfl ?_
  iterate 2 refine Ai rfl rfl rfl ?_
  refine Ag (A2 rfl rfl rfl) rfl<|Ac<|Cg rfl<|AD 1 rfl<|Ax<|An ?_
  cases h
  refine Ak rfl ⟨f.ext,rfl⟩
 have h:=HB b h;refine Aa rfl b<|Ag (Ad rfl) rfl<|Aa rfl b<|Ay h fun x8 q h=>AA rfl rfl f (DL _ _ (Ar hH f) q) fun w9 ac g y=>Ag (A9 rfl b rfl) rfl<|As 1 rfl<|AP (s:=17) rfl (fun a=>?_) (fun a=>?_)
 ·have h:=HA a h
  iterate 2 refine Ai rfl a rfl ?_
  refine Ag (A2 rfl a rfl) rfl<|Ac<|Cg rfl<|AD 1 rfl<|Ax<|An ?_
  cases h
  refine Ak rfl ⟨g.ext,rfl⟩
 have h:=HB a h;refine Aa rfl a<|Ag (Ad rfl) rfl<|Aa rfl a<|Ay h fun ad j h=>AA rfl rfl g (DL _ _ (Ar hH g) j) fun ae z d t=>Ag (A9 rfl a rfl) rfl<|Ac<|Bb rfl h (fun k h=>?_) (fun k h=>?_)
 ·refine AD 1 rfl<|Ax<|An ?_
  cases h
  refine Ak rfl ⟨d.ext,rfl⟩
 refine Av<|Ao<|Bi 2 rfl<|Ay h fun af l h=>AA rfl rfl d (UY _ _ (Ar hH d) (e.mono (Aj hH)) l) fun ag aa m u=>A4 1 rfl<|Ax ?_
 cases h
 refine Ak rfl ⟨m.ext,rfl⟩
def Jf(c:Abk)(a:Int)(b:UInt8):Option ((Abk×Int) ⊕ ((Abk×Int) ⊕ ((AfK×Int) ⊕ (AfK)))):=
 AS (Go.E.J3 1 (c.length+([b]).length)) (AS (B0 (a+1)) (some (Sum.inl ((c++[b]),(a+1)))))
def MH(a b:Int)(c:Abk):Option ((Abk×Int) ⊕ ((AfK×Int) ⊕ (AfK))):=
 AS (B0 (a+b)) (some (Sum.inl (c,(a+b))))
def Iq(a0:Abk)(b c:Int):Abk×Int->Option ((Abk×Int) ⊕ ((Abk×Int) ⊕ ((AfK×Int) ⊕ (AfK)))):=fun⟨d,a⟩=>
 AS (B0 (b+c)) (if a<(b+c) then AS (0<=a/\a<(a0.length:Int)) (if(65<=((a0.getD a.toNat default).toNat:Int))/\(((a0.getD a.toNat default).toNat:Int)<=90) then(Jf d a) (a0.getD a.toNat default+(32:UInt8)) else(Jf d a) (a0.getD a.toNat default)) else Option.map Sum.inr ((MH b c) d))
def MI(a0:Abk)(a b:Int)(s:Abk×Int):Option ((Abk×Int) ⊕ ((AfK×Int) ⊕ (AfK))):=Go.L.run (Iq a0 a b) s
def Jg(c:List (Abk×Int×Int))(b:Int)(d:Abk)(a:Int):Option ((AfK×Int) ⊕ (AfK)):=
 if b<a then AS (Go.E.J3 32 (c.length+([(d,b,a)]).length)) (AS (B0 (a+1)) (some (Sum.inl ((c++[(d,b,a)]),(a+1))))) else AS (B0 (a+1)) (some (Sum.inl (c,(a+1))))
def E2(a0:Abk)(d:List (Abk×Int×Int))(b:Int):Abk×Int->Option ((Abk×Int) ⊕ ((AfK×Int) ⊕ (AfK))):=fun⟨c,a⟩=>
 if a<(a0.length:Int) then Option.bind (KN a0 a) (fun e=>if 0<e then Option.bind (KN a0 a) (fun f=>(MI a0 a f) (c,a)) else Option.map Sum.inr ((Jg d b) c a)) else Option.map Sum.inr ((Jg d b) c a)
def TL(a0:Abk)(b:List (Abk×Int×Int))(a:Int)(s:Abk×Int):Option ((AfK×Int) ⊕ (AfK)):=Go.L.run (E2 a0 b a) s
def MJ(a:List (Abk×Int×Int)):Option (AfK):=
 some a
def Dt(a0:Abk):AfK×Int->Option ((AfK×Int) ⊕ (AfK)):=fun⟨b,a⟩=>
 if a<(a0.length:Int) then(TL a0 b a) (([]:Abk),a) else Option.map Sum.inr (MJ b)
def TM(a0:Abk)(s:AfK×Int):Option (AfK):=Go.L.run (Dt a0) s
def PQ(a0:Abk):Option (AfK):=
 (TM a0) (([]:List (Abk×Int×Int)),0)
theorem TN(w:World)(H:PH)(hH:Le H (hp w)){a0:Abk}{ab:Value}(ao:AI .byte H ab a0){r:AfK}(h:PQ a0=some r):
  Ok prog 93 [ab] w (fun v w'=>Ext w w'/\∃ u0,v=u0/\BN 135 (.pair .st AfS) H w w' u0 r):=by
 refine A3 (n:=69) [(0,ab)] func93 rfl fun hL=>AD 1 rfl<|Bi 1 rfl ?_;obtain⟨cg,cu,ch⟩:=C0 (.pair .st AfS) H 135 hL;refine Ac<|AD 1 rfl<|Bo (σ:=AfK×Value×(List Value)) (fun⟨ap,al,ag⟩=>[(3,al)]) (fun⟨ap,al,ag⟩ wr=>DF w [.row al 135 3 (ap).length ag] wr fun Oz=>AJ (.pair .st AfS) (gz H w wr Oz) ap ag/\MJ ap=some r) ?_ ?_
 ·refine A5 ?_;obtain⟨ar,h⟩:=AZ h;refine Bx (σ:=AfK×Int×Value×(List Value)×Nat) (fun⟨e,d,f,c,n⟩=>[(0,ab),(3,f),(4,No d)]) (fun⟨e,d,f,c,n⟩ wr=>DF w [.row f 135 3 (e).length c] wr fun Oz=>AJ (.pair .st AfS) (gz H w wr Oz) e c/\F6 (Dt a0) n (e,d)=some r) (fun⟨e,d,f,c,n⟩=>n) (([]:List (Abk×Int×Int)),0,Aa8,[],ar) (Sub.of rfl) ⟨cg,ch,h⟩ ?_;rintro⟨e,d,f,c,nn352⟩ cj ⟨a5,a,h⟩;obtain⟨ar,a9,rfl,h,au⟩:=AY h;refine A7<|Bi 2 rfl<|Ag (Bu rfl AbF ao) rfl<|A4 1 rfl<|AM rfl h (fun bg h=>?_) (fun bg h=>?_)
  ·refine Av<|Ao<|A5<|AD 2 rfl<|Bi 1 rfl ?_;obtain⟨bh,a1,bi⟩:=C0 .byte H 5 a5;refine Ac<|Bo (σ:=Abk×Int×Value×(List Value)) (fun⟨ad,k,am,ah⟩=>[(0,ab),(3,f),(4,No d),(5,No k),(6,am)]) (fun⟨ad,k,am,ah⟩ wr=>DF w [.row am 5 1 (ad).length ah,.row f 135 3 (e).length c] wr fun Oz=>AJ .byte (gz H w wr Oz) ad ah/\AJ (.pair .st AfS) (gz H w wr Oz) e c/\(Jg e d) ad k=some a9) ?_ ?_
   ·refine A5 ?_;obtain⟨a3,h⟩:=AZ h;have a:=a.mono (Ab hH a1);refine Bx (σ:=Abk×Int×Value×(List Value)×Nat) (fun⟨ac,g,z,p,n⟩=>[(0,ab),(3,f),(4,No d),(5,No g),(6,z)]) (fun⟨ac,g,z,p,n⟩ wr=>DF w [.row z 5 1 (ac).length p,.row f 135 3 (e).length c] wr fun Oz=>AJ .byte (gz H w wr Oz) ac p/\AJ (.pair .st AfS) (gz H w wr Oz) e c/\F6 (E2 a0 e d) n (ac,g)=some a9) (fun⟨ac,g,z,p,n⟩=>n) (([]:Abk),d,Aa8,[],a3) (Sub.of rfl) ⟨bh,bi,a,h⟩ ?_;rintro⟨ac,g,z,p,nn510⟩ ck ⟨av,u,a,h⟩;obtain⟨a3,ba,rfl,h,aw⟩:=AY h;refine A7<|Bi 2 rfl<|Ag (Bu rfl AbF ao) rfl<|As 2 rfl<|AP (s:=19) rfl (fun o=>?_) (fun o=>?_)
    ·have h:=BI (of_decide_eq_true o) h;refine Aa rfl o<|Ag (Ad rfl) rfl<|Aa rfl o<|Ag (Ad rfl) rfl<|Aa rfl o<|Ay h fun cv bj h=>AA rfl rfl av (O1 _ _ (Ar hH av) (ao.mono (Aj hH)) bj) fun cw cl ax ae=>Aa rfl o<|Ag (Ad rfl) rfl<|Ag (A2 rfl o rfl) rfl<|Ac<|AM rfl h (fun bk h=>?_) (fun bk h=>?_)
     ·refine Av<|Ao<|A5<|Bi 2 rfl<|Ay h fun aj bl h=>AA rfl rfl ax (O1 _ _ (Ar hH ax) (ao.mono (Aj hH)) bl) fun cx cm bm aq=>A4 1 rfl<|Bo (σ:=Abk×Value×(List Value)) (fun⟨ak,ai,af⟩=>[(0,ab),(3,f),(4,No d),(5,No g),(6,ai),(7,No aj)]) (fun⟨ak,ai,af⟩ wr=>DF w [.row ai 5 1 (ak).length af,.row f 135 3 (e).length c] wr fun Oz=>AJ .byte (gz H w wr Oz) ak af/\AJ (.pair .st AfS) (gz H w wr Oz) e c/\(MH g aj) ak=some ba) ?_ ?_
      ·refine AD 2 rfl<|A5 ?_;obtain⟨a4,h⟩:=AZ h;have u:=u.mono (Ab hH (ae.trans aq));have a:=a.mono (Ab hH (ae.trans aq));refine Bx (σ:=Abk×Int×Value×(List Value)×Nat) (fun⟨t,j,aa,q,n⟩=>[(0,ab),(3,f),(4,No d),(5,No g),(6,aa),(7,No aj),(8,No j)]) (fun⟨t,j,aa,q,n⟩ wr=>DF w [.row aa 5 1 (t).length q,.row f 135 3 (e).length c] wr fun Oz=>AJ .byte (gz H w wr Oz) t q/\AJ (.pair .st AfS) (gz H w wr Oz) e c/\F6 (Iq a0 g aj) n (t,j)=some ba) (fun⟨t,j,aa,q,n⟩=>n) (ac,g,z,p,a4) (Sub.of rfl) ⟨bm,u,a,h⟩ ?_;rintro⟨t,j,aa,q,nn576⟩ cn ⟨an,x,a,h⟩;obtain⟨a4,cc,rfl,h,a6⟩:=AY h;refine A7<|Bi 3 rfl<|Az h fun bn h=>Ag (A1 rfl bn) rfl<|A4 1 rfl<|AM rfl h (fun bo h=>?_) (fun bo h=>?_)
       ·refine Av<|Ao<|A7<|A5<|Bi 2 rfl<|Az h fun a7 h=>Bf rfl rfl AbF LH ao j.toNat (EX a7) (Ba a7) rfl ?_;rintro cy _ rfl bp;refine Ag (Bj rfl Ac5 rfl bp (hH.trans an.arg)) rfl<|A4 1 rfl<|Bo (σ:=UInt8) (fun y=>[(0,ab),(3,f),(4,No d),(5,No g),(6,aa),(7,No aj),(8,No j),(9,.int .u8 (y.toNat:Int))]) (fun y wr=>DF w [.row aa 5 1 (t).length q,.row f 135 3 (e).length c] wr fun Oz=>AJ .byte (gz H w wr Oz) t q/\AJ (.pair .st AfS) (gz H w wr Oz) e c/\(Jf t j) y=some cc) ?_ ?_
        ·refine Bi 3 rfl<|MS 2 2 rfl rfl rfl rfl rfl rfl<|Ac<|AM rfl h (fun bq h=>?_) (fun bq h=>?_)
         ·refine Aw<|As 1 rfl<|Ag (Rx (b:=32) rfl rfl rfl) rfl<|As 1 rfl<|AK<|A8 (a0.getD j.toNat default+(32:UInt8)) (Sub.of rfl) ⟨an,x,a,h⟩
         refine Av<|A8 (a0.getD j.toNat default) (Sub.of rfl) ⟨an,x,a,h⟩
        rintro y co ⟨br,x,a,h⟩;refine Aw<|As 2 rfl<|Bp (r:=.byte) (l:=[y]) rfl (fun _=>EC _ _) rfl (leMax 1) hH br (.c1 rfl .nil) fun cz c0 cp bs a2 bt=>Az h fun bu h=>?_;have x:=x.mono (Ab hH a2);refine Bt (r:=.byte) (l:=t) (m:=[y]) 0 rfl rfl AbF LH rfl (by decide) rfl hH bs rfl x bt bu fun cd c2 bv bw bb bx=>As 1 rfl<|AK<|AF<|Ao<|Aw<|As 1 rfl<|Az h fun bz h=>Ag (A1 rfl bz) rfl<|As 1 rfl<|AK ?_;have h:=BP.again h a6;have a:=a.mono (Ab hH (a2.trans bb));refine AN ((t++[y]),(j+1),cd,bv,a4) (Sub.of rfl) ⟨bw,bx,a,h⟩ (Nat.lt_succ_self _)
       refine Br<|AG<|A6 ?_;have h:=BP.out h a6;refine Be<|A8 (t,aa,q) (Sub.of rfl) ⟨an,x,a,h⟩
      have a:=a.mono (Ab hH (ae.trans aq));rintro⟨ak,ai,af⟩ cq ⟨b0,bc,a,h⟩;refine Aw<|As 2 rfl<|Az h fun b1 h=>Ag (A1 rfl b1) rfl<|As 1 rfl<|AK<|AF ?_;have h:=BP.again h aw;refine AN (ak,(g+aj),ai,af,a3) (Sub.of rfl) ⟨b0,bc,a,h⟩ (Nat.lt_succ_self _)
     refine Br<|AG<|A6 ?_;have h:=BP.out h aw;refine Be ?_;have u:=u.mono (Ab hH ae);have a:=a.mono (Ab hH ae);refine A8 (ac,g,z,p) (Sub.of rfl) ⟨ax,u,a,h⟩
    have h:=BJ (of_decide_eq_false o) h
    iterate 4 refine Ai rfl o rfl ?_
    refine Ag (A9 rfl o rfl) rfl<|Ac<|Cr rfl<|Br<|AG<|A6 ?_;have h:=BP.out h aw;refine Be<|A8 (ac,g,z,p) (Sub.of rfl) ⟨av,u,a,h⟩
   have a:=a.mono (Ab hH a1);rintro⟨ad,k,am,ah⟩ cr ⟨ay,bd,a,h⟩;refine A7<|AD 3 rfl<|AM rfl h (fun b2 h=>?_) (fun b2 h=>?_)
   ·refine Aw<|As 2 rfl<|Ag (KJ rfl AbF Ac5 Ab1 (ay.UD hH (i:=0) rfl bd) (Le.refl _)) rfl<|As 2 rfl<|Ag (AR rfl (fun _=>US _ rfl _ _ _)) rfl<|Bp (r:=(.pair .st AfS)) (l:=[(ad,d,k)]) rfl (fun _=>VY _ _ _ _) rfl (leMax 1) hH ay (.c3 ⟨_,_,rfl,rfl,⟨_,_,rfl,rfl,rfl⟩⟩ .nil) fun c4 c5 cs b3 be b4=>Az h fun b5 h=>?_;have a:=a.mono (Ab hH be);refine Bt (r:=(.pair .st AfS)) (l:=e) (m:=[(ad,d,k)]) 1 rfl rfl AcH LI rfl (by decide) rfl hH b3 rfl a b4 b5 fun ce c6 b6 b7 ci az=>As 1 rfl<|AK<|Ao<|Aw<|As 1 rfl<|Az h fun b8 h=>Ag (A1 rfl b8) rfl<|As 1 rfl<|AK<|AF ?_;have b9:=b7.AQ (i:=0) rfl;have h:=BP.again h au;have az:=az.mono (Ab hH (Au (i:=0) rfl));refine AN ((e++[(ad,d,k)]),(k+1),ce,b6,ar) (Sub.of rfl) ⟨b9,az,h⟩ (Nat.lt_succ_self _)
   refine Av<|Ao<|Aw<|As 1 rfl<|Az h fun ca h=>Ag (A1 rfl ca) rfl<|As 1 rfl<|AK<|AF ?_;have cb:=ay.AQ (i:=0) rfl;have h:=BP.again h au;have a:=a.mono (Ab hH (Au (i:=0) rfl));refine AN (e,(k+1),f,c,ar) (Sub.of rfl) ⟨cb,a,h⟩ (Nat.lt_succ_self _)
  refine Br<|AG<|A6 ?_;have h:=BP.out h au;refine Be<|A8 (e,f,c) (Sub.of rfl) ⟨a5,a,h⟩
 rintro⟨ap,al,ag⟩ ct ⟨a8,bf,h⟩;refine AD 2 rfl<|Ax ?_
 cases h
 refine Ak rfl ⟨a8.ext,_,rfl,(a8.Ge hH (i:=0) rfl bf)⟩
def JR(a0:Abk):Option ((Int×Int)):=
 if 64<(a0.length:Int) then Option.bind (GA (3:Int) (-1:Int)) (fun d=>some ((d.1,d.2))) else AS (a0.length<=9223372036854775807) (Option.bind (PQ a0) (fun a=>if(a.length:Int)=1 then AS (0<=(0:Int)/\(0:Int)<(a.length:Int)) (if(a.getD ((0:Int).toNat) default).1=a0 then some ((0,0)) else Option.bind (GA (6:Int) (-1:Int)) (fun b=>some ((b.1,b.2)))) else Option.bind (GA (6:Int) (-1:Int)) (fun c=>some ((c.1,c.2)))))
theorem Qn(w:World)(H:PH)(hH:Le H (hp w)){a0:Abk}{r:(Int×Int)}(h:JR a0=some r):
  Ok prog 109 [Abj a0] w (fun v w'=>Ext w w'/\v=.agg #[No r.1,No r.2]):=by
 refine A3 (n:=24) [(0,(Abj a0))] func109 rfl fun hL=>Am<|AH AW rfl rfl hL fun w1 b1 d an _=>Ac<|A7<|Bi 1 rfl<|Ag (Cv rfl Ab1) rfl<|A4 1 rfl<|AM rfl h (fun ab h=>?_) (fun ab h=>?_)
 ·refine Am<|Ay h fun x4 ac h=>AA rfl rfl d (FC _ _ (Ar hH d) ac) fun w5 av ad ao=>Ah 0 rfl AW ad rfl (Bc rfl) fun w6 m ap=>Ac<|Ax<|An ?_
  cases h
  refine BH rfl (.cell rfl Ack rfl AW (AL (i:=0) m rfl)) ⟨m.ext,rfl⟩
 refine Av<|Ao<|Bi 1 rfl<|Az h fun ae h=>Zy (H:=H) rfl Ab1 AbF Ac5 rfl d ae fun v8 w8 aw e aq af=>Ay h fun ax o h=>Bn rfl rfl e (TN _ _ (Ar hH e) af o) ?_;rintro ag ay ⟨_,rfl,f⟩ p b ah;have c:=f.Cz hH e p;refine A4 1 rfl<|A7<|Bi 1 rfl<|Ag (Bu rfl AcH c) rfl<|As 2 rfl<|AP (s:=14) rfl (fun a=>?_) (fun a=>?_)
 ·have h:=BJ (CG a) h
  iterate 6 refine Ai rfl a rfl ?_
  refine Ag (A2 rfl a rfl) rfl<|Ac<|Cg rfl<|Am<|Ay h fun az q h=>AA rfl rfl b (FC _ _ (Ar hH b) q) fun a1 ar t ai=>Ah 0 rfl AW t rfl (Bc rfl) fun a2 g aj=>Ac<|Ax<|An ?_
  cases h
  refine BH rfl (.cell rfl Ack rfl AW (AL (i:=0) g rfl)) ⟨g.ext,rfl⟩
 have h:=BI (CH a) h;refine Aa rfl a<|Ag (Ad rfl) rfl<|Aa rfl a<|Az h fun j h=>Bf rfl rfl AcH LI c ((0:Int).toNat) (EX j) (Ba j) rfl ?_;rintro a3 _ ⟨_,_,rfl,rfl,⟨_,_,rfl,rfl,rfl⟩⟩ u;refine Aa rfl a<|Ag (Ae rfl AcP rfl EZ) rfl ?_;have x:=u.add 0;refine Aa rfl a<|Ag (Bj rfl Ab1 rfl x (Ar hH b)) rfl<|Aa rfl a<|Ag (Ad rfl) rfl<|Aa rfl a<|Ag (Mn rfl rfl) rfl<|Ag (A9 rfl a rfl) rfl<|Ac<|BV rfl h (fun y h=>?_) (fun y h=>?_)
 ·refine Am<|Ay h fun a4 z h=>AA rfl rfl b (FC _ _ (Ar hH b) z) fun a5 au aa ak=>Ah 0 rfl AW aa rfl (Bc rfl) fun a6 k al=>Ac<|Ax<|An ?_
  cases h
  refine BH rfl (.cell rfl Ack rfl AW (AL (i:=0) k rfl)) ⟨k.ext,rfl⟩
 refine Av<|Ao<|Am<|Ag (AR rfl (fun _=>Cf _)) rfl<|Ah 0 rfl AW b rfl (Bc rfl) fun a7 l am=>Ac<|Ax ?_
 cases h
 refine BH rfl (.cell rfl Ack rfl AW (AL (i:=0) l rfl)) ⟨l.ext,rfl⟩
end Go.Proofs.YtekmbcbgknmhiaaGreatDoor
end
noncomputable section
namespace Go.E
open Go Go.RowKit Go.Sort Go.Proofs Go.Shelf
theorem We[Dr]{w w':World}(hd:Dr.on=true)(h:Ext w w'):∃ q os,w'=grow (w.drewN q) os:=by
 refine⟨w'.drawn - w.drawn,w'.heap.extract w.heap.size w'.heap.size,?_⟩;have hd:=h.drawn hd
 have hh:w.heap++w'.heap.extract w.heap.size w'.heap.size=w'.heap:=by
  apply Array.ext_getElem?;intro k
  rcases Nat.lt_or_ge k w.heap.size with hk | hk
  ·rw [Array.getElem?_append_left hk,h.block k hk]
  ·rw [Array.getElem?_append_right hk,Array.getElem?_extract];have:=h.size
   split
   ·congr 1;omega
   ·rw [Array.getElem?_eq_none (by omega)]
 obtain⟨heap,tape,drawn,os,output⟩:=w;obtain⟨heap',tape',drawn',os',output'⟩:=w';have a:=h.os;have h2:=h.tape;have h3:=h.output;simp only at a h2 h3 hd hh;subst a;subst h2;subst h3;simp only [grow,World.drewN,World.mk.injEq,and_true,true_and];exact⟨hh.symm,by omega⟩
section
variable {α:Type} [Inhabited α]
theorem LO(enc:α->Value)(w:World)(g m:Nat)(d:Array α)(os:Array Obj)(k:Nat)(hk:k<w.heap.size):(sortWorld enc w g 0 m d os).heap[k]? = if k=g then(w.heap[k]?).map (onCells (putCells enc 0 d)) else w.heap[k]?:=by
 unfold sortWorld grow putRow mapBlock Sort.ahead;simp only;rw [Array.getElem?_append_left (by simpa using hk),Array.getElem?_modify]
 by_cases h:g=k
 ·subst h;simp
 ·rw [if_neg h,if_neg (fun e=>h e.symm)]
theorem NP(enc:α->Value)(w:World)(g m:Nat)(d:Array α)(os:Array Obj):w.grownBy (sortWorld enc w g 0 m d os) (some g):=
 ⟨rfl,rfl,rfl,by simp [sortWorld,grow,putRow,mapBlock,Sort.ahead],fun k hk hne=>by rw [LO enc w g m d os k hk,if_neg (fun e=>hne (by rw [e]))]⟩
theorem TO(enc:α->Value)(d:Array α)(c:Array Value)(h:d.size<=c.size):(putCells enc 0 d c).toList.take d.size=d.toList.map enc:=by
 apply List.ext_getElem?;intro k;rw [List.getElem?_take]
 by_cases hk:k<d.size
 ·rw [if_pos hk];have hkc:k<c.size:=by omega
  simp [putCells,hk,hkc]
 ·rw [if_neg hk,List.getElem?_eq_none (by simp;omega)]
theorem XU{enc:α->Value}{w:World}{e:TypeId}{g cap n sz m:Nat}{xs:List Value}{d:Array α}{os:Array Obj}(ho:w.ownsRow 0 e sz (.slice (some ⟨g,0,none⟩) n cap) n xs)(hl:d.size=xs.length):
  (sortWorld enc w g 0 m d os).ownsRow 0 e sz (.slice (some ⟨g,0,none⟩) n cap) n (d.toList.map enc):=by
 obtain⟨a,h2⟩:=ho;refine⟨by simp;omega,?_⟩
 rcases h2 with ⟨hc,_⟩ | ⟨g',cap',cur,hv,hb,hg,hnc,hcm,hcs,htake⟩
 ·cases hc
 ·cases hv
  have hgl:=lt_of_heap hg;have hle:n * sz<=cap * sz:=Nat.mul_le_mul_right _ hnc;refine .inr ⟨g,cap,putCells enc 0 d cur,rfl,hb,?_,hnc,hcm,by simp [putCells,hcs],?_⟩
  ·rw [LO enc w g m _ os g hgl,if_pos rfl,hg]
   rfl
  ·have:=TO enc d cur (by omega);rw [show n * sz=d.size by omega];exact this
theorem Pd{enc:α->Value}{w:World}{e:TypeId}{g cap n sz:Nat}{xs:List Value}{d:Array α}(ho:w.ownsRow 0 e sz (.slice (some ⟨g,0,none⟩) n cap) n xs)(hd:d.toList.map enc=xs):Holds enc w g 0 d/\g<w.heap.size:=by
 obtain⟨b,h2⟩:=ho;have hsz:d.size=xs.length:=by rw [<- hd];simp
 rcases h2 with ⟨hc,_⟩ | ⟨g',cap',cur,hv,hb,hg,hnc,hcm,hcs,htake⟩
 ·cases hc
 ·cases hv
  have hle:n * sz<=cap * sz:=Nat.mul_le_mul_right _ hnc;refine⟨fun j hj=>?_,lt_of_heap hg⟩
  constructor
  ·have a:xs[j]? = some (enc d[j]!):=by rw [<- hd];simp [hj]
   have:cur.toList[j]? = some (enc d[j]!):=by
    rw [<- htake,List.getElem?_take,if_pos (by omega)] at a;exact a
   simp only [World.cell?,hg,Nat.zero_add]
   simpa using this
  ·simp [World.frozen?,hg]
end
theorem AbU{w:World}{e:TypeId}{g cap n q:Nat}{xs:List Value}(ho:w.ownsRow 0 e 1 (.slice (some ⟨g,0,none⟩) n cap) n xs)(hq:q<=n):w.ownsRow 0 e 1 (.slice (some ⟨g,0,none⟩) q cap) q (xs.take q):=by
 obtain⟨a,h2⟩:=ho
 rcases h2 with ⟨hc,_⟩ | ⟨g',cap',cur,hv,hb,hg,hnc,hcm,hcs,htake⟩
 ·cases hc
 ·cases hv
  refine⟨by rw [List.length_take,a];omega,.inr ⟨g,cap,cur,rfl,hb,hg,by omega,hcm,hcs,?_⟩⟩;rw [<- htake,List.take_take,Nat.mul_one,Nat.mul_one,Nat.min_eq_left hq]
section
variable {P:Program} {n:Sz} {ops:Array Oper} {Q:Exit->Act->World->Prop} {L:Env} {w w0:World} {O:List BS} {rest:List Oper} {d:Nat} {ty:TypeId} {pos:String} {af:Array Edge} {v:Value} {e:TypeId} {H:PH} {α β:Type} [Inhabited β] {r:Rp α}
theorem SX[Dr]{f i sz:Nat}{at_:Array TypeId}{args:List Operand}{l l':List α}{xs ys:List Value}{dd:Array β}{enc:β->Value}{fa:List Value}(hc:Ip P f)(ha:Qb L args=some (v::fa))(hn:Nat.blt d n.n=true)(hL:Bd w0 O w)(hi:Dy O i=some (.row v e sz l.length xs))(hd:dd.toList.map enc=ys)(hl:l'.length=l.length)(hy:ys.length=xs.length)(hys:l.length=0->ys=xs)
  (hnil:v=.slice none 0 0->Calls P f (v::fa).toArray w fun e w'=>e=.returned (.tuple #[])/\w'=w)
  (hs:∀ g cap,v=.slice (some ⟨g,0,none⟩) l.length cap->l.length<=cap->Calls P f (v::fa).toArray w fun e w'=>e=.returned (.tuple #[])/\∃ m os,w'=sortWorld enc w g 0 m dd os)
  (h:∀ w',Bd w0 (CX O i (.row v e sz l'.length ys)) w'->Le (fz w O) (fz w' (CX O i (.row v e sz l'.length ys)))->S P n ops Q rest ((d,.tuple #[])::L) w') :
  S P n ops Q (⟨some d,.call ⟨.value (.func f),args.toArray,at_⟩,ty,pos,af,none⟩::rest) L w:=by
 have hown:w.ownsRow 0 e sz v l.length xs:=hL.at hi;rw [hl] at h
 rcases hown.2 with ⟨hv,c⟩ | ⟨j,cap,cur,hv,k,o,hnc,_⟩
 ·refine QI rfl fun a fr=>?_;unfold Oper.wp;rw [JN hc ha _ fr.RC];refine(hnil hv).mono fun en w' ⟨he,hw⟩=>?_;subst he;subst hw;have hyx:=hys c;subst hyx;exact h w' (hL.MC hi (Nat.le_refl _) (World.grownBy.refl _ _) (hL.at hi) (fun b e=>.inl e)) (HK (r':=.row v e sz l.length ys) hL hi (World.grownBy.refl _ _) (fun b e=>.inl e)) _ (fr.put hn)
 ·refine QI rfl fun a fr=>?_;unfold Oper.wp;rw [JN hc ha _ fr.RC];refine(hs j cap hv hnc).mono fun en w' ⟨he,m,os,hw⟩=>?_;subst he;have hgr:=NP enc w j m dd os;rw [<- hw] at hgr
  have hok:(BS.row v e sz l.length ys).ok w':=by
   rw [hw,hv,<- hd];refine XU (by rw [<- hv];exact hown) ?_;have:dd.toList.length=ys.length:=by rw [<- hd];simp
   simpa [hy] using this
  have hdr:w.drawn<=w'.drawn:=by rw [hw];exact Nat.le_add_right _ _
  have hgr':w.grownBy w' (BS.row v e sz l.length xs).block:=by rw [hv];exact hgr
  exact h w' (hL.MC hi hdr hgr' hok (fun b e=>.inl e)) (HK (r':=.row v e sz l.length ys) hL hi hgr' (fun b e=>.inl e)) _ (fr.put hn)
theorem Y3[Dr]{f i:Nat}{at_:Array TypeId}{args:List Operand}{l:List α}{l':List β}{z:β}{xs:List Value}{enc:β->Value}(hc:Ip P f)(ha:Qb L args=some [v])(hn:Nat.blt d n.n=true)(hL:Bd w0 O w)(hi:Dy O i=some (.row v e 1 l.length xs))(hle:l'.length<=l.length)
  (hnil:v=.slice none 0 0->Calls P f #[v] w fun e w'=>e=.returned v/\w'=w)
  (hs:∀ g cap,v=.slice (some ⟨g,0,none⟩) l.length cap->l.length<=cap->Calls P f #[v] w fun e w'=>e=.returned (.slice (some ⟨g,0,none⟩) l'.length cap)/\∃ q,w'=putRow enc (Sort.ahead w q) g 0 (l'++List.replicate (l.length - l'.length) z).toArray)
  (h:∀ v' w',Bd w0 (CX O i (.row v' e 1 l'.length (l'.map enc))) w'->Le (fz w O) (fz w' (CX O i (.row v' e 1 l'.length (l'.map enc))))->S P n ops Q rest ((d,v')::L) w') :
  S P n ops Q (⟨some d,.call ⟨.value (.func f),args.toArray,at_⟩,ty,pos,af,none⟩::rest) L w:=by
 have hown:w.ownsRow 0 e 1 v l.length xs:=hL.at hi
 rcases hown.2 with ⟨hv,k⟩ | ⟨c,cap,cur,hv,t,u,hnc,_⟩
 ·have o:l'=[]:=List.eq_nil_of_length_eq_zero (by omega);subst o;refine QI rfl fun a fr=>?_;unfold Oper.wp;rw [JN hc ha _ fr.RC];refine(hnil hv).mono fun en w' ⟨he,hw⟩=>?_;subst he;subst hw;have p:xs=[]:=List.eq_nil_of_length_eq_zero (by rw [hown.1,k])
  have hok:(BS.row v e 1 ([]:List β).length (([]:List β).map enc)).ok w':=by
   have:=hL.at hi;rw [k,p] at this;exact this
  exact h v w' (hL.MC hi (Nat.le_refl _) (World.grownBy.refl _ _) hok (fun b e=>.inl e)) (HK (r':=.row v e 1 ([]:List β).length (([]:List β).map enc)) hL hi (World.grownBy.refl _ _) (fun b e=>.inl e)) _ (fr.put hn)
 ·refine QI rfl fun a fr=>?_;unfold Oper.wp;rw [JN hc ha _ fr.RC];refine(hs c cap hv hnc).mono fun en w' ⟨he,q,hw⟩=>?_;subst he;have j:w'=sortWorld enc w c 0 q (l'++List.replicate (l.length - l'.length) z).toArray #[]:=by rw [hw];unfold sortWorld;rw [grow_empty]
  have hgr:=NP enc w c q (l'++List.replicate (l.length - l'.length) z).toArray #[];rw [<- j] at hgr
  have hok:(BS.row (.slice (some ⟨c,0,none⟩) l'.length cap) e 1 l'.length (l'.map enc)).ok w':=by
   have s:w'.ownsRow 0 e 1 (.slice (some ⟨c,0,none⟩) l.length cap) l.length ((l'++List.replicate (l.length - l'.length) z).map enc):=by
    have r:=XU (enc:=enc) (m:=q) (d:=(l'++List.replicate (l.length - l'.length) z).toArray) (os:=#[]) (by rw [<- hv];exact hown) (by have:=hown.1;simp;omega);rw [<- j] at r
    simpa using r
   have h2:=AbU s hle
   rwa [List.map_append,List.take_left' (by simp)] at h2
  have hdr:w.drawn<=w'.drawn:=by rw [j];exact Nat.le_add_right _ _
  have hgr':w.grownBy w' (BS.row v e 1 l.length xs).block:=by rw [hv];exact hgr
  have hb:∀ b,(BS.row (.slice (some ⟨c,0,none⟩) l'.length cap) e 1 l'.length (l'.map enc)).block=some b->(BS.row v e 1 l.length xs).block=some b:=fun b e=>by rw [hv];exact e
  exact h _ w' (hL.MC hi hdr hgr' hok (fun b e=>.inl (hb b e))) (HK (r':=.row (.slice (some ⟨c,0,none⟩) l'.length cap) e 1 l'.length (l'.map enc)) hL hi hgr' (fun b e=>.inl (hb b e))) _ (fr.put hn)
end
theorem SZ{H:PH}{l:List Int}{xs:List Value}(h:AJ (.int .i64) H l xs):l.map (Value.int .i64)=xs:=by
 induction h with
 | nil=>rfl
 | cons h _ ih=>cases h;rw [List.map_cons,ih];rfl
theorem Qo(H:PH):∀ l:List Int,AJ (.int .i64) H l (l.map (Value.int .i64))
 | []=>.nil
 | _::l=>.cons (c:=[_]) rfl (Qo H l)
section
variable {P:Program} {n:Sz} {ops:Array Oper} {Q:Exit->Act->World->Prop} {L:Env} {w w0:World} {O:List BS} {rest:List Oper} {d:Nat} {ty:TypeId} {pos:String} {af:Array Edge} {v:Value} {e:TypeId} {H:PH} {ρr:Go.Shelf.Ren} {f i:Nat} {at_:Array TypeId} {args:List Operand} {xs:List Value}
def AeK(l:List (List UInt8)):List (List UInt8):=l.mergeSort fun x y=>decide (x<=y)
def O2(l:List Int):List Int:=l.mergeSort fun x y=>decide (x<=y)
theorem AbV[Dr]{l:List Int}(Ls:Lays.n189 P ρr)(hf:ρr.f 189=f)(hc:Ip P f)(ha:Qb L args=some [v])(hn:Nat.blt d n.n=true)(hH:Le H (hp w0))(hL:Bd w0 O w)(hi:Dy O i=some (.row v e 1 l.length xs))(he:AJ (.int .i64) (gz H w0 w O) l xs)(hlen:l.length<4611686018427387904)
  (h:∀ w' xs',Bd w0 (CX O i (.row v e 1 (O2 l).length xs')) w'->Le (fz w O) (fz w' (CX O i (.row v e 1 (O2 l).length xs')))->AJ (.int .i64) (gz H w0 w' (CX O i (.row v e 1 (O2 l).length xs'))) (O2 l) xs'->S P n ops Q rest ((d,.tuple #[])::L) w') :
  S P n ops Q (⟨some d,.call ⟨.value (.func f),args.toArray,at_⟩,ty,pos,af,none⟩::rest) L w:=by
 have hxs:=SZ he;have hll:(O2 l).length=l.length:=List.length_mergeSort _;subst hf;refine SX (l':=O2 l) (enc:=Value.int .i64) (dd:=(O2 l).toArray) (ys:=(O2 l).map (Value.int .i64)) hc ha hn hL hi (by simp) hll (by rw [<- hxs];simp [hll]) (fun a=>?_) (fun hv=>?_) (fun g cap hv hcap=>?_) (fun w' b h2=>h w' _ b h2 (Qo _ _))
 ·have:l=[]:=List.eq_nil_of_length_eq_zero a;subst this;rw [<- hxs,show O2 []=[] from List.mergeSort_nil]
 ·subst hv;exact Any.slices_Sort_int_none Ls none 0 w
 ·have hown:w.ownsRow 0 e 1 v l.length xs:=hL.at hi;rw [hv] at hown;obtain⟨hH',hblk⟩:=Pd (enc:=Value.int .i64) (d:=l.toArray) hown (by simpa using hxs);subst hv;exact Any.slices_Sort_int Ls g 0 cap l w hH' hblk hlen
theorem Xc{α:Type}[Inhabited α][DecidableEq α](l:List α):(Lib.compact l).length<=l.length:=by
 unfold Lib.compact Lib.compactUpTo;rw [List.length_map];exact Nat.le_trans (List.length_filter_le _ _) (by simp)
theorem AbW[Dr]{l:List Int}(Ls:Lays2.n20 P ρr)(hf:ρr.f 20=f)(hc:Ip P f)(ha:Qb L args=some [v])(hn:Nat.blt d n.n=true)(hH:Le H (hp w0))(hL:Bd w0 O w)(hi:Dy O i=some (.row v e 1 l.length xs))(he:AJ (.int .i64) (gz H w0 w O) l xs)(hlen:l.length<=9223372036854775807)
  (h:∀ v' w' xs',Bd w0 (CX O i (.row v' e 1 (Lib.compact l).length xs')) w'->Le (fz w O) (fz w' (CX O i (.row v' e 1 (Lib.compact l).length xs')))->AJ (.int .i64) (gz H w0 w' (CX O i (.row v' e 1 (Lib.compact l).length xs'))) (Lib.compact l) xs'->S P n ops Q rest ((d,v')::L) w') :
  S P n ops Q (⟨some d,.call ⟨.value (.func f),args.toArray,at_⟩,ty,pos,af,none⟩::rest) L w:=by
 have hxs:=SZ he;subst hf;refine Y3 (l':=Lib.compact l) (enc:=Value.int .i64) (z:=0) hc ha hn hL hi (Xc l) (fun hv=>?_) (fun g cap hv hcap=>?_) (fun v' w' a h2=>h v' w' _ a h2 (Qo _ _))
 ·subst hv;exact Any.slices_Compact_int_empty Ls none 0 w
 ·have hown:w.ownsRow 0 e 1 v l.length xs:=hL.at hi;rw [hv] at hown;obtain⟨hH',hblk⟩:=Pd (enc:=Value.int .i64) (d:=l.toArray) hown (by simpa using hxs);subst hv;exact Any.slices_Compact_int Ls g 0 cap l w hH' hlen hcap
end
end Go.E
end
noncomputable section
namespace Go.L
theorem Ta{a b:UInt8}(c : ¬ a<b)(h2 : ¬ b<a):a=b:=UInt8.toNat.inj (by rw [UInt8.lt_iff_toNat_lt] at c h2;omega)
theorem LP:∀ l m:List UInt8,Lib.compareBytes l m = - Lib.compareBytes m l
 | [],[]=>rfl
 | [],_::_=>rfl
 | _::_,[]=>rfl
 | a::l,b::m=>by
  have ih:=LP l m;unfold Lib.compareBytes
  by_cases c:a<b
  ·have h2 : ¬ b<a:=fun h=>by have:=UInt8.lt_iff_toNat_lt.1 h;have:=UInt8.lt_iff_toNat_lt.1 c;omega
   rw [if_pos c,if_neg h2,if_pos c]
  ·by_cases h2:b<a
   ·rw [if_neg c,if_pos h2,if_pos h2];rfl
   ·rw [if_neg c,if_neg h2,if_neg h2,if_neg c,ih]
theorem O3:∀ l m:List UInt8,Lib.compareBytes l m=0->l=m
 | [],[],_=>rfl
 | [],_::_,h=>by cases h
 | _::_,[],h=>by cases h
 | a::l,b::m,h=>by
  unfold Lib.compareBytes at h
  split at h
  ·cases h
  ·rename_i c
   split at h
   ·cases h
   ·rename_i h2;have e:a=b:=Ta c h2;rw [e,O3 l m h]
theorem Wf:∀ l:List UInt8,Lib.compareBytes l l=0
 | []=>rfl
 | a::l=>by
  have h : ¬ a<a:=fun h=>by have:=UInt8.lt_iff_toNat_lt.1 h;omega
  unfold Lib.compareBytes;rw [if_neg h,if_neg h,Wf l]
theorem Nd:∀ l m k:List UInt8,Lib.compareBytes l m<0->Lib.compareBytes m k<0->Lib.compareBytes l k<0
 | [],[],_,h,_=>by simp [Lib.compareBytes] at h
 | [],_::_,[],_,h=>by simp [Lib.compareBytes] at h
 | [],_::_,_::_,_,_=>by simp [Lib.compareBytes]
 | _::_,[],_,h,_=>by simp [Lib.compareBytes] at h
 | _::_,_::_,[],_,h=>by simp [Lib.compareBytes] at h
 | a::l,b::m,c::k,d,h2=>by
  have ih:=Nd l m k;unfold Lib.compareBytes at d h2 ⊢
  by_cases hab:a<b
  ·by_cases hbc:b<c
   ·rw [if_pos (UInt8.lt_iff_toNat_lt.2 (by have:=UInt8.lt_iff_toNat_lt.1 hab;have:=UInt8.lt_iff_toNat_lt.1 hbc;omega))];decide
   ·rw [if_neg hbc] at h2
    by_cases hcb:c<b
    ·rw [if_pos hcb] at h2;omega
    ·have e:b=c:=Ta hbc hcb;subst e;rw [if_pos hab];decide
  ·rw [if_neg hab] at d
   by_cases hba:b<a
   ·rw [if_pos hba] at d;omega
   ·rw [if_neg hba] at d;have e:a=b:=Ta hab hba;subst e
    by_cases hac:a<c
    ·rw [if_pos hac];decide
    ·rw [if_neg hac] at h2 ⊢
     by_cases hca:c<a
     ·rw [if_pos hca] at h2;omega
     ·rw [if_neg hca] at h2 ⊢;exact ih d h2
structure RF {α:Type} (c:α->α->Int):Prop where
 swap:∀ x y,c x y = - c y x
 zero:∀ x y,c x y=0->x=y
 trans:∀ x y z,c x y<0->c y z<0->c x z<0
theorem Aeq:RF Go.Lib.compareBytes:=⟨LP,O3,Nd⟩
def Wg(a b:Int):Int:=if a<b then -1 else if b<a then 1 else 0
theorem Aer:RF Wg:=by
 constructor
 ·intro x y;unfold Wg;rcases Int.lt_trichotomy x y with h | h | h
  ·rw [if_pos h,if_neg (by omega),if_pos h]
  ·subst h;rw [if_neg (Int.lt_irrefl _),if_neg (Int.lt_irrefl _)];rfl
  ·rw [if_neg (by omega),if_pos h,if_pos h];rfl
 ·intro x y h;unfold Wg at h;split at h;cases h;split at h;cases h;omega
 ·intro x y z a h2;unfold Wg at *
  split at a
  ·split at h2
   ·rw [if_pos (by omega)];decide
   ·split at h2 <;> omega
  ·split at a <;> omega
def Wh{α β:Type}(c:α->α->Int)(d:β->β->Int)(x y:α×β):Int:=if c x.1 y.1=0 then d x.2 y.2 else c x.1 y.1
theorem Xd{α β:Type}{c:α->α->Int}{d:β->β->Int}(hc:RF c)(hd:RF d):RF (Wh c d):=by
 constructor
 ·intro x y;unfold Wh;have:=hc.swap x.1 y.1
  by_cases h:c x.1 y.1=0
  ·rw [if_pos h,if_pos (by omega)];exact hd.swap _ _
  ·rw [if_neg h,if_neg (by omega)];exact this
 ·intro x y h;unfold Wh at h
  split at h
  ·rename_i a;exact Prod.ext (hc.zero _ _ a) (hd.zero _ _ h)
  ·rename_i a;exact absurd h a
 ·intro x y z a h2;unfold Wh at *
  by_cases e:c x.1 y.1=0
  ·rw [if_pos e] at a;have:=hc.zero _ _ e;rw [this]
   by_cases b:c y.1 z.1=0
   ·rw [if_pos b] at h2 ⊢;exact hd.trans _ _ _ a h2
   ·rw [if_neg b] at h2 ⊢;exact h2
  ·rw [if_neg e] at a
   by_cases b:c y.1 z.1=0
   ·have:=hc.zero _ _ b;rw [<- this,if_neg e];exact a
   ·rw [if_neg b] at h2;have:=hc.trans _ _ _ a h2;rw [if_neg (by omega)];exact this
theorem RF.swo{α:Type}{c:α->α->Int}(h:RF c):Go.Sort.SWO (Go.Proofs.ltOf c):=by
 have hs:=fun x=>h.swap x x
 constructor
 ·intro x;have:=hs x;simp only [Go.Proofs.ltOf,decide_eq_false_iff_not];omega
 ·intro x y z b h2;simp only [Go.Proofs.ltOf,decide_eq_true_eq] at *;exact h.trans _ _ _ b h2
 ·intro x y z b h2;simp only [Go.Proofs.ltOf,decide_eq_false_iff_not] at *;intro h3;have s1:=h.swap x y;have d:=h.swap y z
  rcases Int.lt_trichotomy (c y x) 0 with a | a | a
  ·have:=h.trans _ _ _ a h3;omega
  ·rw [h.zero _ _ a] at h2;omega
  ·omega
theorem RF.parts{α:Type}{c:α->α->Int}(h:RF c)(x y:α)(a:Go.Proofs.ltOf c x y=false)(h2:Go.Proofs.ltOf c y x=false):x=y:=by
 simp only [Go.Proofs.ltOf,decide_eq_false_iff_not] at a h2;have:=h.swap x y;exact h.zero _ _ (by omega)
abbrev Lf:Type:=List UInt8×Int×Int×List UInt8
def Qp:Lf->Lf->Int:=Wh Go.Lib.compareBytes (Wh Wg (Wh Wg Go.Lib.compareBytes))
theorem R2:RF Qp:=Xd Aeq (Xd Aer (Xd Aer Aeq))
def Qq(l:List Lf):List Lf:=l.mergeSort fun x y=>!(Go.Proofs.ltOf Qp) y x
theorem Wi(l:List Lf):(Qq l).length=l.length:=List.length_mergeSort _
end Go.L
namespace Go.Proofs.YtekmbcbgknmhiaaGreatDoor
open Go Go.L Go.E
theorem AbX(a b:Int):HD a b=some (Wg a b):=by
 unfold HD cmp_isNaN_int Wg;simp only [Option.bind_some,decide_true,Bool.not_true,Bool.false_eq_true,if_false]
 split
 ·rfl
 ·split <;> rfl
theorem AbY(a b:List UInt8):strings_Compare a b=some (Lib.compareBytes a b):=rfl
theorem Ad2(a b c d:Int):N4 [a,b,c,d]=some (if a=0 then(if b=0 then(if c=0 then d else c) else b) else a):=by
 unfold N4 P7
 have step:∀ (i:Nat) (x:Int),[a,b,c,d][i]? = some x->x=0->E1 [a,b,c,d] (i:Int)=some (.inl ((i+1:Nat):Int)):=fun i x hx e=>by
  have hi:i<4:=(List.getElem?_eq_some_iff.1 hx).1;unfold E1;rw [if_pos (by simp;omega),Al (by simp;omega),if_pos (by rw [Int.toNat_natCast,List.getD_eq_getElem?_getD,hx];exact e),Al (by unfold B0;omega)]
  rfl
 have stop:∀ (i:Nat) (x:Int),[a,b,c,d][i]? = some x->x≠0->Go.L.run (E1 [a,b,c,d]) (i:Int)=some x:=fun i x hx e=>by
  have hi:i<4:=(List.getElem?_eq_some_iff.1 hx).1;refine Bh ?_;unfold E1;have hg:[a,b,c,d].getD (i:Int).toNat default=x:=by rw [Int.toNat_natCast,List.getD_eq_getElem?_getD,hx];rfl
  rw [if_pos (by simp;omega),Al (by simp;omega),hg,if_neg e]
 have last:Go.L.run (E1 [a,b,c,d]) ((4:Nat):Int)=some 0:=by
  refine Bh ?_;unfold E1;rw [if_neg (by simp)]
  rfl
 show Go.L.run _ ((0:Nat):Int)=_
 by_cases ha:a=0
 ·rw [if_pos ha,B2 (step 0 a rfl ha)]
  by_cases hb:b=0
  ·rw [if_pos hb,B2 (step 1 b rfl hb)]
   by_cases hc:c=0
   ·rw [if_pos hc,B2 (step 2 c rfl hc)]
    by_cases hd:d=0
    ·rw [B2 (step 3 d rfl hd)];rw [hd] at last ⊢;exact last
    ·exact stop 3 d rfl hd
   ·rw [if_neg hc];exact stop 2 c rfl hc
  ·rw [if_neg hb];exact stop 1 b rfl hb
 ·rw [if_neg ha];exact stop 0 a rfl ha
theorem Xe(x y:Lf):IX x y=some (Qp x y):=by
 unfold IX Qp Wh;simp only [AbY,AbX,Ad2,Option.bind_some]
end Go.Proofs.YtekmbcbgknmhiaaGreatDoor
end
noncomputable section
namespace Go.L
def iota(n:Nat):List Int:=(List.range n).map fun i:Nat=>(i:Int)
theorem KO(n:Nat):(iota n).length=n:=by simp [iota]
def PB(n:Nat):List (Fin (n+1)):=(List.range n).map fun i=>Fin.ofNat (n+1) i
theorem Y4(n:Nat):(PB n).map (fun x=>(x.val:Int))=iota n:=by
 unfold PB iota;rw [List.map_map];apply List.map_congr_left;intro i hi;have:=List.mem_range.1 hi
 show((i % (n+1):Nat):Int)=(i:Int)
 rw [Nat.mod_eq_of_lt (by omega)]
def LQ(a:List UInt8)(x y:Fin (a.length+1)):Int:=Lib.compareBytes (a.drop x.val) (a.drop y.val)
def ZY(a:List UInt8):List (Fin (a.length+1)):=(PB a.length).mergeSort fun x y=>!(Go.Proofs.ltOf (LQ a)) y x
def JS(a:List UInt8):List Int:=(ZY a).map fun x=>(x.val:Int)
theorem AbZ{α:Type}(f:α->List UInt8):Go.Sort.SWO (Go.Proofs.ltOf fun x y=>Lib.compareBytes (f x) (f y)):=by
 constructor
 ·intro x;simp [Go.Proofs.ltOf,Wf]
 ·intro x y z a h2;unfold Go.Proofs.ltOf at *;simp only [decide_eq_true_eq] at *;exact Nd _ _ _ a h2
 ·intro x y z a h2;unfold Go.Proofs.ltOf at *;simp only [decide_eq_false_iff_not] at *;intro h3;have s1:=LP (f x) (f y);have b:=LP (f y) (f z)
  rcases Int.lt_trichotomy (Lib.compareBytes (f y) (f x)) 0 with h | h | h
  ·have:=Nd _ _ _ h h3;omega
  ·rw [O3 _ _ h] at h2;omega
  ·omega
theorem Qr(a:List UInt8)(x y:Fin (a.length+1))(b:Go.Proofs.ltOf (LQ a) x y=false)(h2:Go.Proofs.ltOf (LQ a) y x=false):x=y:=by
 unfold Go.Proofs.ltOf at b h2;simp only [decide_eq_false_iff_not] at b h2;have s:=LP (a.drop x.val) (a.drop y.val);unfold LQ at b h2;have:=O3 _ _ (show Lib.compareBytes (a.drop x.val) (a.drop y.val)=0 by omega);have hl:(a.drop x.val).length=(a.drop y.val).length:=by rw [this]
 simp only [List.length_drop] at hl;have:=x.isLt;have:=y.isLt;exact Fin.ext (by omega)
end Go.L
end
noncomputable section
namespace Go.Proofs
open Go.Shelf
def Tryz.Lt:Go.Shelf.Ren:=⟨fun | 146=>113 | 221=>166 | 268=>216 | 138=>217 | 143=>218 | 195=>263 | 197=>264 | 218=>265 | 219=>266 | 260=>317 | 217=>223 | 225=>269 | 224=>268 | 267=>318 | 266=>270 | 314=>333 | n=>n,fun | 9=>9 | 31=>22 | 3=>3 | 4=>4 | 0=>0 | 105=>280 | 21=>21 | 5=>5 | 46=>171 | 119=>349 | 139=>352 | 138=>351 | 146=>361 | 51=>285 | n=>n,fun | 1=>0 | 3=>4 | 4=>5 | n=>n⟩
open _root_.Go.Proofs.Tryz
theorem kTr{α:Type}{a:Option α}{b c:α}(h:a=some b)(e:b=c:=by kernel_rfl):a=some c:=h.trans (congrArg some e)
theorem Tryz.Tb:Go.Proofs.Lays.n146 prog Tryz.Lt:={
 mixed:=by kernel_rfl
 f138:=kTr func217
 f143:=kTr func218
 f146:=kTr func113
 f195:=kTr func263
 f197:=kTr func264
 f217:=kTr func223
 f218:=kTr func265
 f219:=kTr func266
 f221:=kTr func166
 f224:=kTr func268
 f225:=kTr func269
 f260:=kTr func317
 f266:=kTr func270
 f267:=kTr func318
 f268:=kTr func216
 f314:=kTr func333
 t0:=AcS
 a0:=isAgg0
 z0:=sizeOf0
 v0:=zeroValue0
 t3:=Abn
 a3:=isAgg3
 z3:=sizeOf3
 v3:=zeroValue3
 t4:=AcV
 a4:=isAgg4
 z4:=sizeOf4
 v4:=zeroValue4
 t5:=Ac5
 a5:=isAgg5
 z5:=sizeOf5
 v5:=zeroValue5
 t9:=Ab1
 a9:=isAgg9
 z9:=sizeOf9
 v9:=zeroValue9
 t21:=Adm
 a21:=isAgg21
 z21:=sizeOf21
 v21:=zeroValue21
 t31:=Ac7
 a31:=isAgg22
 z31:=sizeOf22
 v31:=zeroValue22
 t46:=Ad4
 a46:=isAgg171
 z46:=sizeOf171
 v46:=zeroValue171
 t51:=AdA
 a51:=isAgg285
 z51:=sizeOf285
 v51:=zeroValue285
 t105:=AdC
 a105:=isAgg280
 z105:=sizeOf280
 v105:=zeroValue280
 t119:=AdF
 a119:=isAgg349
 z119:=sizeOf349
 t138:=AdM
 a138:=isAgg351
 z138:=sizeOf351
 v138:=zeroValue351
 t139:=AdR
 a139:=isAgg352
 z139:=sizeOf352
 v139:=zeroValue352
 t146:=AdS
 a146:=isAgg361
 z146:=sizeOf361
 v146:=zeroValue361
 g1:=by kernel_rfl
 g3:=by kernel_rfl
 g4:=by kernel_rfl}
def Tryz.R3:Go.Shelf.Ren:=⟨fun | 156=>63 | 165=>104 | 166=>105 | 169=>106 | 240=>160 | 241=>161 | 276=>208 | 277=>209 | n=>n,fun | 31=>22 | 9=>9 | 3=>3 | 4=>4 | 0=>0 | 20=>20 | 72=>164 | 76=>168 | 70=>162 | 37=>23 | 75=>167 | 127=>219 | 164=>261 | 5=>5 | 80=>170 | n=>n,fun | n=>n⟩
theorem Tryz.XV:Go.Proofs.Lays.n156 prog Tryz.R3:={
 mixed:=by kernel_rfl
 f156:=kTr func63
 f165:=kTr func104
 f166:=kTr func105
 f169:=kTr func106
 f240:=kTr func160
 f241:=kTr func161
 f276:=kTr func208
 f277:=kTr func209
 t0:=AcS
 a0:=isAgg0
 z0:=sizeOf0
 v0:=zeroValue0
 t3:=Abn
 a3:=isAgg3
 z3:=sizeOf3
 v3:=zeroValue3
 t4:=AcV
 a4:=isAgg4
 z4:=sizeOf4
 v4:=zeroValue4
 t9:=Ab1
 a9:=isAgg9
 z9:=sizeOf9
 v9:=zeroValue9
 t20:=AdT
 a20:=isAgg20
 z20:=sizeOf20
 v20:=zeroValue20
 t31:=Ac7
 a31:=isAgg22
 z31:=sizeOf22
 v31:=zeroValue22
 t37:=AbF
 a37:=isAgg23
 z37:=sizeOf23
 v37:=zeroValue23
 t70:=AdU
 a70:=isAgg162
 z70:=sizeOf162
 v70:=zeroValue162
 t72:=AdV
 a72:=isAgg164
 z72:=sizeOf164
 v72:=zeroValue164
 t75:=AdW
 a75:=isAgg167
 z75:=sizeOf167
 v75:=zeroValue167
 t76:=AdX
 a76:=isAgg168
 z76:=sizeOf168
 v76:=zeroValue168
 t127:=AdZ
 a127:=isAgg219
 z127:=sizeOf219
 v127:=zeroValue219
 t164:=Aek
 a164:=isAgg261
 z164:=sizeOf261
 v164:=zeroValue261}
def Tryz.Y5:Go.Shelf.Ren:=⟨fun | 17=>205 | 15=>257 | 20=>314 | n=>n,fun | 9=>9 | 23=>260 | 4=>4 | 3=>3 | 0=>0 | 21=>21 | n=>n,fun | n=>n⟩
theorem Tryz.Aes:Go.Proofs.LaysGw.n17 prog Tryz.Y5:={
 mixed:=by kernel_rfl
 f15:=kTr func257
 f17:=kTr func205
 f20:=kTr func314
 t0:=AcS
 a0:=isAgg0
 z0:=sizeOf0
 v0:=zeroValue0
 i0:=by kernel_rfl
 t3:=Abn
 a3:=isAgg3
 z3:=sizeOf3
 v3:=zeroValue3
 i3:=by kernel_rfl
 t4:=AcV
 a4:=isAgg4
 z4:=sizeOf4
 v4:=zeroValue4
 i4:=by kernel_rfl
 t9:=Ab1
 a9:=isAgg9
 z9:=sizeOf9
 v9:=zeroValue9
 i9:=by kernel_rfl
 t21:=Adm
 a21:=isAgg21
 z21:=sizeOf21
 v21:=zeroValue21
 i21:=by kernel_rfl
 t23:=Ae3
 a23:=isAgg260
 z23:=sizeOf260
 v23:=zeroValue260
 i23:=by kernel_rfl}
def Tryz.Y6:Go.Shelf.Ren:=⟨fun | 137=>168 | 217=>223 | 266=>270 | n=>n,fun | 9=>9 | 5=>5 | 3=>3 | n=>n,fun | n=>n⟩
theorem Tryz.Aet:Go.Proofs.Lays.n137 prog Tryz.Y6:={
 mixed:=by kernel_rfl
 f137:=kTr func168
 f217:=kTr func223
 f266:=kTr func270
 t3:=Abn
 a3:=isAgg3
 z3:=sizeOf3
 v3:=zeroValue3
 t5:=Ac5
 a5:=isAgg5
 z5:=sizeOf5
 v5:=zeroValue5
 t9:=Ab1
 a9:=isAgg9
 z9:=sizeOf9
 v9:=zeroValue9}
def Tryz.Y7:Go.Shelf.Ren:=⟨fun | 190=>183 | 125=>185 | 258=>234 | 128=>235 | 129=>236 | 302=>287 | 303=>288 | 304=>289 | 305=>290 | 306=>291 | 307=>292 | 308=>293 | 309=>294 | 310=>295 | 333=>325 | 329=>306 | 330=>307 | 334=>326 | 335=>327 | 336=>328 | 344=>337 | n=>n,fun | 31=>22 | 9=>9 | 3=>3 | 46=>171 | 0=>0 | 51=>285 | 53=>205 | 4=>4 | 183=>289 | 182=>288 | 131=>294 | 5=>5 | 218=>333 | 222=>337 | 228=>357 | 229=>229 | n=>n,fun | n=>n⟩
theorem Tryz.AcK:Go.Proofs.Lays.n190 prog Tryz.Y7:={
 mixed:=by kernel_rfl
 f125:=kTr func185
 f128:=kTr func235
 f129:=kTr func236
 f190:=kTr func183
 f258:=kTr func234
 f302:=kTr func287
 f303:=kTr func288
 f304:=kTr func289
 f305:=kTr func290
 f306:=kTr func291
 f307:=kTr func292
 f308:=kTr func293
 f309:=kTr func294
 f310:=kTr func295
 f329:=kTr func306
 f330:=kTr func307
 f333:=kTr func325
 f334:=kTr func326
 f335:=kTr func327
 f336:=kTr func328
 f344:=kTr func337
 t0:=AcS
 a0:=isAgg0
 z0:=sizeOf0
 v0:=zeroValue0
 t3:=Abn
 a3:=isAgg3
 z3:=sizeOf3
 v3:=zeroValue3
 t4:=AcV
 a4:=isAgg4
 z4:=sizeOf4
 v4:=zeroValue4
 t5:=Ac5
 a5:=isAgg5
 z5:=sizeOf5
 v5:=zeroValue5
 t9:=Ab1
 a9:=isAgg9
 z9:=sizeOf9
 v9:=zeroValue9
 t31:=Ac7
 a31:=isAgg22
 z31:=sizeOf22
 v31:=zeroValue22
 t46:=Ad4
 a46:=isAgg171
 z46:=sizeOf171
 v46:=zeroValue171
 t51:=AdA
 a51:=isAgg285
 z51:=sizeOf285
 v51:=zeroValue285
 t53:=Ae9
 a53:=isAgg205
 z53:=sizeOf205
 v53:=zeroValue205
 t131:=AeA
 a131:=isAgg294
 z131:=sizeOf294
 v131:=zeroValue294
 t182:=AeF
 a182:=isAgg288
 z182:=sizeOf288
 v182:=zeroValue288
 t183:=AeH
 a183:=isAgg289
 z183:=sizeOf289
 v183:=zeroValue289
 t218:=AeI
 a218:=isAgg333
 z218:=sizeOf333
 v218:=zeroValue333
 t222:=AeJ
 a222:=isAgg337
 z222:=sizeOf337
 v222:=zeroValue337
 t228:=AeP
 a228:=isAgg357
 z228:=sizeOf357
 v228:=zeroValue357
 t229:=AeQ
 a229:=isAgg229
 z229:=sizeOf229
 v229:=zeroValue229}
def Tryz.Y8:Go.Shelf.Ren:=⟨fun | 189=>139 | 125=>185 | 257=>190 | 128=>235 | 129=>236 | 294=>240 | 295=>241 | 296=>242 | 297=>243 | 298=>244 | 299=>245 | 216=>246 | 300=>247 | 301=>248 | 328=>305 | 329=>306 | 330=>307 | 331=>308 | 332=>309 | 215=>239 | 343=>332 | n=>n,fun | 28=>58 | 3=>3 | 46=>171 | 0=>0 | 51=>285 | 53=>205 | 4=>4 | 183=>289 | 182=>288 | 131=>294 | 5=>5 | 9=>9 | 218=>333 | 222=>337 | 228=>357 | 229=>229 | n=>n,fun | n=>n⟩
theorem Tryz.Aeu:Go.Proofs.Lays.n189 prog Tryz.Y8:={
 mixed:=by kernel_rfl
 f125:=kTr func185
 f128:=kTr func235
 f129:=kTr func236
 f189:=kTr func139
 f215:=kTr func239
 f216:=kTr func246
 f257:=kTr func190
 f294:=kTr func240
 f295:=kTr func241
 f296:=kTr func242
 f297:=kTr func243
 f298:=kTr func244
 f299:=kTr func245
 f300:=kTr func247
 f301:=kTr func248
 f328:=kTr func305
 f329:=kTr func306
 f330:=kTr func307
 f331:=kTr func308
 f332:=kTr func309
 f343:=kTr func332
 t0:=AcS
 a0:=isAgg0
 z0:=sizeOf0
 v0:=zeroValue0
 t3:=Abn
 a3:=isAgg3
 z3:=sizeOf3
 v3:=zeroValue3
 t4:=AcV
 a4:=isAgg4
 z4:=sizeOf4
 v4:=zeroValue4
 t5:=Ac5
 a5:=isAgg5
 z5:=sizeOf5
 v5:=zeroValue5
 t9:=Ab1
 a9:=isAgg9
 z9:=sizeOf9
 v9:=zeroValue9
 t28:=Abm
 a28:=isAgg58
 z28:=sizeOf58
 v28:=zeroValue58
 t46:=Ad4
 a46:=isAgg171
 z46:=sizeOf171
 v46:=zeroValue171
 t51:=AdA
 a51:=isAgg285
 z51:=sizeOf285
 v51:=zeroValue285
 t53:=Ae9
 a53:=isAgg205
 z53:=sizeOf205
 v53:=zeroValue205
 t131:=AeA
 a131:=isAgg294
 z131:=sizeOf294
 v131:=zeroValue294
 t182:=AeF
 a182:=isAgg288
 z182:=sizeOf288
 v182:=zeroValue288
 t183:=AeH
 a183:=isAgg289
 z183:=sizeOf289
 v183:=zeroValue289
 t218:=AeI
 a218:=isAgg333
 z218:=sizeOf333
 v218:=zeroValue333
 t222:=AeJ
 a222:=isAgg337
 z222:=sizeOf337
 v222:=zeroValue337
 t228:=AeP
 a228:=isAgg357
 z228:=sizeOf357
 v228:=zeroValue357
 t229:=AeQ
 a229:=isAgg229
 z229:=sizeOf229
 v229:=zeroValue229}
def Tryz.Y9:Go.Shelf.Ren:=⟨fun | 20=>140 | n=>n,fun | 22=>58 | 3=>3 | 4=>4 | 0=>0 | n=>n,fun | n=>n⟩
theorem Tryz.Aev:Go.Proofs.Lays2.n20 prog Tryz.Y9:={
 mixed:=by kernel_rfl
 f20:=kTr func140
 t0:=AcS
 a0:=isAgg0
 z0:=sizeOf0
 v0:=zeroValue0
 t3:=Abn
 a3:=isAgg3
 z3:=sizeOf3
 v3:=zeroValue3
 t4:=AcV
 a4:=isAgg4
 z4:=sizeOf4
 v4:=zeroValue4
 t22:=Abm
 a22:=isAgg58
 z22:=sizeOf58
 v22:=zeroValue58
 i3:=by kernel_rfl}
def Tryz.YA:Go.Shelf.Ren:=⟨fun | 6=>186 | 15=>185 | 14=>237 | 28=>235 | 29=>236 | 20=>296 | 21=>297 | 22=>298 | 23=>299 | 24=>300 | 25=>301 | 26=>302 | 27=>303 | 46=>329 | 47=>306 | 48=>307 | 49=>330 | 50=>331 | 57=>338 | n=>n,fun | 22=>196 | 24=>142 | 25=>198 | 3=>3 | 39=>171 | 0=>0 | 53=>285 | 55=>205 | 4=>4 | 46=>289 | 45=>288 | 50=>294 | 5=>5 | 9=>9 | 66=>333 | 70=>337 | 76=>357 | 77=>229 | n=>n,fun | n=>n⟩
theorem Tryz.AcL:Go.Proofs.SlLaysF0.n6 prog Tryz.YA:={
 mixed:=by kernel_rfl
 f6:=⟨Tryz.f186.name,by decide,kTr func186⟩
 f14:=⟨Tryz.f237.name,by decide,kTr func237⟩
 f15:=kTr func185
 f20:=⟨Tryz.f296.name,by decide,kTr func296⟩
 f21:=⟨Tryz.f297.name,by decide,kTr func297⟩
 f22:=⟨Tryz.f298.name,by decide,kTr func298⟩
 f23:=⟨Tryz.f299.name,by decide,kTr func299⟩
 f24:=⟨Tryz.f300.name,by decide,kTr func300⟩
 f25:=⟨Tryz.f301.name,by decide,kTr func301⟩
 f26:=⟨Tryz.f302.name,by decide,kTr func302⟩
 f27:=⟨Tryz.f303.name,by decide,kTr func303⟩
 f28:=kTr func235
 f29:=kTr func236
 f46:=⟨Tryz.f329.name,by decide,kTr func329⟩
 f47:=kTr func306
 f48:=kTr func307
 f49:=⟨Tryz.f330.name,by decide,kTr func330⟩
 f50:=⟨Tryz.f331.name,by decide,kTr func331⟩
 f57:=⟨Tryz.f338.name,by decide,kTr func338⟩
 t0:=AcS
 a0:=isAgg0
 z0:=sizeOf0
 v0:=zeroValue0
 t3:=Abn
 a3:=isAgg3
 z3:=sizeOf3
 v3:=zeroValue3
 t4:=AcV
 a4:=isAgg4
 z4:=sizeOf4
 v4:=zeroValue4
 t5:=Ac5
 a5:=isAgg5
 z5:=sizeOf5
 v5:=zeroValue5
 t9:=Ab1
 a9:=isAgg9
 z9:=sizeOf9
 v9:=zeroValue9
 t22:=AeR
 a22:=isAgg196
 z22:=sizeOf196
 v22:=zeroValue196
 t25:=AeS
 a25:=isAgg198
 z25:=sizeOf198
 v25:=zeroValue198
 t39:=Ad4
 a39:=isAgg171
 z39:=sizeOf171
 v39:=zeroValue171
 t45:=AeF
 a45:=isAgg288
 z45:=sizeOf288
 v45:=zeroValue288
 t46:=AeH
 a46:=isAgg289
 z46:=sizeOf289
 v46:=zeroValue289
 t50:=AeA
 a50:=isAgg294
 z50:=sizeOf294
 v50:=zeroValue294
 t53:=AdA
 a53:=isAgg285
 z53:=sizeOf285
 v53:=zeroValue285
 t55:=Ae9
 a55:=isAgg205
 z55:=sizeOf205
 v55:=zeroValue205
 t66:=AeI
 a66:=isAgg333
 z66:=sizeOf333
 v66:=zeroValue333
 t70:=AeJ
 a70:=isAgg337
 z70:=sizeOf337
 v70:=zeroValue337
 t76:=AeP
 a76:=isAgg357
 z76:=sizeOf357
 v76:=zeroValue357
 t77:=AeQ
 a77:=isAgg229
 z77:=sizeOf229
 v77:=zeroValue229}
def Tryz.YB:Go.Shelf.Ren:=⟨fun | 6=>173 | 15=>185 | 14=>226 | 28=>235 | 29=>236 | 20=>276 | 21=>277 | 22=>278 | 23=>279 | 24=>280 | 25=>281 | 26=>282 | 27=>283 | 46=>322 | 47=>306 | 48=>307 | 49=>323 | 50=>324 | 57=>336 | n=>n,fun | 22=>58 | 24=>3 | 25=>234 | 3=>3 | 39=>171 | 0=>0 | 53=>285 | 55=>205 | 4=>4 | 46=>289 | 45=>288 | 50=>294 | 5=>5 | 9=>9 | 66=>333 | 70=>337 | 76=>357 | 77=>229 | n=>n,fun | n=>n⟩
theorem Tryz.Aew:Go.Proofs.SlLaysF.n6 prog Tryz.YB:={
 mixed:=by kernel_rfl
 f6:=⟨Tryz.f173.name,by decide,kTr func173⟩
 f14:=⟨Tryz.f226.name,by decide,kTr func226⟩
 f15:=kTr func185
 f20:=⟨Tryz.f276.name,by decide,kTr func276⟩
 f21:=⟨Tryz.f277.name,by decide,kTr func277⟩
 f22:=⟨Tryz.f278.name,by decide,kTr func278⟩
 f23:=⟨Tryz.f279.name,by decide,kTr func279⟩
 f24:=⟨Tryz.f280.name,by decide,kTr func280⟩
 f25:=⟨Tryz.f281.name,by decide,kTr func281⟩
 f26:=⟨Tryz.f282.name,by decide,kTr func282⟩
 f27:=⟨Tryz.f283.name,by decide,kTr func283⟩
 f28:=kTr func235
 f29:=kTr func236
 f46:=⟨Tryz.f322.name,by decide,kTr func322⟩
 f47:=kTr func306
 f48:=kTr func307
 f49:=⟨Tryz.f323.name,by decide,kTr func323⟩
 f50:=⟨Tryz.f324.name,by decide,kTr func324⟩
 f57:=⟨Tryz.f336.name,by decide,kTr func336⟩
 t0:=AcS
 a0:=isAgg0
 z0:=sizeOf0
 v0:=zeroValue0
 t3:=Abn
 a3:=isAgg3
 z3:=sizeOf3
 v3:=zeroValue3
 t4:=AcV
 a4:=isAgg4
 z4:=sizeOf4
 v4:=zeroValue4
 t5:=Ac5
 a5:=isAgg5
 z5:=sizeOf5
 v5:=zeroValue5
 t9:=Ab1
 a9:=isAgg9
 z9:=sizeOf9
 v9:=zeroValue9
 t22:=Abm
 a22:=isAgg58
 z22:=sizeOf58
 v22:=zeroValue58
 a24:=isAgg3
 z24:=sizeOf3
 t25:=AeU
 a25:=isAgg234
 z25:=sizeOf234
 v25:=zeroValue234
 t39:=Ad4
 a39:=isAgg171
 z39:=sizeOf171
 v39:=zeroValue171
 t45:=AeF
 a45:=isAgg288
 z45:=sizeOf288
 v45:=zeroValue288
 t46:=AeH
 a46:=isAgg289
 z46:=sizeOf289
 v46:=zeroValue289
 t50:=AeA
 a50:=isAgg294
 z50:=sizeOf294
 v50:=zeroValue294
 t53:=AdA
 a53:=isAgg285
 z53:=sizeOf285
 v53:=zeroValue285
 t55:=Ae9
 a55:=isAgg205
 z55:=sizeOf205
 v55:=zeroValue205
 t66:=AeI
 a66:=isAgg333
 z66:=sizeOf333
 v66:=zeroValue333
 t70:=AeJ
 a70:=isAgg337
 z70:=sizeOf337
 v70:=zeroValue337
 t76:=AeP
 a76:=isAgg357
 z76:=sizeOf357
 v76:=zeroValue357
 t77:=AeQ
 a77:=isAgg229
 z77:=sizeOf229
 v77:=zeroValue229}
def Tryz.Xf:Go.Shelf.Ren:=⟨fun | 6=>173 | 15=>185 | 14=>226 | 28=>235 | 29=>236 | 20=>276 | 21=>277 | 22=>278 | 23=>279 | 24=>280 | 25=>281 | 26=>282 | 27=>283 | 46=>322 | 47=>306 | 48=>307 | 49=>323 | 50=>324 | 57=>336 | n=>n,fun | 22=>58 | 24=>3 | 25=>234 | 3=>3 | 39=>171 | 0=>0 | 53=>285 | 55=>205 | 4=>4 | 46=>289 | 45=>288 | 50=>294 | 5=>5 | 9=>9 | 66=>333 | 70=>337 | 76=>357 | 77=>229 | n=>n,fun | n=>n⟩
theorem Tryz.Ad3:Go.Proofs.SlLaysF0.n6 prog Tryz.Xf:={
 mixed:=by kernel_rfl
 f6:=⟨Tryz.f173.name,by decide,kTr func173⟩
 f14:=⟨Tryz.f226.name,by decide,kTr func226⟩
 f15:=kTr func185
 f20:=⟨Tryz.f276.name,by decide,kTr func276⟩
 f21:=⟨Tryz.f277.name,by decide,kTr func277⟩
 f22:=⟨Tryz.f278.name,by decide,kTr func278⟩
 f23:=⟨Tryz.f279.name,by decide,kTr func279⟩
 f24:=⟨Tryz.f280.name,by decide,kTr func280⟩
 f25:=⟨Tryz.f281.name,by decide,kTr func281⟩
 f26:=⟨Tryz.f282.name,by decide,kTr func282⟩
 f27:=⟨Tryz.f283.name,by decide,kTr func283⟩
 f28:=kTr func235
 f29:=kTr func236
 f46:=⟨Tryz.f322.name,by decide,kTr func322⟩
 f47:=kTr func306
 f48:=kTr func307
 f49:=⟨Tryz.f323.name,by decide,kTr func323⟩
 f50:=⟨Tryz.f324.name,by decide,kTr func324⟩
 f57:=⟨Tryz.f336.name,by decide,kTr func336⟩
 t0:=AcS
 a0:=isAgg0
 z0:=sizeOf0
 v0:=zeroValue0
 t3:=Abn
 a3:=isAgg3
 z3:=sizeOf3
 v3:=zeroValue3
 t4:=AcV
 a4:=isAgg4
 z4:=sizeOf4
 v4:=zeroValue4
 t5:=Ac5
 a5:=isAgg5
 z5:=sizeOf5
 v5:=zeroValue5
 t9:=Ab1
 a9:=isAgg9
 z9:=sizeOf9
 v9:=zeroValue9
 t22:=Abm
 a22:=isAgg58
 z22:=sizeOf58
 v22:=zeroValue58
 t25:=AeU
 a25:=isAgg234
 z25:=sizeOf234
 v25:=zeroValue234
 t39:=Ad4
 a39:=isAgg171
 z39:=sizeOf171
 v39:=zeroValue171
 t45:=AeF
 a45:=isAgg288
 z45:=sizeOf288
 v45:=zeroValue288
 t46:=AeH
 a46:=isAgg289
 z46:=sizeOf289
 v46:=zeroValue289
 t50:=AeA
 a50:=isAgg294
 z50:=sizeOf294
 v50:=zeroValue294
 t53:=AdA
 a53:=isAgg285
 z53:=sizeOf285
 v53:=zeroValue285
 t55:=Ae9
 a55:=isAgg205
 z55:=sizeOf205
 v55:=zeroValue205
 t66:=AeI
 a66:=isAgg333
 z66:=sizeOf333
 v66:=zeroValue333
 t70:=AeJ
 a70:=isAgg337
 z70:=sizeOf337
 v70:=zeroValue337
 t76:=AeP
 a76:=isAgg357
 z76:=sizeOf357
 v76:=zeroValue357
 t77:=AeQ
 a77:=isAgg229
 z77:=sizeOf229
 v77:=zeroValue229}
def Tryz.IA:Go.Shelf.Ren:=⟨fun | 32=>232 | 49=>286 | n=>n,fun | 30=>23 | 21=>21 | 3=>3 | 0=>0 | 5=>5 | 4=>4 | 33=>280 | 66=>349 | 25=>171 | 69=>352 | 68=>351 | n=>n,fun | 2=>4 | 3=>5 | n=>n⟩
theorem Tryz.ZZ:Go.Proofs.Lays7.n32 prog Tryz.IA:={
 mixed:=by kernel_rfl
 f32:=kTr func232
 f49:=kTr func286
 t0:=AcS
 a0:=isAgg0
 z0:=sizeOf0
 v0:=zeroValue0
 i0:=by kernel_rfl
 t3:=Abn
 a3:=isAgg3
 z3:=sizeOf3
 v3:=zeroValue3
 i3:=by kernel_rfl
 t4:=AcV
 a4:=isAgg4
 z4:=sizeOf4
 v4:=zeroValue4
 i4:=by kernel_rfl
 t5:=Ac5
 a5:=isAgg5
 z5:=sizeOf5
 v5:=zeroValue5
 i5:=by kernel_rfl
 t21:=Adm
 a21:=isAgg21
 z21:=sizeOf21
 v21:=zeroValue21
 i21:=by kernel_rfl
 t25:=Ad4
 a25:=isAgg171
 z25:=sizeOf171
 v25:=zeroValue171
 i25:=by kernel_rfl
 t30:=AbF
 a30:=isAgg23
 z30:=sizeOf23
 v30:=zeroValue23
 i30:=by kernel_rfl
 t33:=AdC
 a33:=isAgg280
 z33:=sizeOf280
 v33:=zeroValue280
 i33:=by kernel_rfl
 t66:=AdF
 a66:=isAgg349
 z66:=sizeOf349
 t68:=AdM
 a68:=isAgg351
 z68:=sizeOf351
 v68:=zeroValue351
 i68:=by kernel_rfl
 t69:=AdR
 a69:=isAgg352
 z69:=sizeOf352
 v69:=zeroValue352
 i69:=by kernel_rfl
 g2:=by kernel_rfl
 g3:=by kernel_rfl}
def Tryz.Uq:Go.Shelf.Ren:=⟨fun | 7=>131 | 10=>184 | n=>n,fun | 23=>130 | 26=>9 | 3=>109 | 28=>189 | 0=>0 | 27=>188 | 33=>41 | 4=>4 | n=>n,fun | n=>n⟩
theorem Tryz.AcM:Go.Proofs.SlLaysZ.n7 prog Tryz.Uq:={
 mixed:=by kernel_rfl
 f7:=⟨Tryz.f131.name,by decide,kTr func131⟩
 f10:=⟨Tryz.f184.name,by decide,kTr func184⟩
 t0:=AcS
 a0:=isAgg0
 z0:=sizeOf0
 v0:=zeroValue0
 t4:=AcV
 a4:=isAgg4
 z4:=sizeOf4
 v4:=zeroValue4
 t23:=AeV
 a23:=isAgg130
 z23:=sizeOf130
 v23:=zeroValue130
 t26:=Ab1
 a26:=isAgg9
 z26:=sizeOf9
 v26:=zeroValue9
 t27:=AeW
 a27:=isAgg188
 z27:=sizeOf188
 v27:=zeroValue188
 t28:=AeZ
 a28:=isAgg189
 z28:=sizeOf189
 v28:=zeroValue189
 t33:=Afa
 a33:=isAgg41
 z33:=sizeOf41
 v33:=zeroValue41}
def Tryz.R4:Go.Shelf.Ren:=⟨fun | 6=>130 | 8=>182 | 9=>183 | 11=>233 | 13=>185 | 12=>234 | 23=>235 | 24=>236 | 14=>287 | 15=>288 | 16=>289 | 17=>290 | 18=>291 | 19=>292 | 20=>293 | 21=>294 | 22=>295 | 25=>325 | 26=>306 | 27=>307 | 28=>326 | 29=>327 | 30=>328 | 31=>337 | n=>n,fun | 26=>9 | 28=>189 | 24=>22 | 0=>0 | 3=>3 | 37=>171 | 48=>285 | 50=>205 | 4=>4 | 40=>289 | 39=>288 | 45=>294 | 5=>5 | 9=>9 | 51=>333 | 55=>337 | 57=>357 | 58=>229 | 33=>41 | n=>n,fun | n=>n⟩
theorem Tryz.Aca:Go.Proofs.SlLaysZ.n6 prog Tryz.R4:={
 mixed:=by kernel_rfl
 f6:=⟨Tryz.f130.name,by decide,kTr func130⟩
 f8:=⟨Tryz.f182.name,by decide,kTr func182⟩
 f11:=⟨Tryz.f233.name,by decide,kTr func233⟩
 t0:=AcS
 a0:=isAgg0
 z0:=sizeOf0
 v0:=zeroValue0
 t24:=Ac7
 a24:=isAgg22
 z24:=sizeOf22
 v24:=zeroValue22
 t26:=Ab1
 a26:=isAgg9
 z26:=sizeOf9
 v26:=zeroValue9
 t28:=AeZ
 a28:=isAgg189
 z28:=sizeOf189
 v28:=zeroValue189
 i26:=by kernel_rfl}
def Tryz.Wj:Go.Shelf.Ren:=⟨fun | 171=>64 | 243=>107 | 246=>162 | 283=>210 | 284=>211 | 285=>212 | 286=>213 | 129=>236 | 317=>258 | 318=>259 | 319=>260 | 320=>261 | 337=>315 | 338=>316 | n=>n,fun | 3=>3 | 9=>9 | 2=>2 | 4=>4 | 171=>263 | 0=>0 | 53=>205 | 37=>23 | 5=>5 | 173=>266 | 212=>305 | 51=>285 | 20=>20 | 213=>306 | 46=>171 | 232=>359 | 233=>360 | n=>n,fun | 17=>1 | 18=>6 | 19=>7 | n=>n⟩
theorem Tryz.Acb:Go.Proofs.LaysM.n171 prog Tryz.Wj:={
 mixed:=by kernel_rfl
 f129:=kTr func236
 f171:=kTr func64
 f243:=kTr func107
 f246:=kTr func162
 f283:=kTr func210
 f284:=kTr func211
 f285:=kTr func212
 f286:=kTr func213
 f317:=kTr func258
 f318:=kTr func259
 f319:=kTr func260
 f320:=kTr func261
 f337:=kTr func315
 f338:=kTr func316
 t0:=AcS
 a0:=isAgg0
 z0:=sizeOf0
 v0:=zeroValue0
 t2:=Afb
 a2:=isAgg2
 z2:=sizeOf2
 v2:=zeroValue2
 t3:=Abn
 a3:=isAgg3
 z3:=sizeOf3
 v3:=zeroValue3
 t4:=AcV
 a4:=isAgg4
 z4:=sizeOf4
 v4:=zeroValue4
 t5:=Ac5
 a5:=isAgg5
 z5:=sizeOf5
 v5:=zeroValue5
 t9:=Ab1
 a9:=isAgg9
 z9:=sizeOf9
 v9:=zeroValue9
 t20:=AdT
 a20:=isAgg20
 z20:=sizeOf20
 v20:=zeroValue20
 t37:=AbF
 a37:=isAgg23
 z37:=sizeOf23
 v37:=zeroValue23
 t46:=Ad4
 a46:=isAgg171
 z46:=sizeOf171
 v46:=zeroValue171
 t51:=AdA
 a51:=isAgg285
 z51:=sizeOf285
 v51:=zeroValue285
 t53:=Ae9
 a53:=isAgg205
 z53:=sizeOf205
 v53:=zeroValue205
 t171:=Afc
 a171:=isAgg263
 z171:=sizeOf263
 v171:=zeroValue263
 t173:=Afd
 a173:=isAgg266
 z173:=sizeOf266
 v173:=zeroValue266
 t212:=Afe
 a212:=isAgg305
 z212:=sizeOf305
 v212:=zeroValue305
 t213:=Aff
 a213:=isAgg306
 z213:=sizeOf306
 t232:=Afg
 a232:=isAgg359
 z232:=sizeOf359
 v232:=zeroValue359
 t233:=Afh
 a233:=isAgg360
 z233:=sizeOf360
 v233:=zeroValue360
 g17:=by kernel_rfl
 g18:=by kernel_rfl
 g19:=by kernel_rfl
 i0:=by kernel_rfl
 i2:=by kernel_rfl
 i3:=by kernel_rfl
 i4:=by kernel_rfl
 i5:=by kernel_rfl
 i9:=by kernel_rfl
 i20:=by kernel_rfl
 i37:=by kernel_rfl
 i46:=by kernel_rfl
 i51:=by kernel_rfl
 i53:=by kernel_rfl
 i171:=by kernel_rfl
 i173:=by kernel_rfl
 i212:=by kernel_rfl
 i232:=by kernel_rfl
 i233:=by kernel_rfl
 m17:=by kernel_rfl
 m18:=by kernel_rfl
 m19:=by kernel_rfl}
def Tryz.O4:Go.Shelf.Ren:=⟨fun | 172=>169 | 244=>224 | 245=>225 | 247=>271 | 279=>272 | 280=>273 | 281=>274 | 282=>275 | 287=>319 | 316=>320 | 171=>64 | 205=>321 | 321=>334 | 322=>335 | 243=>107 | 246=>162 | 283=>210 | 284=>211 | 285=>212 | 286=>213 | 129=>236 | 317=>258 | 318=>259 | 319=>260 | 320=>261 | 337=>315 | 338=>316 | n=>n,fun | 9=>9 | 3=>3 | 75=>167 | 76=>168 | 4=>4 | 5=>5 | 167=>310 | 37=>23 | 0=>0 | 85=>311 | 2=>2 | 168=>313 | 53=>205 | 175=>342 | 46=>171 | 210=>345 | 127=>219 | 145=>366 | 143=>364 | 21=>21 | 171=>263 | 173=>266 | 212=>305 | 51=>285 | 20=>20 | 213=>306 | 232=>359 | 233=>360 | 80=>170 | n=>n,fun | 15=>2 | 16=>3 | 17=>1 | 18=>6 | 19=>7 | n=>n⟩
theorem Tryz.UZ:Go.Proofs.LaysC.n172 prog Tryz.O4:={
 mixed:=by kernel_rfl
 f129:=kTr func236
 f171:=kTr func64
 f172:=kTr func169
 f205:=kTr func321
 f243:=kTr func107
 f244:=kTr func224
 f245:=kTr func225
 f246:=kTr func162
 f247:=kTr func271
 f279:=kTr func272
 f280:=kTr func273
 f281:=kTr func274
 f282:=kTr func275
 f283:=kTr func210
 f284:=kTr func211
 f285:=kTr func212
 f286:=kTr func213
 f287:=kTr func319
 f316:=kTr func320
 f317:=kTr func258
 f318:=kTr func259
 f319:=kTr func260
 f320:=kTr func261
 f321:=kTr func334
 f322:=kTr func335
 f337:=kTr func315
 f338:=kTr func316
 t0:=AcS
 a0:=isAgg0
 z0:=sizeOf0
 v0:=zeroValue0
 t2:=Afb
 a2:=isAgg2
 z2:=sizeOf2
 v2:=zeroValue2
 t3:=Abn
 a3:=isAgg3
 z3:=sizeOf3
 v3:=zeroValue3
 t4:=AcV
 a4:=isAgg4
 z4:=sizeOf4
 v4:=zeroValue4
 t5:=Ac5
 a5:=isAgg5
 z5:=sizeOf5
 v5:=zeroValue5
 t9:=Ab1
 a9:=isAgg9
 z9:=sizeOf9
 v9:=zeroValue9
 t20:=AdT
 a20:=isAgg20
 z20:=sizeOf20
 v20:=zeroValue20
 t21:=Adm
 a21:=isAgg21
 z21:=sizeOf21
 v21:=zeroValue21
 t37:=AbF
 a37:=isAgg23
 z37:=sizeOf23
 v37:=zeroValue23
 t46:=Ad4
 a46:=isAgg171
 z46:=sizeOf171
 v46:=zeroValue171
 t51:=AdA
 a51:=isAgg285
 z51:=sizeOf285
 v51:=zeroValue285
 t53:=Ae9
 a53:=isAgg205
 z53:=sizeOf205
 v53:=zeroValue205
 t75:=AdW
 a75:=isAgg167
 z75:=sizeOf167
 v75:=zeroValue167
 t76:=AdX
 a76:=isAgg168
 z76:=sizeOf168
 v76:=zeroValue168
 t85:=Afi
 a85:=isAgg311
 z85:=sizeOf311
 v85:=zeroValue311
 t127:=AdZ
 a127:=isAgg219
 z127:=sizeOf219
 v127:=zeroValue219
 t143:=Afj
 a143:=isAgg364
 z143:=sizeOf364
 v143:=zeroValue364
 t145:=Afk
 a145:=isAgg366
 z145:=sizeOf366
 v145:=zeroValue366
 t167:=Afl
 a167:=isAgg310
 z167:=sizeOf310
 v167:=zeroValue310
 t168:=Afm
 a168:=isAgg313
 z168:=sizeOf313
 v168:=zeroValue313
 t171:=Afc
 a171:=isAgg263
 z171:=sizeOf263
 v171:=zeroValue263
 t173:=Afd
 a173:=isAgg266
 z173:=sizeOf266
 v173:=zeroValue266
 t175:=Afn
 a175:=isAgg342
 z175:=sizeOf342
 v175:=zeroValue342
 t210:=Afo
 a210:=isAgg345
 z210:=sizeOf345
 v210:=zeroValue345
 t212:=Afe
 a212:=isAgg305
 z212:=sizeOf305
 v212:=zeroValue305
 t213:=Aff
 a213:=isAgg306
 z213:=sizeOf306
 t232:=Afg
 a232:=isAgg359
 z232:=sizeOf359
 v232:=zeroValue359
 t233:=Afh
 a233:=isAgg360
 z233:=sizeOf360
 v233:=zeroValue360
 g15:=by kernel_rfl
 g16:=by kernel_rfl
 g17:=by kernel_rfl
 g18:=by kernel_rfl
 g19:=by kernel_rfl
 t80:=Afp
 a80:=isAgg170
 z80:=sizeOf170
 v80:=zeroValue170
 i0:=by kernel_rfl
 i2:=by kernel_rfl
 i3:=by kernel_rfl
 i4:=by kernel_rfl
 i5:=by kernel_rfl
 i9:=by kernel_rfl
 i20:=by kernel_rfl
 i21:=by kernel_rfl
 i37:=by kernel_rfl
 i46:=by kernel_rfl
 i51:=by kernel_rfl
 i53:=by kernel_rfl
 i75:=by kernel_rfl
 i76:=by kernel_rfl
 i80:=by kernel_rfl
 i85:=by kernel_rfl
 i127:=by kernel_rfl
 i143:=by kernel_rfl
 i145:=by kernel_rfl
 i167:=by kernel_rfl
 i168:=by kernel_rfl
 i171:=by kernel_rfl
 i173:=by kernel_rfl
 i175:=by kernel_rfl
 i210:=by kernel_rfl
 i212:=by kernel_rfl
 i232:=by kernel_rfl
 i233:=by kernel_rfl
 m15:=by kernel_rfl
 m16:=by kernel_rfl
 m17:=by kernel_rfl
 m18:=by kernel_rfl
 m19:=by kernel_rfl
 c0:=by kernel_rfl
 c2:=by kernel_rfl
 c3:=by kernel_rfl
 c4:=by kernel_rfl
 c5:=by kernel_rfl
 c9:=by kernel_rfl
 c20:=by kernel_rfl
 c21:=by kernel_rfl
 c37:=by kernel_rfl
 c46:=by kernel_rfl
 c51:=by kernel_rfl
 c53:=by kernel_rfl
 c75:=by kernel_rfl
 c76:=by kernel_rfl
 c80:=by kernel_rfl
 c85:=by kernel_rfl
 c127:=by kernel_rfl
 c143:=by kernel_rfl
 c145:=by kernel_rfl
 c167:=by kernel_rfl
 c168:=by kernel_rfl
 c171:=by kernel_rfl
 c173:=by kernel_rfl
 c175:=by kernel_rfl
 c210:=by kernel_rfl
 c212:=by kernel_rfl
 c213:=by kernel_rfl
 c232:=by kernel_rfl
 c233:=by kernel_rfl}
def Tryz.QW:Go.Shelf.Ren:=⟨fun | 153=>167 | 152=>219 | 226=>220 | 227=>221 | 228=>222 | 137=>168 | 119=>267 | 224=>268 | 225=>269 | 217=>223 | 266=>270 | n=>n,fun | 9=>9 | 3=>3 | 4=>4 | 5=>5 | 21=>21 | 117=>272 | 116=>271 | 0=>0 | 46=>171 | 124=>309 | n=>n,fun | n=>n⟩
theorem Tryz.Aaa:Go.Proofs.Lays.n153 prog Tryz.QW:={
 mixed:=by kernel_rfl
 f119:=kTr func267
 f137:=kTr func168
 f152:=kTr func219
 f153:=kTr func167
 f217:=kTr func223
 f224:=kTr func268
 f225:=kTr func269
 f226:=kTr func220
 f227:=kTr func221
 f228:=kTr func222
 f266:=kTr func270
 t0:=AcS
 a0:=isAgg0
 z0:=sizeOf0
 v0:=zeroValue0
 t3:=Abn
 a3:=isAgg3
 z3:=sizeOf3
 v3:=zeroValue3
 t4:=AcV
 a4:=isAgg4
 z4:=sizeOf4
 v4:=zeroValue4
 t5:=Ac5
 a5:=isAgg5
 z5:=sizeOf5
 v5:=zeroValue5
 t9:=Ab1
 a9:=isAgg9
 z9:=sizeOf9
 v9:=zeroValue9
 t21:=Adm
 a21:=isAgg21
 z21:=sizeOf21
 v21:=zeroValue21
 t46:=Ad4
 a46:=isAgg171
 z46:=sizeOf171
 v46:=zeroValue171
 t116:=Afq
 a116:=isAgg271
 z116:=sizeOf271
 t117:=Afr
 a117:=isAgg272
 z117:=sizeOf272
 v117:=zeroValue272
 t124:=Afs
 a124:=isAgg309
 z124:=sizeOf309
 v124:=zeroValue309}
end Go.Proofs
end
noncomputable section
namespace Go.Proofs.YtekmbcbgknmhiaaGreatDoor
open Go Go.E Go.RowKit Go.Sort Go.Shelf
theorem TP(a b:List UInt8):MG a b=some (Lib.compareBytes a b):=rfl
theorem Aex{O:List BS}{i b:Nat}{cs:List Value}{t:TypeId}(h:Dy O i=some (.box b cs t)):BS.box b cs t∈O:=(D1 h).mem_iff.2 (.head _)
theorem YC{n:Sz}{ops:Array Oper}{Q:Exit->Act->World->Prop}{L:Env}{w f:World}{O:List BS}{rest:List Oper}{d:Nat}{ty:TypeId}{pos:String}{af:Array Edge}{v tv:Value}{H:PH}{i b:Nat}{xs:List Value}{a:List UInt8}{args:List Operand}{at_:Array TypeId}
  (ha:Qb L args=some [v,.func (.func 174) #[] #[.pointer (some ⟨b,0,none⟩)]]) (hn:Nat.blt d n.n=true) (hH:Le H (hp f)) (hL:Bd f O w) (hi:Dy O i=some (.row v 3 1 (Go.L.iota a.length).length xs)) (he:AJ (.int .i64) (gz H f w O) (Go.L.iota a.length) xs) (htx:AI .byte (gz H f w O) tv a) (hbox:BS.box b [tv] 23∈O) (hl:a.length<4611686018427387904)
  (h:∀ w' xs',Bd f (CX O i (.row v 3 1 (Go.L.JS a).length xs')) w'->Le (fz w O) (fz w' (CX O i (.row v 3 1 (Go.L.JS a).length xs')))->AJ (.int .i64) (gz H f w' (CX O i (.row v 3 1 (Go.L.JS a).length xs'))) (Go.L.JS a) xs'->S Tryz.prog n ops Q rest ((d,.tuple #[])::L) w') :
  S Tryz.prog n ops Q (⟨some d,.call ⟨.value (.func 173),args.toArray,at_⟩,ty,pos,af,none⟩::rest) L w:=by
 have hxs:xs=(Go.L.PB a.length).map (fun x:Fin (a.length+1)=>Value.int .i64 (x.val:Int)):=by
  rw [<- SZ he,<- Go.L.Y4,List.map_map];rfl
 have hfl:(Go.L.PB a.length).length=a.length:=by simp [Go.L.PB]
 have hll:(Go.L.JS a).length=(Go.L.iota a.length).length:=by
  unfold Go.L.JS Go.L.ZY;rw [List.length_map,List.length_mergeSort,hfl,Go.L.KO]
 have hys:(Go.L.JS a).map (Value.int .i64)=(Go.L.ZY a).map (fun x:Fin (a.length+1)=>Value.int .i64 (x.val:Int)):=by
  unfold Go.L.JS;rw [List.map_map];rfl
 refine SX (l':=Go.L.JS a) (enc:=fun x:Fin (a.length+1)=>Value.int .i64 (x.val:Int)) (dd:=(Go.L.ZY a).toArray) (ys:=(Go.L.JS a).map (Value.int .i64)) ⟨Tryz.f173,_,Tryz.func173,rfl,rfl⟩ ha hn hL hi (by rw [hys]) hll (by rw [hxs];simp [hll,hfl,Go.L.KO]) (fun l=>?_) (fun hv=>?_) (fun g cap hv hcap=>?_) (fun w' p h2=>h w' _ p h2 (Qo _ _))
 ·have p:(Go.L.JS a).length=0:=by rw [hll];exact l
  have h2:xs.length=0:=by rw [hxs,List.length_map,hfl];rw [Go.L.KO] at l;exact l
  rw [List.eq_nil_of_length_eq_zero p,List.eq_nil_of_length_eq_zero h2];rfl
 ·subst hv;exact AnyF.slices_SortFunc_none Tryz.Ad3 none 0 _ w
 ·have hown:w.ownsRow 0 3 1 v (Go.L.iota a.length).length xs:=hL.at hi;rw [hv] at hown;obtain⟨hhk,hblk⟩:=Pd (enc:=fun x:Fin (a.length+1)=>Value.int .i64 (x.val:Int)) (d:=(Go.L.PB a.length).toArray) hown (by simpa using hxs.symm);have hsz:(Go.L.iota a.length).length=(Go.L.PB a.length).toArray.size:=by rw [Go.L.KO];simp [hfl]
  have hgo:∀ j x,BS.row v 3 1 j x∈O->True:=fun _ _ _=>trivial;subst hv;have hs:=Any.slices_SortFunc_total (P:=Tryz.prog) Tryz.Aew (fun x:Fin (a.length+1)=>Value.int .i64 (x.val:Int)) (fun _=>rfl) (Go.L.LQ a) (Go.L.AbZ _) 174 #[.pointer (some ⟨b,0,none⟩)] g 0 cap (Go.L.PB a.length).toArray w (enters_of Tryz.func174 (by kernel_rfl) rfl) ?_ hhk hblk (by rw [<- hsz,Go.L.KO];exact hl) (Go.L.Qr a)
  ·rw [<- hsz] at hs;exact hs.mono fun e w' ⟨he,m,os,hw⟩=>⟨he,m,os,hw⟩
  ·intro m os dk hs x y;have hx:=x.isLt;have hy:=y.isLt
   have hr:LL (x.val:Int) (y.val:Int) a=some (Go.L.LQ a x y):=by
    unfold LL;rw [Go.L.Al (by omega),Go.L.Al (by omega),Int.toNat_natCast,Int.toNat_natCast,TP]
    rfl
   have hne:∀ c,(∃ cs t,BS.box c cs t∈O)->c≠g:=fun c ⟨cs,t,hc⟩ e=>by
    subst e;have hd:=List.pairwise_cons.1 (hL.perm (D1 hi).symm).dis
    have hm:BS.box c cs t∈L9 O i:=by
     rcases List.mem_cons.1 ((D1 hi).mem_iff.1 hc) with h | h
     ·cases h
     ·exact h
    exact hd.1 _ hm c rfl rfl
   have hkeep:∀ k o,w.heap[k]? = some o->k≠g->(sortWorld (fun x:Fin (a.length+1)=>Value.int .i64 (x.val:Int)) w g 0 m dk os).heap[k]? = some o:=fun k o hk hkg=>by
    rw [LO _ w g m dk os k (lt_of_heap hk),if_neg hkg];exact hk
   have hle:Le (fz w O) (hp (sortWorld (fun x:Fin (a.length+1)=>Value.int .i64 (x.val:Int)) w g 0 m dk os)):=fun c o hc=>by
    refine hkeep c o (X1 w O c o hc) fun e=>?_;subst e;have hown:owned O c=true:=CZ.2 ⟨_,(D1 hi).mem_iff.2 (.head _),rfl⟩;unfold fz at hc;rw [if_pos hown] at hc
    cases hc
   have hbx:Hi (hp (sortWorld (fun x:Fin (a.length+1)=>Value.int .i64 (x.val:Int)) w g 0 m dk os)) ⟨b,0,none⟩ [tv]:=by
    have hok:w.heap[b]? = some (.cells #[tv] 23 (0,0)):=hL.res _ hbox;have hh:=hkeep b _ hok (hne b ⟨_,_,hbox⟩);refine⟨rfl,fun j u hu=>?_⟩;simp only [Addr.add_lit,Nat.zero_add,G9,hp,hh]
    simpa using hu
   have hk:=@Qk ⟨true⟩ (sortWorld (fun x:Fin (a.length+1)=>Value.int .i64 (x.val:Int)) w g 0 m dk os) (hp _) (Le.refl _) _ _ _ _ _ (htx.mono ((Zt hH hL).trans hle)) hbx _ hr;refine hk.2.mono fun en w' ⟨u,he,hx,hu⟩=>?_;subst he;subst hu;obtain⟨q,os',hw⟩:=@We ⟨true⟩ _ _ rfl hx;exact⟨rfl,q,os',hw⟩
end Go.Proofs.YtekmbcbgknmhiaaGreatDoor
end
