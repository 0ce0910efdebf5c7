/- Texts of a claim, merged. -/
import Derived.Test.YtgaljodghpgdmaaGreatDoorLa4
import Derived.KernelRfl
open Option renaming some->TI
open _root_.Go.Proofs.Tryz renaming underlying9→TH,underlying23→Jk,underlying24→LS,underlying39→QW,underlying47→VV,underlying32→Agt,underlying34→YL,underlying88→PT,underlying107→Z6,underlying112→Zz,underlying171→R4,underlying5→V0
open Option renaming bind->Xd,bind_some->Wo,map->Sh
open List renaming getD_eq_getElem?_getD->Sb,getElem?_eq_getElem->Pa,length_cons->PF,length_map->Vx,length_append->T6,range->VO,mem_cons->R7,length_take->Y4,mem_singleton->TG,drop_eq_nil_of_le->UU,length_nil->RZ,mem_append->MY,append_nil->R0,map_cons->Yu,take_of_length_le->Sg,pairwise_cons->QU,length_singleton->T9,mem_range->PQ,append_assoc->YW,mem_map->Rr,map_append->K4,getElem?_drop->Vk,flatMap_cons->Y8,nil_append->Qx,getElem?_eq_none->Xt,take_add_one->Vf,cons_append->VT,take_length->EC,drop_zero->YA,pairwise_singleton->OO,mergeSort_perm->Uv,sum_cons->Th,drop_drop->U4,pairwise_mergeSort->XO,range'->Zy,nodup_append->P3
open Int renaming toNat_natCast->SV,lt_trichotomy->VR
open Prod renaming fst->TJ,ext->YI
open Nat renaming le_refl->KN,le_trans->RU,add_sub_cancel->UW,mul_le_mul_right->Wp,add_mul->Sc
open HAppend renaming hAppend->Yt
open Bool renaming and_eq_true->ZA,or_eq_true->U2
set_option linter.defProp false
set_option linter.unusedVariables false
set_option linter.unusedSimpArgs false
set_option linter.unusedSectionVars false
noncomputable section
namespace Go.L
theorem SL{α:Type}{c:α->α->Int}(h:Xa c):∀{l m:List α},l.Perm m->l.Pairwise (λx y=>(!(Go.Proofs.ltOf c) y x)=true)->m.Pairwise (λx y=>(!(Go.Proofs.ltOf c) y x)=true)->l=m
 | [],m,hp,_,_=>hp.nil_eq
 | a::l,m,hp,hl,hm=>by
  cases m with
  | nil=>exact absurd hp.symm.nil_eq Rg
  | cons b m=>
   obtain⟨f,g⟩:=QU.1 hl;obtain⟨i,j⟩:=QU.1 hm
   have hab:a=b:=by
    by_cases e:a=b
    ·exact e
    ·have ha:a∈m:=by rcases R7.1 (hp.mem_iff.1 (.head _))with d | d;exact absurd d e;exact d
     have hb:b∈l:=by rcases R7.1 (hp.mem_iff.2 (.head _))with d | d;exact absurd d.symm e;exact d
     exact h.parts a b (by simpa using i a ha) (by simpa using f b hb)
   subst hab;rw[SL h hp.cons_inv g j]
theorem TZ:∀(N:Nat) (l:List Nat),l.Nodup->(∀j∈l,j<N)->l.length<=N
 | 0,l,_,h=>by
  cases l with
  | nil=>exact KN _
  | cons a l=>exact absurd (h a (.head _)) (Nat.not_lt_zero a)
 | N+1,l,hn,h=>by
  have b:=TZ N (l.erase N) (hn.erase N) (λj hj=>by
   have h2:=(hn.mem_erase_iff).1 hj;have:=h j h2.2;omega)
  by_cases hm:N∈l
  ·rw[List.length_erase_of_mem hm]at b;omega
  ·rw[List.erase_of_not_mem hm]at b;omega
def AcM{α:Type}{c:α->α->Int}(h:Xa c){l m:List α}(hp:l.Perm m):(l.mergeSort λx y=>!(Go.Proofs.ltOf c) y x)=m.mergeSort λx y=>!(Go.Proofs.ltOf c) y x:=by
 have htr:∀a b c':α,(!(Go.Proofs.ltOf c) b a)=true->(!(Go.Proofs.ltOf c) c' b)=true->(!(Go.Proofs.ltOf c) c' a)=true:=by
  intro a b d f h2;simp only[Go.Proofs.ltOf,Bool.not_eq_true',decide_eq_false_iff_not]at *;intro h3;have s1:=h.swap a b;have g:=h.swap b d
  rcases VR (c a b) 0 with e | e | e
  ·exact h2 (h.trans d a b h3 e)
  ·rw[h.zero a b e]at h3;exact h2 h3
  ·omega
 have hto:∀a b:α,((!(Go.Proofs.ltOf c) b a)||(!(Go.Proofs.ltOf c) a b))=true:=by
  intro a b;have s1:=h.swap a b;simp only[Go.Proofs.ltOf,U2,Bool.not_eq_true',decide_eq_false_iff_not];omega
 refine SL h (((Uv l _).trans hp).trans (Uv m _).symm) ?_ ?_
 ·exact XO htr hto l
 ·exact XO htr hto m
end Go.L
namespace Go.Proofs.YtgaljodghpgdmaaGreatDoor
open Go Go.E Go.RowKit Go.Shelf Go.L Go.Sort
abbrev RY(x:Lf):LR:=[.string ⟨x.1.toArray⟩,.int .i64 x.2.1,.int .i64 x.2.2.1,.string ⟨x.2.2.2.toArray⟩]
abbrev Xo:Rp Lf:=.pair .st (.pair (.int .i64) (.pair (.int .i64) .st))
def AdR(G:PH)(x:Lf)(c:LR):Xo.rel G x c↔c=RY x:=by
 constructor
 ·rintro⟨_,_,rfl,rfl,_,_,rfl,rfl,_,_,rfl,rfl,rfl⟩
  rfl
 ·rintro rfl;exact⟨[_],[_,_,_],Z,Z,[_],[_,_],Z,Z,[_],[_],Z,Z,Z⟩
theorem Aiw{G:PH}{l:List Lf}{xs:LR}(h:Ao Xo G l xs):l.flatMap RY=xs:=by
 induction h with
 | nil=>rfl
 | cons h _ ih=>rw[Y8,ih,(AdR _ _ _).1 h]
theorem AcN(G:PH):∀l:List Lf,Ao Xo G l (l.flatMap RY)
 | []=>.nil
 | x::l=>by rw[Y8];exact .cons ((AdR _ _ _).2 Z) (AcN G l)
theorem Aix(l:List Lf):∀t,t<l.length * 4->(l.flatMap RY)[t]? = TI ((RY (l.getD (t / 4) Qq7)).toArray[t % 4]!):=by
 induction l with
 | nil=>intro t h;simp at h
 | cons a l ih=>
  intro t h;rw[Y8]
  by_cases b:t<4
  ·rw[List.getElem?_append_left b,Nat.div_eq_of_lt b,Nat.mod_eq_of_lt b];have:t=0\/t=1\/t=2\/t=3:=by omega
   rcases this with rfl | rfl | rfl | rfl <;> rfl
  ·rw[List.getElem?_append_right (by simpa using b)];have:=ih (t - 4) (by simp only[PF]at h;omega);rw[show(RY a).length=4 from Z,this];obtain⟨s,rfl⟩:∃s,t=s+4:=⟨t - 4,by omega⟩;rw[UW,Nat.add_div_right _ Y5,Nat.add_mod_right]
   rfl
theorem Aan(l:List Lf):(flatK RY 4 l.toArray).toList=l.flatMap RY:=by
 have hlen:(l.flatMap RY).length=l.length * 4:=by
  induction l with
  | nil=>rfl
  | cons a l ih=>rw[Y8,T6,ih];show 4+l.length * 4=(l.length+1) * 4;omega
 apply List.ext_getElem?;intro t
 by_cases h:t<l.length * 4
 ·rw[Aix l t h];have hs:t<(flatK RY 4 l.toArray).size:=by simpa using h
  have h2:=get_flatK RY 4 l.toArray t (by simpa using h);rw[getElem!_pos _ t hs]at h2;rw[Array.getElem?_toList,Array.getElem?_eq_getElem hs,h2];have hd:t / 4<l.length:=by omega
  have b:l.toArray[t / 4]! = l.getD (t / 4) Qq7:=by simp[hd]
  rw[b];simp
 ·rw[Xt (by simpa using h),Xt U]
theorem Akz{n:Sz}{ops:Array Oper}{Q:Exit->Act->World->Prop}{L:ZC}{w b:World}{O:List Bv}{rest:List Oper}{d:Nat}{ty:TypeId}{pos:String}{af:Array Edge}{v:Value}{H:PH}{i:Nat}{at_:Array TypeId}{args:List Operand}{xs:LR}{l:List Lf}
  (ha:U8 L args=TI [v,.func (.func 91) #[] #[]]) (hn:Nat.blt d n.n=true) (_hH:Le H (hp b)) (hL:AB b O w) (hi:Ba O i=TI (.row v 112 4 l.length xs)) (he:Ao Xo (gz H b w O) l xs) (hlen:l.length<4611686018427387904)
  (h:∀w' xs',AB b (Ci O i (.row v 112 4 (IK l).length xs')) w'->Le (fz w O) (fz w' (Ci O i (.row v 112 4 (IK l).length xs')))->Ao Xo (gz H b w' (Ci O i (.row v 112 4 (IK l).length xs'))) (IK l) xs'->S Tryz.prog n ops Q rest ((d,.tuple #[])::L) w') :
  S Tryz.prog n ops Q (⟨TI d,.call ⟨.value (.func 140),args.toArray,at_⟩,ty,pos,af,none⟩::rest) L w:=by
 have hxs:=Aiw he;have hll:(IK l).length=l.length:=Pn l
 have hfl:∀l:List Lf,(l.flatMap RY).length=l.length * 4:=λl=>by
  induction l with
  | nil=>rfl
  | cons a l ih=>rw[Y8,T6,ih];show 4+l.length * 4=(l.length+1) * 4;omega
 refine Yy (l':=IK l) (enc:=(id:Value->Value)) (dd:=flatK RY 4 (IK l).toArray) (ys:=(IK l).flatMap RY) ⟨Tryz.f140,_,Tryz.func140,Z,Z⟩ ha hn hL hi (by rw[List.map_id];exact Aan _) hll (by rw[<- hxs,hfl,hfl,hll]) (λc=>?_) (λhv=>?_) (λg cap hv hcap=>?_) (λw' e h2=>h w' _ e h2 (AcN _ _))
 ·have:l=[]:=List.eq_nil_of_length_eq_zero c;subst this;rw[<- hxs,show IK []=[]from Z]
 ·subst hv;exact AnyF.slices_SortFunc_none Tryz.Alw none 0 _ w
 ·have hown:w.ownsRow 0 112 4 v l.length xs:=hL.at hi;rw[hv]at hown;have hhk:HoldsK RY 4 w g 0 l.toArray/\g<w.heap.size:=Ts (id:Value->Value) (flatK RY 4 l.toArray) hown (by rw[List.map_id,Aan];exact hxs);subst hv;simp only[Pm];refine AnyQ.slices_SortFunc_total Tryz.Alw 4 (λw=>by kernel_rfl) (λw=>by kernel_rfl) RY (λ_=>Z) (λx v hv=>?_) D4 Ia.swo 91 #[] g 0 cap l.toArray w (enters_of Tryz.func91 SF Z) ?_ hhk.1 hhk.2 (by simpa using hlen) Ia.parts
  ·simp only[R7,List.mem_nil_iff,or_false]at hv
   rcases hv with rfl | rfl | rfl | rfl <;> rfl
  ·intro m os dk hs x y;have hk:=@QkQ ⟨true⟩ (sortWorldK RY 4 w g 0 m dk os) (hp _) (Le.refl _) x y _ (AdB x y);refine hk.2.mono λen w' ⟨u,he,hx,hu⟩=>?_;subst he;subst hu;obtain⟨q,os',hw⟩:=@Acp ⟨true⟩ _ _ Z hx;exact⟨Z,q,os',hw⟩
noncomputable def Abs(l:List (Lf×SB)):Option (List Lf):=Go.L.Ay (Go.E.Dx 48 l.length) (TI (IK (l.map TJ)))
set_option maxRecDepth 10000 in
section
variable(w:World)(H:PH)(hH:Le H (hp w)) include hH
theorem AdS{v0:Value}{a0:List (Lf×SB)}(h0:Zw KE (.vec (.int .i64)) H v0 a0){r:List Lf}(h:Abs a0=TI r):
  Ok Tryz.prog 90 [v0,.func (.func 91) #[] #[]] w (λv w'=>Ext w w'/\∃u0,v=u0/\B2 112 Xo H w w' u0 r):=by
 obtain⟨b,h⟩:=Go.L.Fp h;have hcap:∀j,j<=a0.length->Go.E.Dx 48 j:=λj hj=>⟨RU (Wp _ hj) b.1,RU hj b.2⟩;clear b;obtain rfl:=Option.some.inj h;obtain⟨m,vs,rfl,hm,hl,_⟩:=h0;have hkl:(a0.map TJ).length=vs.length:=by rw[Vx];exact hl
 have hkN:(a0.map TJ).length=a0.length:=Vx _;generalize hK:a0.map TJ=K at *;generalize hNN:a0.length=N at *;have hNlt:N<4611686018427387904:=by have:=hcap N (KN _);unfold Go.E.Dx at this;omega
 refine Cx (n:=21) [(0,.map (TI m)),(1,.func (.func 91) #[] #[])] Tryz.func90 Z Z Z Z ?_;have hL:=AB.start w;refine Bx 1 Z<|Bx 1 Z ?_;obtain⟨af,ar,ag⟩:=B3 Xo H 112 hL;refine AA (Value×LR×List Lf) (λ⟨v,_,_⟩=>[(1,.func (.func 91) #[] #[]),(5,v)]) (λ⟨v,xs,l⟩ wr=>AB w [.row v 112 4 l.length xs] wr/\Ao Xo (gz H w wr [.row v 112 4 l.length xs]) l xs/\l.Perm K) ?_ ?_
 ·refine FA 1 Z<|Aiu (enc:=KE) (keys:=K) (vs:=vs) (N:=N) (hH _ _ hm) af λw2 g ah t=>Ap<|A4 ?_
  refine AF (List Nat×Value×LR) (λ⟨_,v,_⟩=>[(1,.func (.func 91) #[] #[]),(5,v),(8,.pointer (TI ⟨g,0,none⟩))])
   (λ⟨seen,v,xs⟩ wr=>AB w [.obj g (.mapIter (TI m) N seen.toArray N),.row v 112 4 (seen.map λj=>K.getD j Qq7).length xs] wr/\Ao Xo (gz H w wr [.obj g (.mapIter (TI m) N seen.toArray N),.row v 112 4 (seen.map λj=>K.getD j Qq7).length xs]) (seen.map λj=>K.getD j Qq7) xs/\seen.Nodup/\∀j∈seen,j<N)
   (λ⟨seen,_,_⟩=>N - seen.length) ([],.slice none 0 0,[]) Z ⟨ah,ag.mono (Aa t),List.nodup_nil,λj hj=>by cases hj⟩ ?_
  rintro⟨seen,v,xs⟩ wr ⟨hLr,her,hnd,hlt⟩
  have hseen:seen.length<=N:=by
   exact TZ N seen hnd hlt
  refine A5<|Aky (enc:=KE) (keys:=K) (vs:=vs) (m:=m) (N:=N) 0 Z hLr Z ((hH.trans hLr.arg) _ _ hm) hkl hkN ?_ ?_
  ·intro j a ha hj w3 p u ai;have hjN:j<N:=by have:=(List.getElem?_eq_some_iff.1 ha).1;omega
   refine BJ 1 Z<|PW<|Cm<|Ca<|VA<|A4<|A5<|Aiv (enc:=KE) Z (p.aT 0 Z) ai hkl ha<|AK 1 Z<|Aq O9.e Z p λw4 b4 aj z _=>VE 0 Z Z Z O9.e aj Z Z (AV Z (AV Z (AV Z (AV Z JO)))) λw5 s aa=>Ap<|FC<|AK 1 Z<|sC 0 Z O9.e s Z<|Bi [a] (r:=Xo) (λ_=>Ah3 _ _ _ _ _) (hlen:=(show 1<=9223372036854775807 by decide)) s (.c4 ((AdR _ _ _).2 Z) .nil) ?_;intro v6 w6 aw ak ab al;have am:=(((her.mono (Aa u)).mono (Aa z)).mono (Aa aa)).mono (Aa ab);refine Bf (r:=Xo) 2 (seen.map λj=>K.getD j Qq7) [a] Z Tryz.underlying164 ak Z am al (hcap _ ?_) ?_
   ·have k:=TZ N (seen++[j]) (P3.2 ⟨hnd,OO _ j,λx hx y hy=>by rw[TG]at hy;subst hy;exact λe=>hj (e ▸ hx)⟩) (λq hq=>by rcases MY.1 hq with h2 | h2;exact hlt q h2;rw[TG]at h2;subst h2;exact hjN)
    simpa using k
   intro v7 w7 d ao au ap;refine AK 1 Z<|HX<|Ow ?_
   have hmap:(seen++[j]).map (λj=>K.getD j Qq7)=(seen.map λj=>K.getD j Qq7)++[a]:=by
    rw[K4,List.map_singleton];have:K.getD j Qq7=a:=by rw[Sb,ha];rfl
    rw[this]
   have o:(seen++[j]).Nodup:=P3.2 ⟨hnd,OO _ j,λx hx y hy=>by rw[TG]at hy;subst hy;exact λe=>hj (e ▸ hx)⟩;have c:=ao.dT 0 Z;have f:=ap.mono (Aa (fz_dT 0 Z));refine Ak (seen++[j],v7,d) Z ?_ (hm:=?_)
   ·show AB w [.obj g (.mapIter (TI m) N (seen++[j]).toArray N),.row v7 112 4 ((seen++[j]).map λj=>K.getD j Qq7).length d] w7/\Ao Xo (gz H w w7 [.obj g (.mapIter (TI m) N (seen++[j]).toArray N),.row v7 112 4 ((seen++[j]).map λj=>K.getD j Qq7).length d]) ((seen++[j]).map λj=>K.getD j Qq7) d/\_
    rw[hmap];refine⟨c,f,o,λq hq=>?_⟩
    rcases MY.1 hq with h2 | h2
    ·exact hlt q h2
    ·rw[TG]at h2;subst h2;exact hjN
   ·show N - (seen++[j]).length<N - seen.length
    have k:=TZ N (seen++[j]) o (λq hq=>by rcases MY.1 hq with h2 | h2;exact hlt q h2;rw[TG]at h2;subst h2;exact hjN);rw[T6,T9]at k;rw[T6,T9];omega
  ·intro hall;refine BJ 1 Z<|PW<|BO<|Ads<|Sj<|QE<|Aa0 ?_
   have hp:(seen.map λj=>K.getD j Qq7).Perm K:=by
    have k:seen.Perm (VO N):=(List.perm_ext_iff_of_nodup hnd List.nodup_range).2 λq=>⟨λhq=>PQ.2 (hlt q hq),λhq=>hall q (PQ.1 hq)⟩;have h2:=k.map (λj=>K.getD j Qq7)
    have h3:(VO N).map (λj=>K.getD j Qq7)=K:=by
     apply List.ext_getElem?;intro q;rw[List.getElem?_map]
     by_cases hq:q<N
     ·rw[List.getElem?_range hq,Pa (by omega:q<K.length)];simp[Sb,Pa (by omega:q<K.length)]
     ·rw[Xt (by simpa using hq),Xt U];rfl
    rwa [h3]at h2
   exact Am (_,_,_) ⟨hLr.dT 0 Z,her.mono (Aa (fz_dT 0 Z)),hp⟩
 ·rintro⟨v,xs,l⟩ wr ⟨hLr,her,hp⟩;have hlN:l.length=N:=by rw[hp.length_eq];omega
  refine FA 2 Z<|Akz (i:=0) Z Z hH hLr Z her U λw8 ax c av f=>Ap<|Bx 2 Z<|U9<|Xv Z Z ?_;have e:IK l=IK K:=by rw[Pm,Pm];exact AcM Ia hp
  rw[e]at c f;exact⟨c.ext,_,Z,c.Ev hH (i:=0) Z f⟩
end
abbrev Hb(bm bi b:Nat)(i:Int)(l:List (Lf×SB))(vs:LR):List Bv:=[.box bm [.map (TI b)] 109,.box bi [.int .i64 i] 3,TN KE b l vs]
abbrev Jf(l:List (Lf×SB))(vs:LR):List Bv:=mT cwI 3 1 l vs
def JBu(bm bi b:Nat)(i:Int)(l:List (Lf×SB))(R:List Bv)(_:PH):Prop:=∃vs:LR,l.length=vs.length/\R=Yt (Hb bm bi b i l vs) (Jf l vs)
noncomputable def Mx(i:Int)(l:List (Lf×SB))(x:Lf):Option (List (Lf×SB)):=Go.L.Ay (Go.E.Dx 8 ((Bp [] x l).length+1)) (TI (Ea x (Bp [] x l++[i]) l))
set_option maxRecDepth 10000 in
def Agm{f w:World}{H:PH}(hH:Le H (hp f)){O:List Bv}{bm bi b:Nat}{i:Int}{l:List (Lf×SB)}{vs:LR}{x:Lf}(hL:AB f (Yt (Yt (Hb bm bi b i l vs) O) (Jf l vs)) w)(hn:l.length=vs.length){r:List (Lf×SB)}(h:Mx i l x=TI r):
  Ok Tryz.prog 48 [KE x,.pointer (TI ⟨bm,0,none⟩),.pointer (TI ⟨bi,0,none⟩)] w (λu w'=>u=.tuple #[]/\∃vs':LR,r.length=vs'.length/\AB f (Yt (Yt (Hb bm bi b i r vs') O) (Jf r vs')) w'/\Le (fz w (Yt (Yt (Hb bm bi b i l vs) O) (Jf l vs))) (fz w' (Yt (Yt (Hb bm bi b i r vs') O) (Jf r vs')))):=by
 obtain⟨hcap,h⟩:=Go.L.Fp h;obtain rfl:=Option.some.inj h;refine Cx (n:=12) [(0,KE x),(1,.pointer (TI ⟨bm,0,none⟩)),(2,.pointer (TI ⟨bi,0,none⟩))] Tryz.func48 Z Z Z Z<|A5<|B6 (t:=112) Z Z hL λw1 g a j _=>Ap<|FC<|AJ (O2 1 Z Tryz.underlying109 Z a Z Z)<|sC 0 Z O9.e a Z<|AJ (O2 2 Z Tryz.underlying3 Z a Z Z)<|Bi [i] (r:=.int .i64) (λ_=>Fy _ _) (hlen:=(show 1<=9223372036854775807 by decide)) a (.c1 Z .nil) λv2 w2 af q m s=>Ad8 (A:=.box g [.string ⟨x.1.toArray⟩,.int .i64 x.2.1,.int .i64 x.2.2.1,.string ⟨x.2.2.2.toArray⟩] 112::Yt (Hb bm bi b i l vs) O) (l:=l) (vs:=vs) (k:=x) (enc:=KE) 3 Z Ah4 Tryz.zeroValue47 q Z hn λc w3 v y d=>AK 1 Z ?_;have aa:=s.mono (Aa d);refine Ahl (A:=.box g [.string ⟨x.1.toArray⟩,.int .i64 x.2.1,.int .i64 x.2.2.1,.string ⟨x.2.2.2.toArray⟩] 112::Yt (Hb bm bi b i (D7 x l) c) O) (l:=D7 x l) (vs:=c) (k:=x) (z:=i) (r:=.int .i64) (H:=H) Alo Z Tryz.underlying47 Y5 hH y v aa (by rw[Yv];exact hcap) ?_;intro v4 w4 T4 e ab o;rw[Yv]at e
 refine AK 1 Z<|Ama (A:=.box g [.string ⟨x.1.toArray⟩,.int .i64 x.2.1,.int .i64 x.2.2.1,.string ⟨x.2.2.2.toArray⟩] 112::Yt (Hb bm bi b i (D7 x l) c) O) (T:=T4) (k:=x) (l:=l) (vs:=c) 3 e Z ab Z λac w5 ad ae p=>HX<|KX ?_;refine⟨Z,ac,ad,ae.dT 0 Z,((((j.trans m).trans d).trans o).trans p).trans (fz_dT 0 Z)⟩
def HI(bm bi b:Nat)(i:Int)(l:List (Lf×SB))(vs:LR)(O:List Bv):(Yt (Yt (Hb bm bi b i l vs) O) (Jf l vs)).Perm (Yt O (Yt (Hb bm bi b i l vs) (Jf l vs))):=by
 rw[<- YW O];exact List.perm_append_comm.append_right _
def Aiy{a:World}{H:PH}(hH:Le H (hp a))(bm bi b:Nat)(i:Int):Cb Tryz.prog a H 48 [.pointer (TI ⟨bm,0,none⟩),.pointer (TI ⟨bi,0,none⟩)] (JBu bm bi b i) (Mx i):=by
 constructor
 ·exact λ_ h=>h
 ·rintro w O R l l' x hL ⟨vs,hn,rfl⟩ h;have hc:=Agm hH (O:=O) (hL.perm (HI bm bi b i l vs O)) hn h;refine⟨hc.1,hc.2.mono λe w' ⟨u,hu,c,vs',h2,h3,d⟩=>⟨u,hu,c,_,h3.perm (HI bm bi b i l' vs' O).symm,?_,vs',h2,Z⟩⟩;rw[<- Js (HI bm bi b i l vs O),<- Js (HI bm bi b i l' vs' O)];exact d
def Abt{a w:World}{H:PH}(hH:Le H (hp a)){O:List Bv}{bm bi b:Nat}{i:Int}{l:List (Lf×SB)}{vs:LR}{a0:Pv}{a1:Sa}{va0_2 va0_3 va0_4 va1:Value}
  (hL:AB a (Yt (Yt (Hb bm bi b i l vs) O) (Jf l vs)) w) (c:As .byte (gz H a w (Yt (Yt (Hb bm bi b i l vs) O) (Jf l vs))) va0_2 a0.f.2.2.1) (d:As .st (gz H a w (Yt (Yt (Hb bm bi b i l vs) O) (Jf l vs))) va0_3 a0.f.2.2.2.1) (g:As .tree (gz H a w (Yt (Yt (Hb bm bi b i l vs) O) (Jf l vs))) va0_4 a0.f.2.2.2.2) (j:As .st (gz H a w (Yt (Yt (Hb bm bi b i l vs) O) (Jf l vs))) va1 a1)
  (hn:l.length=vs.length) {r:List (Lf×SB)} (h:MM (Mx i) a0 a1 l=TI r) :
  Ok Tryz.prog 47 [.agg #[.int .i64 a0.f.1,.int .i64 a0.f.2.1,va0_2,va0_3,va0_4],va1,.func (.func 48) #[] #[.pointer (TI ⟨bm,0,none⟩),.pointer (TI ⟨bi,0,none⟩)]] w (λu w'=>u=.tuple #[]/\∃vs':LR,r.length=vs'.length/\AB a (Yt (Yt (Hb bm bi b i r vs') O) (Jf r vs')) w'/\Le (fz w (Yt (Yt (Hb bm bi b i l vs) O) (Jf l vs))) (fz w' (Yt (Yt (Hb bm bi b i r vs') O) (Jf r vs')))):=by
 have hz:Le (gz H a w (Yt (Yt (Hb bm bi b i l vs) O) (Jf l vs))) (gz H a w (Yt O (Yt (Hb bm bi b i l vs) (Jf l vs)))):=Aa (by rw[Js (HI bm bi b i l vs O)];exact Le.refl _);have hc:=QkK hH (Aiy hH bm bi b i) (O:=O) (hL.perm (HI bm bi b i l vs O).symm) (c.mono hz) (d.mono hz) (g.mono hz) (j.mono hz) (s:=l) ⟨vs,hn,Z⟩ h;refine⟨hc.1,hc.2.mono λe w' ⟨u,hu,k,R',h2,h3,vs',m,n⟩=>?_⟩;subst n;refine⟨u,hu,k,vs',m,h2.perm (HI bm bi b i r vs' O),?_⟩;rw[Js (HI bm bi b i l vs O),Js (HI bm bi b i r vs' O)];exact h3
set_option maxHeartbeats 1000000
set_option maxRecDepth 10000
open _root_.Go.Proofs.Tryz
def GA(a1:Int):Option Wl:=
 Ay (AL (0 - 0)) (Ay (AL (a1 - (0 - 0))) (if 0<(a1 - (0 - 0))then Ay (0<(a1 - (0 - 0))/\(a1 - (0 - 0)) * 1<=281474976710656) (TI (([]:Wl)))else TI ([])))
def Ga(_a0:Wl)(a1:Int):Option Wl:=
 if a1<0 then none else(GA a1)
section
variable(w:World)(H:PH)(hH:Le H (hp w)) include hH
theorem QkC{a0:Wl}{a1:Int}(_:As .byte H TO a0){r:Wl}(h:Ga a0 a1=TI r):
  Pd 256 [TO,No a1] w (λv w'=>∃t,v=t/\B2 5 .byte H w w' t r):=by
 refine Ai 27 [(0,TO),(1,No a1)] func256 Z λhL=>Bx 1 Z<|AA Unit (λ(_:Unit)=>[(0,TO),(1,No a1)]) (λ(_:Unit) wr=>AB w [] wr/\(GA a1)=TI r) ?_ ?_
 ·refine Bx 2 Z<|Ar h ?_ ?_<;>intro u h
  ·refine FC ?_
   cases h
  refine Ca<|Am () ⟨hL,h⟩
 rintro _ ac ⟨d,h⟩;refine AR ?_;refine AJ (Wx Z)<|AK 1 Z<|AJ (XV Z)<|Ag h λz h=>Ag h λaa h=>Af ?_;refine Ar h ?_ ?_<;>intro g h
 ·refine Af ?_;refine AJ (Wx Z)<|AJ Yg<|AK 1 Z<|Ag h λab h=>?_;obtain⟨x,j⟩:=Int.eq_ofNat_of_zero_le (show 0<=(a1 - (0 - 0)) by omega);refine Ae2 (k:=.i64) (m:=x) (by rw[<- j];rfl) LS U U U λf a c ad l o p q s=>AK 1 Z<|AJ (XV Z)<|AJ (AgX Z) ?_;obtain⟨b,y⟩:=NR (v:=.slice (some ⟨f,0,none⟩) 0 a) (e:=5) (sz:=1) (m:=0) (xs:=[]) d l ⟨Z,.inr ⟨f,a,c,Z,o,p,Nat.zero_le _,q,by rw[s,Nat.mul_one],Z⟩⟩;refine Af ?_
  cases h
  refine AD Z ⟨b.ext,_,Z,(b.Ev hH (i:=0) Z .nil)⟩
 refine Af ?_
 cases h
 refine AD Z ⟨d.ext,_,Z,B2.nil⟩
def FN(a:Wl):Option Wl:=
 TI a
def DS(a0:List Wl):Wl×Int->Option ((Wl×Int)⊕(Wl)):=λ⟨b,a⟩=>
 if a<(a0.length:Int)then Ay (0<=a/\a<(a0.length:Int)) (Ay (Go.E.Dx 1 (b.length+(a0.getD a.toNat Qq7).length)) (Ay (AL (a+1)) (TI (Sum.inl ((b++a0.getD a.toNat Qq7),(a+1))))))else Sh Sum.inr (FN b)
def Jg(a0:List Wl)(s:Wl×Int):Option Wl:=Go.L.run (DS a0) s
def Eg(a0:List Wl)(a:Int):Option Wl:=
 Xd (Ga ([]) a) (λb=>(Jg a0) (b,0))
def DT(a0:List Wl):Int×Int->Option (Zv⊕(Wl)):=λ⟨b,a⟩=>
 if a<(a0.length:Int)then Ay (0<=a/\a<(a0.length:Int)) (Ay (AL (b+((a0.getD a.toNat Qq7).length:Int))) (if(b+((a0.getD a.toNat Qq7).length:Int))<0 then none else Ay (AL (a+1)) (TI (Sum.inl ((b+((a0.getD a.toNat Qq7).length:Int)),(a+1))))))else Sh Sum.inr ((Eg a0) b)
def Jh(a0:List Wl)(s:Int×Int):Option Wl:=Go.L.run (DT a0) s
def EY(a0:List Wl):Option Wl:=
 (Jh a0) (0,0)
theorem CP{a0:List Wl}{e:Value}(x:As (.vec .byte) H e a0){r:Wl}(h:EY a0=TI r):
  Pd 197 [e] w (λv w'=>∃u0,v=u0/\B2 5 .byte H w w' u0 r):=by
 refine Ai 36 [(0,e)] func197 Z λhL=>Af ?_;refine AA Int (λj=>[(0,e),(3,No j)]) (λj wr=>AB w [] wr/\(Eg a0) j=TI r) ?_ ?_
 ·refine Af ?_;refine A4 ?_;obtain⟨y,h⟩:=Ax h;refine AF (Int×Int×Nat) (λ⟨c,b,n⟩=>[(0,e),(3,No c),(9,e),(10,No (a0.length:Int)),(11,No b)]) (λ⟨c,b,n⟩ wr=>AB w [] wr/\D6 (DT a0) n (c,b)=TI r) (λ⟨c,b,n⟩=>n) (0,0,y) Z ⟨hL,h⟩ ?_;rintro⟨c,b,nn42⟩ a5 ⟨q,h⟩;obtain⟨y,bb,rfl,h,z⟩:=Aw h;refine AR ?_;refine Ar h ?_ ?_<;>intro ak h
  ·refine AR ?_;refine Ag h λaa h=>A1 x b.toNat (BP aa) (An aa) ?_;rintro bc _ ⟨e46v0,rfl,e46h0⟩ al;refine sH al (hH.trans q.arg)<|Ag h λa6 h=>Af ?_;refine Ar h ?_ ?_<;>intro am h
   ·refine FC ?_
    cases h
   refine Ag h λa7 h=>Af ?_;have h:=AX.again h z;refine Ak (_,_,_) Z ⟨q,h⟩
  have h:=AX.out h z;refine Af ?_;refine Am _ ⟨q,h⟩
 rintro j a8 ⟨s,h⟩;refine FA 1 Z<|Ah h λa1 an h=>A9 s (QkC _ _ (Ae s) (As.nil _ _) an) ?_;rintro ah bd ⟨_,rfl,ab⟩ ao ac ai;obtain⟨ap,ac,ai,aq⟩:=ab.take hH s ao;refine BJ 1 Z<|AA (Wl×Value×LR) (λ⟨p,o,k⟩=>[(6,o)]) (λ⟨p,o,k⟩ wr=>Cd w [.row o 5 1 (p).length k] wr λOz=>Ao .byte (gz H w wr Oz) p k/\FN p=TI r) ?_ ?_
 ·refine Af ?_;refine A4 ?_;obtain⟨ad,h⟩:=Ax h;refine AF (Wl×Int×Value×LR×Nat) (λ⟨f,a,g,d,n⟩=>[(6,g),(25,e),(26,No (a0.length:Int)),(27,No a)]) (λ⟨f,a,g,d,n⟩ wr=>Cd w [.row g 5 1 (f).length d] wr λOz=>Ao .byte (gz H w wr Oz) f d/\D6 (DS a0) n (f,a)=TI r) (λ⟨f,a,g,d,n⟩=>n) (a1,0,ah,ap,ad) Z ⟨ac,aq,h⟩ ?_;rintro⟨f,a,g,d,nn92⟩ a9 ⟨t,u,h⟩;obtain⟨ad,be,rfl,h,ae⟩:=Aw h;refine AR ?_;refine Ar h ?_ ?_<;>intro ar h
  ·refine AR ?_;refine Ag h λaf h=>A1 x a.toNat (BP af) (An af) ?_;rintro bf _ ⟨e96v0,rfl,e96h0⟩ au;refine sH au (hH.trans t.arg)<|Af ?_;refine Ag h λav h=>Bf (r:=.byte) 0 f (a0.getD a.toNat Qq7) Z LS t Z u (e96h0.mono  Ad) av λa2 bg aw ax a3 ay=>Ag h λa4 h=>Af ?_;have h:=AX.again h ae;refine Ak (_,_,_,_,_) Z ⟨ax,ay,h⟩
  have h:=AX.out h ae;refine Af ?_;refine Am (_,_,_) ⟨t,u,h⟩
 rintro⟨p,o,k⟩ ba ⟨ag,aj,h⟩;refine Af ?_
 cases h
 refine AD Z ⟨ag.ext,_,Z,(ag.Ev hH (i:=0) Z aj)⟩
def My(a:Wl):Option Wl:=
 TI a
def I9(a0:SB):Wl×Int->Option ((Wl×Int)⊕(Wl)):=λ⟨b,a⟩=>
 if a<(a0.length:Int)then Ay (0<=a/\a<(a0.length:Int)) (Xd (DN (a0.getD a.toNat Qq7)) (λc=>Ay (Go.E.Dx 1 (b.length+c.length)) (Ay (AL (a+1)) (TI (Sum.inl ((b++c),(a+1)))))))else Sh Sum.inr (My b)
def Abu(a0:SB)(s:Wl×Int):Option Wl:=Go.L.run (I9 a0) s
def MN(a0:SB):Option Wl:=
 Xd (DN (a0.length:Int)) (λa=>(Abu a0) (a,0))
theorem Hc{a0:SB}{j:Value}(ad:As (.int .i64) H j a0){r:Wl}(h:MN a0=TI r):
  Pd 198 [j,.func (.func 128) #[] #[]] w (λv w'=>∃u0,v=u0/\B2 5 .byte H w w' u0 r):=by
 refine Ai 24 [(0,j),(1,.func (.func 128) #[] #[])] func198 Z λhL=>Af ?_;refine Ah h λx1 aq h=>A9 hL (B9 _ _ (Ae hL) aq) ?_;rintro ae w2 ⟨_,rfl,y⟩ ar ab af;obtain⟨au,ab,af,av⟩:=y.take hH hL ar;refine BJ 1 Z<|AA (Wl×Value×LR) (λ⟨o,k,e⟩=>[(5,k)]) (λ⟨o,k,e⟩ wr=>Cd w [.row k 5 1 (o).length e] wr λOz=>Ao .byte (gz H w wr Oz) o e/\My o=TI r) ?_ ?_
 ·refine Af ?_;refine A4 ?_;obtain⟨p,h⟩:=Ax h;refine AF (Wl×Int×Value×LR×Nat) (λ⟨c,a,d,b,n⟩=>[(1,.func (.func 128) #[] #[]),(5,d),(11,j),(12,No (a0.length:Int)),(13,No a)]) (λ⟨c,a,d,b,n⟩ wr=>Cd w [.row d 5 1 (c).length b] wr λOz=>Ao .byte (gz H w wr Oz) c b/\D6 (I9 a0) n (c,a)=TI r) (λ⟨c,a,d,b,n⟩=>n) (x1,0,ae,au,p) Z ⟨ab,av,h⟩ ?_;rintro⟨c,a,d,b,nn44⟩ a1 ⟨g,f,h⟩;obtain⟨p,a4,rfl,h,q⟩:=Aw h;refine AR ?_;refine Ar h ?_ ?_<;>intro ag h
  ·refine AR ?_;refine Ag h λs h=>A1 ad a.toNat (BP s) (An s) ?_;rintro a5 _ rfl ah;refine sH ah (hH.trans g.arg)<|Af ?_;refine Ah h λac ai h=>Qd g (B9 _ _ (Ae g) ai) ?_;rintro ax a6 ⟨_,rfl,t⟩ aj ak z;have u:=t.BB hH g aj;refine Ag h λal h=>?_;have f:=f.mono (Aa z);refine Bf (r:=.byte) 0 c ac Z LS ak Z f u al λaw a7 am an ay ao=>Ag h λa2 h=>Af ?_;have h:=AX.again h q;refine Ak (_,_,_,_,_) Z ⟨an,ao,h⟩
  have h:=AX.out h q;refine Af ?_;refine Am (_,_,_) ⟨g,f,h⟩
 rintro⟨o,k,e⟩ a3 ⟨x,aa,h⟩;refine Af ?_
 cases h
 refine AD Z ⟨x.ext,_,Z,(x.Ev hH (i:=0) Z aa)⟩
end
end Go.Proofs.YtgaljodghpgdmaaGreatDoor
end
noncomputable section
namespace Go
abbrev Xp:=Go.E.Rp.pair Go.E.Rp.st (Go.E.Rp.pair (Go.E.Rp.int .i64) (Go.E.Rp.pair (Go.E.Rp.int .i64) Go.E.Rp.st))
end Go
namespace Go
abbrev SS:=List (Li×SB)
end Go
namespace Go.Proofs.YtgaljodghpgdmaaGreatDoor
open Go Go.E Go.RowKit Go.L
set_option maxHeartbeats 1000000
set_option maxRecDepth 10000
open _root_.Go.Proofs.Tryz
def SM(a:Wl):Option Wl:=
 TI a
def Nh(a0:Li×SB):Option Wl:=
 Ay (a0.1.1.length<=9223372036854775807) (Xd (HG a0.1.1) (λa=>Xd (DN a0.1.2.1) (λb=>Xd (DN a0.1.2.2.1) (λc=>Ay (a0.1.2.2.2.length<=9223372036854775807) (Xd (HG a0.1.2.2.2) (λd=>Xd (MN a0.2) (λe=>Xd (EY ([a,b,c,d,e])) (λf=>SM f))))))))
section
variable(w:World)(H:PH)(hH:Le H (hp w)) include hH
theorem Qkj{a0:Li×SB}{cx:Value}(b7:As (.int .i64) H cx (a0.2)){r:Wl}(h:Nh a0=TI r):
  Pd 146 [.agg #[Pg a0.1.1,No a0.1.2.1,No a0.1.2.2.1,Pg a0.1.2.2.2,cx]] w (λv w'=>∃u0,v=u0/\B2 5 .byte H w w' u0 r):=by
 refine Ai 26 [(0,.agg #[Pg a0.1.1,No a0.1.2.1,No a0.1.2.2.1,Pg a0.1.2.2.2,cx])] func146 Z λhL=>A5<|B6 (t:=171) Z Z hL λw1 b1 iw j4 _=>BJ 1 Z<|AA (Wl×Value×LR) (λ⟨b8,a9,an⟩=>[(2,a9)]) (λ⟨b8,a9,an⟩ wr=>Cd w [.row a9 5 1 (b8).length an,.box b1 [Pg a0.1.1,No a0.1.2.1,No a0.1.2.2.1,Pg a0.1.2.2.2,cx] 171] wr λOz=>Ao .byte (gz H w wr Oz) b8 an/\SM b8=TI r) ?_ ?_
 ·refine P8 (Zt 0 3 (Zt 5 3 (Zt 9 3 (Zt 13 3 (.q 18 (.q 19 (.h2 3 (.h2 4 (.h2 8 (.h2 12 (.h 16 (.h 17 (.h 20 (.h 21 (.h 22 (.q 23 (.tail 24))))))) 16 (.h 12 (.h 17 (.h 20 (.h 21 (.h 22 (.q 23 (.tail 24)))))))) 16 (.h 8 (.h 12 (.h 17 (.h 20 (.h 21 (.h 22 (.q 23 (.tail 24))))))))) 16 (.h 4 (.h 8 (.h 12 (.h 17 (.h 20 (.h 21 (.h 22 (.q 23 (.tail 24)))))))))) 16 (.h 3 (.h 4 (.h 8 (.h 12 (.h 17 (.h 20 (.h 21 (.h 22 (.q 23 (.tail 24))))))))))))))))) mixed SF (λj5 ha=>?_);have j:=iw.call ha;refine Bh Z (A7 Z R4 Z O9.e) Z<|Bh Z (A7 Z Zz Z E7.e) Z<|Bh Z (AG 0 Z j Z) Z<|Bh Z (A7 Z R4 Z O9.e) Z<|Bh Z (A7 Z Zz Z DW.e) Z<|Bh Z (AG 0 Z j Z) Z<|Bh Z (A7 Z R4 Z O9.e) Z<|Bh Z (A7 Z Zz Z DW.e) Z<|Bh Z (AG 0 Z j Z) Z<|Bh Z (A7 Z R4 Z O9.e) Z<|Bh Z (A7 Z Zz Z E7.e) Z<|Bh Z (AG 0 Z j Z) Z<|Bh Z (A7 Z R4 Z AjL.e) Z<|Bh Z (AG 0 Z j Z) Z<|VS ?_ ?_
  ·refine Ag h λcy h=>Yr (H:=H) Z Z TH LS V0 Z j cy λj6 j7 jq ba ix bb=>VS ?_ ?_
   ·refine Ah h λam ao h=>BK Z Z Z (λh0 bc=>DX _ _ (Ae (ba.call bc)) (bb.mono (Aa (A3 ba bc))) ao) ?_;rintro h0 iy j8 bc fn ⟨_,rfl,fv⟩;have fo:=ba.call bc;have bd:=fo.call fn;have a:=fv.BB hH fo fn;refine VS ?_ ?_
    ·refine Ah h λu k h=>BK Z Z Z (λh1 be=>B9 _ _ (Ae (bd.call be)) k) ?_;rintro h1 iz j9 be cz ⟨_,rfl,fw⟩;have c0:=bd.call be;have fc:=A3 bd be;have bf:=c0.call cz;have fd:=A3 c0 cz;have b:=fw.BB hH c0 cz;refine VS ?_ ?_
     ·refine Ah h λm c h=>BK Z Z Z (λh3 bg=>B9 _ _ (Ae (bf.call bg)) c) ?_;rintro h3 i0 ka bg c2 ⟨_,rfl,fx⟩;have c3:=bf.call bg;have fe:=A3 bf bg;have hb:=c3.call c2;have ff:=A3 c3 c2;have x:=fx.BB hH c3 c2;refine Ag h λd h=>Yr (H:=H) Z Z TH LS V0 Z hb d λkb kc jr bh b9 hc=>Ah h λo e h=>BK Z Z Z (λh4 ap=>DX _ _ (Ae (bh.call ap)) (hc.mono (Aa (A3 bh ap))) e) ?_;rintro h4 i1 kd ap c4 ⟨_,rfl,fy⟩;have c5:=bh.call ap;have ca:=A3 bh ap;have c6:=c5.call c4;have cb:=A3 c5 c4;have y:=fy.BB hH c5 c4;refine Ah h λp f h=>BK Z Z Z (λh5 bi=>Hc _ _ (Ae (c6.call bi)) (b7.mono  Ad) f) ?_;rintro h5 i2 ke bi c7 ⟨_,rfl,fz⟩;have c8:=c6.call bi;have aq:=A3 c6 bi;have hd:=c8.call c7;have ar:=A3 c8 c7;have cs:=fz.BB hH c8 c7
      have a:=a.mono (Aa (fc.trans (fd.trans (fe.trans (ff.trans (b9.trans (ca.trans (cb.trans (aq.trans ar)))))))));have b:=b.mono (Aa (fe.trans (ff.trans (b9.trans (ca.trans (cb.trans (aq.trans ar)))))));have x:=x.mono (Aa (b9.trans (ca.trans (cb.trans (aq.trans ar)))));have y:=y.mono (Aa (aq.trans ar));refine St [am,u,m,o,p] (r:=(.vec .byte)) Z Z (λ_=>UJ _ a.one _ b.one _ x.one _ y.one _ cs.one _) Z (Bk 5) hH hd (.c1 ⟨_,Z,a⟩ (.c1 ⟨_,Z,b⟩ (.c1 ⟨_,Z,x⟩ (.c1 ⟨_,Z,y⟩ (.c1 ⟨_,Z,cs⟩ .nil))))) λkf kg js c9 i3 he=>Ah h λs g h=>BK Z Z Z (λh6 bj=>CP _ _ (Ae (c9.call bj)) (he.mono (Aa (A3 c9 bj))) g) ?_;rintro h6 gm kh bj da ⟨_,rfl,f0⟩;have db:=c9.call bj;have dc:=db.call da;have gn:=A3 db da;obtain⟨hf,dc,gn,dd⟩:=f0.take hH db da;refine Br 1 Z<|AT (λki fp=>?_);have hg:=dc.call fp;have go:=A3 dc fp;refine HX ?_;have dd:=dd.mono (Aa go)
      refine Am (_,_,_) ⟨hg,dd,h⟩
     refine Ah h λm c h=>Ag h λd h=>Ah h λo e h=>Ah h λp f h=>Ah h λs g h=>Yr (H:=H) Z Z TH LS V0 Z bf d λkj kk jt de fg df=>BK Z Z Z (λh7 bk=>B9 _ _ (Ae (de.call bk)) c) ?_;rintro h7 i4 kl bk dg ⟨_,rfl,f1⟩;have dh:=de.call bk;have cc:=A3 de bk;have bl:=dh.call dg;have cd:=A3 dh dg;have z:=f1.BB hH dh dg;have df:=df.mono (Aa (cc.trans cd));refine BK Z Z Z (λh8 au=>DX _ _ (Ae (bl.call au)) (df.mono (Aa (A3 bl au))) e) ?_;rintro h8 i5 km au di ⟨_,rfl,f2⟩;have dj:=bl.call au;have ce:=A3 bl au;have dk:=dj.call di;have cf:=A3 dj di;have aa:=f2.BB hH dj di;refine BK Z Z Z (λh9 bm=>Hc _ _ (Ae (dk.call bm)) (b7.mono  Ad) f) ?_;rintro h9 i6 kn bm dl ⟨_,rfl,f3⟩;have dm:=dk.call bm;have av:=A3 dk bm;have hh:=dm.call dl;have aw:=A3 dm dl;have ct:=f3.BB hH dm dl
     have a:=a.mono (Aa (fc.trans (fd.trans (fg.trans (cc.trans (cd.trans (ce.trans (cf.trans (av.trans aw)))))))));have b:=b.mono (Aa (fg.trans (cc.trans (cd.trans (ce.trans (cf.trans (av.trans aw)))))));have z:=z.mono (Aa (ce.trans (cf.trans (av.trans aw))));have aa:=aa.mono (Aa (av.trans aw));refine St [am,u,m,o,p] (r:=(.vec .byte)) Z Z (λ_=>UJ _ a.one _ b.one _ z.one _ aa.one _ ct.one _) Z (Bk 5) hH hh (.c1 ⟨_,Z,a⟩ (.c1 ⟨_,Z,b⟩ (.c1 ⟨_,Z,z⟩ (.c1 ⟨_,Z,aa⟩ (.c1 ⟨_,Z,ct⟩ .nil))))) λko kp ju dn i7 hi=>BK Z Z Z (λia bn=>CP _ _ (Ae (dn.call bn)) (hi.mono (Aa (A3 dn bn))) g) ?_;rintro ia gp kq bn dp ⟨_,rfl,f4⟩;have dq:=dn.call bn;have dr:=dq.call dp;have gq:=A3 dq dp;obtain⟨hj,dr,gq,ds⟩:=f4.take hH dq dp;refine Br 1 Z<|AT (λkr fq=>?_);have hk:=dr.call fq;have gr:=A3 dr fq;refine HX ?_;have ds:=ds.mono (Aa gr);refine Am (_,_,_) ⟨hk,ds,h⟩
    refine Ah h λu k h=>Ah h λm c h=>Ag h λd h=>Ah h λo e h=>Ah h λp f h=>Ah h λs g h=>Yr (H:=H) Z Z TH LS V0 Z bd d λks kt jv dt gs du=>BK Z Z Z (λib bo=>B9 _ _ (Ae (dt.call bo)) k) ?_;rintro ib i8 ku bo dv ⟨_,rfl,f5⟩;have dw:=dt.call bo;have fh:=A3 dt bo;have dx:=dw.call dv;have fi:=A3 dw dv;have ab:=f5.BB hH dw dv;refine BK Z Z Z (λic bp=>B9 _ _ (Ae (dx.call bp)) c) ?_;rintro ic i9 kv bp dy ⟨_,rfl,f6⟩;have dz:=dx.call bp;have cg:=A3 dx bp;have bq:=dz.call dy;have ch:=A3 dz dy;have ac:=f6.BB hH dz dy;have du:=du.mono (Aa (fh.trans (fi.trans (cg.trans ch))));refine BK Z Z Z (λie ax=>DX _ _ (Ae (bq.call ax)) (du.mono (Aa (A3 bq ax))) e) ?_;rintro ie ja kw ax d0 ⟨_,rfl,f7⟩;have d1:=bq.call ax;have ci:=A3 bq ax;have d2:=d1.call d0;have cj:=A3 d1 d0
    have ad:=f7.BB hH d1 d0;refine BK Z Z Z (λig br=>Hc _ _ (Ae (d2.call br)) (b7.mono  Ad) f) ?_;rintro ig jb kx br d3 ⟨_,rfl,f8⟩;have d4:=d2.call br;have ay:=A3 d2 br;have hl:=d4.call d3;have az:=A3 d4 d3;have cu:=f8.BB hH d4 d3;have a:=a.mono (Aa (gs.trans (fh.trans (fi.trans (cg.trans (ch.trans (ci.trans (cj.trans (ay.trans az)))))))));have ab:=ab.mono (Aa (cg.trans (ch.trans (ci.trans (cj.trans (ay.trans az))))));have ac:=ac.mono (Aa (ci.trans (cj.trans (ay.trans az))));have ad:=ad.mono (Aa (ay.trans az));refine St [am,u,m,o,p] (r:=(.vec .byte)) Z Z (λ_=>UJ _ a.one _ ab.one _ ac.one _ ad.one _ cu.one _) Z (Bk 5) hH hl (.c1 ⟨_,Z,a⟩ (.c1 ⟨_,Z,ab⟩ (.c1 ⟨_,Z,ac⟩ (.c1 ⟨_,Z,ad⟩ (.c1 ⟨_,Z,cu⟩ .nil))))) λky kz jw d5 jc hm=>BK Z Z Z (λih bs=>CP _ _ (Ae (d5.call bs)) (hm.mono (Aa (A3 d5 bs))) g) ?_;rintro ih gt k0 bs d6 ⟨_,rfl,f9⟩;have d7:=d5.call bs
    have d8:=d7.call d6;have gu:=A3 d7 d6;obtain⟨hn,d8,gu,d9⟩:=f9.take hH d7 d6;refine Br 1 Z<|AT (λk1 fr=>?_);have ho:=d8.call fr;have gv:=A3 d8 fr;refine HX ?_;have d9:=d9.mono (Aa gv);refine Am (_,_,_) ⟨ho,d9,h⟩
   refine Ah h λam ao h=>Ah h λu k h=>Ah h λm c h=>Ag h λd h=>Ah h λo e h=>Ah h λp f h=>Ah h λs g h=>Yr (H:=H) Z Z TH LS V0 Z ba d ?_;intro k2 k3 jx bt gw ea;have bb:=bb.mono (Aa gw);refine BK Z Z Z (λii a1=>DX _ _ (Ae (bt.call a1)) (bb.mono (Aa (A3 bt a1))) ao) ?_;rintro ii jd k4 a1 eb ⟨_,rfl,ga⟩;have ec:=bt.call a1;have gx:=A3 bt a1;have ed:=ec.call eb;have gy:=A3 ec eb;have ae:=ga.BB hH ec eb;refine BK Z Z Z (λij bu=>B9 _ _ (Ae (ed.call bu)) k) ?_;rintro ij je k5 bu ee ⟨_,rfl,gb⟩;have ef:=ed.call bu;have fj:=A3 ed bu;have eg:=ef.call ee;have fk:=A3 ef ee;have af:=gb.BB hH ef ee;refine BK Z Z Z (λik bv=>B9 _ _ (Ae (eg.call bv)) c) ?_;rintro ik jf k6 bv eh ⟨_,rfl,gc⟩;have ei:=eg.call bv;have ck:=A3 eg bv;have bw:=ei.call eh;have cl:=A3 ei eh
   have ag:=gc.BB hH ei eh;have ea:=ea.mono (Aa (gx.trans (gy.trans (fj.trans (fk.trans (ck.trans cl))))));refine BK Z Z Z (λil a2=>DX _ _ (Ae (bw.call a2)) (ea.mono (Aa (A3 bw a2))) e) ?_;rintro il jg k7 a2 ej ⟨_,rfl,gd⟩;have ek:=bw.call a2;have cm:=A3 bw a2;have el:=ek.call ej;have cn:=A3 ek ej;have ah:=gd.BB hH ek ej;refine BK Z Z Z (λim bx=>Hc _ _ (Ae (el.call bx)) (b7.mono  Ad) f) ?_;rintro im jh k8 bx em ⟨_,rfl,ge⟩;have en:=el.call bx;have a3:=A3 el bx;have hq:=en.call em;have a4:=A3 en em;have cv:=ge.BB hH en em;have ae:=ae.mono (Aa (fj.trans (fk.trans (ck.trans (cl.trans (cm.trans (cn.trans (a3.trans a4))))))));have af:=af.mono (Aa (ck.trans (cl.trans (cm.trans (cn.trans (a3.trans a4))))));have ag:=ag.mono (Aa (cm.trans (cn.trans (a3.trans a4))));have ah:=ah.mono (Aa (a3.trans a4))
   refine St [am,u,m,o,p] (r:=(.vec .byte)) Z Z (λ_=>UJ _ ae.one _ af.one _ ag.one _ ah.one _ cv.one _) Z (Bk 5) hH hq (.c1 ⟨_,Z,ae⟩ (.c1 ⟨_,Z,af⟩ (.c1 ⟨_,Z,ag⟩ (.c1 ⟨_,Z,ah⟩ (.c1 ⟨_,Z,cv⟩ .nil))))) λk9 la jy eo ji hr=>BK Z Z Z (λio bz=>CP _ _ (Ae (eo.call bz)) (hr.mono (Aa (A3 eo bz))) g) ?_;rintro io g0 lb bz ep ⟨_,rfl,gf⟩;have eq:=eo.call bz;have er:=eq.call ep;have g1:=A3 eq ep;obtain⟨hs,er,g1,es⟩:=gf.take hH eq ep;refine Br 1 Z<|AT (λlc fs=>?_);have ht:=er.call fs;have g2:=A3 er fs;refine HX ?_;have es:=es.mono (Aa g2);refine Am (_,_,_) ⟨ht,es,h⟩
  refine Ag h λcy h=>Ah h λam ao h=>Ah h λu k h=>Ah h λm c h=>Ag h λd h=>Ah h λo e h=>Ah h λp f h=>Ah h λs g h=>Yr (H:=H) Z Z TH LS V0 Z j d λld le jz hu jj et=>Yr (H:=H) Z Z TH LS V0 Z hu cy λlf lg j0 b0 g3 hv=>BK Z Z Z (λip a5=>DX _ _ (Ae (b0.call a5)) (hv.mono (Aa (A3 b0 a5))) ao) ?_;rintro ip jk lh a5 eu ⟨_,rfl,gg⟩;have ev:=b0.call a5;have g4:=A3 b0 a5;have ew:=ev.call eu;have g5:=A3 ev eu;have ai:=gg.BB hH ev eu;refine BK Z Z Z (λiq b2=>B9 _ _ (Ae (ew.call b2)) k) ?_;rintro iq jl li b2 ex ⟨_,rfl,gh⟩;have ey:=ew.call b2;have fl:=A3 ew b2;have ez:=ey.call ex;have fm:=A3 ey ex;have aj:=gh.BB hH ey ex;refine BK Z Z Z (λir b3=>B9 _ _ (Ae (ez.call b3)) c) ?_;rintro ir jm lj b3 e0 ⟨_,rfl,gi⟩;have e1:=ez.call b3
  have co:=A3 ez b3;have b4:=e1.call e0;have cp:=A3 e1 e0;have ak:=gi.BB hH e1 e0;have et:=et.mono (Aa (g3.trans (g4.trans (g5.trans (fl.trans (fm.trans (co.trans cp)))))));refine BK Z Z Z (λis a6=>DX _ _ (Ae (b4.call a6)) (et.mono (Aa (A3 b4 a6))) e) ?_;rintro is jn lk a6 e2 ⟨_,rfl,gj⟩;have e3:=b4.call a6;have cq:=A3 b4 a6;have e4:=e3.call e2;have cr:=A3 e3 e2;have al:=gj.BB hH e3 e2;refine BK Z Z Z (λit b5=>Hc _ _ (Ae (e4.call b5)) (b7.mono  Ad) f) ?_;rintro it jo ll b5 e5 ⟨_,rfl,gk⟩;have e6:=e4.call b5;have a7:=A3 e4 b5;have hw:=e6.call e5;have a8:=A3 e6 e5;have cw:=gk.BB hH e6 e5;have ai:=ai.mono (Aa (fl.trans (fm.trans (co.trans (cp.trans (cq.trans (cr.trans (a7.trans a8))))))));have aj:=aj.mono (Aa (co.trans (cp.trans (cq.trans (cr.trans (a7.trans a8))))));have ak:=ak.mono (Aa (cq.trans (cr.trans (a7.trans a8))));have al:=al.mono (Aa (a7.trans a8))
  refine St [am,u,m,o,p] (r:=(.vec .byte)) Z Z (λ_=>UJ _ ai.one _ aj.one _ ak.one _ al.one _ cw.one _) Z (Bk 5) hH hw (.c1 ⟨_,Z,ai⟩ (.c1 ⟨_,Z,aj⟩ (.c1 ⟨_,Z,ak⟩ (.c1 ⟨_,Z,al⟩ (.c1 ⟨_,Z,cw⟩ .nil))))) λlm ln j1 e7 jp hx=>BK Z Z Z (λiu b6=>CP _ _ (Ae (e7.call b6)) (hx.mono (Aa (A3 e7 b6))) g) ?_;rintro iu g6 lo b6 e8 ⟨_,rfl,gl⟩;have e9:=e7.call b6;have fa:=e9.call e8;have g7:=A3 e9 e8;obtain⟨hy,fa,g7,fb⟩:=gl.take hH e9 e8;refine Br 1 Z<|AT (λlp ft=>?_);have hz:=fa.call ft;have g8:=A3 fa ft;refine HX ?_;have fb:=fb.mono (Aa g8);refine Am (_,_,_) ⟨hz,fb,h⟩
 rintro⟨b8,a9,an⟩ j2 ⟨fu,g9,h⟩;refine U9 ?_
 cases h
 refine AD Z ⟨fu.ext,_,Z,(fu.Ev hH (i:=0) Z g9)⟩
def ON(a:Wl):Option Wl:=
 TI a
def Ku(a0:SS):Wl×Int->Option ((Wl×Int)⊕(Wl)):=λ⟨b,a⟩=>
 if a<(a0.length:Int)then Ay (0<=a/\a<(a0.length:Int)) (Xd (Nh ((((a0.getD a.toNat Qq7).1).1,((a0.getD a.toNat Qq7).1).2.1,((a0.getD a.toNat Qq7).1).2.2.1,((a0.getD a.toNat Qq7).1).2.2.2),(a0.getD a.toNat Qq7).2)) (λc=>Ay (Go.E.Dx 1 (b.length+c.length)) (Ay (AL (a+1)) (TI (Sum.inl ((b++c),(a+1)))))))else Sh Sum.inr (ON b)
def SN(a0:SS)(s:Wl×Int):Option Wl:=Go.L.run (Ku a0) s
def Pt(a0:SS):Option Wl:=
 Xd (DN (a0.length:Int)) (λa=>(SN a0) (a,0))
theorem Qxw{a0:SS}{g:Value}(ah:As (.pair Xp (.vec (.int .i64))) H g a0){r:Wl}(h:Pt a0=TI r):
  Pd 145 [g,.func (.func 146) #[] #[]] w (λv w'=>∃u0,v=u0/\B2 5 .byte H w w' u0 r):=by
 refine Ai 24 [(0,g),(1,.func (.func 146) #[] #[])] func145 Z λhL=>Af ?_;refine Ah h λx1 ax h=>A9 hL (B9 _ _ (Ae hL) ax) ?_;rintro ai w2 ⟨_,rfl,aa⟩ ay af aj;obtain⟨az,af,aj,a1⟩:=aa.take hH hL ay;refine BJ 1 Z<|AA (Wl×Value×LR) (λ⟨k,j,e⟩=>[(5,j)]) (λ⟨k,j,e⟩ wr=>Cd w [.row j 5 1 (k).length e] wr λOz=>Ao .byte (gz H w wr Oz) k e/\ON k=TI r) ?_ ?_
 ·refine Af ?_;refine A4 ?_;obtain⟨s,h⟩:=Ax h;refine AF (Wl×Int×Value×LR×Nat) (λ⟨c,a,d,b,n⟩=>[(1,.func (.func 146) #[] #[]),(5,d),(11,g),(12,No (a0.length:Int)),(13,No a)]) (λ⟨c,a,d,b,n⟩ wr=>Cd w [.row d 5 1 (c).length b] wr λOz=>Ao .byte (gz H w wr Oz) c b/\D6 (Ku a0) n (c,a)=TI r) (λ⟨c,a,d,b,n⟩=>n) (x1,0,ai,az,s) Z ⟨af,a1,h⟩ ?_;rintro⟨c,a,d,b,nn50⟩ a6 ⟨o,f,h⟩;obtain⟨s,a9,rfl,h,t⟩:=Aw h;refine AR ?_;refine Ar h ?_ ?_<;>intro ak h
  ·refine AR ?_;refine Ag h λu h=>A1 ah a.toNat (BP u) (An u) ?_;rintro ba _ ⟨_,_,rfl,⟨_,_,rfl,rfl,⟨_,_,rfl,rfl,⟨_,_,rfl,rfl,rfl⟩⟩⟩,⟨e54v4,rfl,e54h4⟩⟩ al;refine AJ (AU al (hH.trans o.arg))<|Aq LU.e Z o λbb bc am ab _=>Ac 0 Z am Z (a:=(AV Z (AV Z (AV Z (AV Z (AV e54h4.one JO)))))) λbd p ac=>Af ?_;refine Ah h λag an h=>Qd p (Qkj (a0:=((((a0.getD a.toNat Qq7).1).1,((a0.getD a.toNat Qq7).1).2.1,((a0.getD a.toNat Qq7).1).2.2.1,((a0.getD a.toNat Qq7).1).2.2.2),(a0.getD a.toNat Qq7).2)) _ _ (Ae p) (e54h4.mono  Ad) an) ?_;rintro a3 be ⟨_,rfl,x⟩ ao ap ad;have y:=x.BB hH p ao;refine Ag h λaq h=>?_;have f:=f.mono (Aa (ab.trans (ac.trans ad)));refine Bf (r:=.byte) 1 c ag Z LS ap Z f y aq λa2 bf ar au a4 q=>Ag h λa7 h=>Af ?_;have av:=au.dT 0 Z;have h:=AX.again h t;have q:=q.mono (Aa (fz_dT 0 Z))
   refine Ak (_,_,_,_,_) Z ⟨av,q,h⟩
  have h:=AX.out h t;refine Af ?_;refine Am (_,_,_) ⟨o,f,h⟩
 rintro⟨k,j,e⟩ a8 ⟨z,ae,h⟩;refine Af ?_
 cases h
 refine AD Z ⟨z.ext,_,Z,(z.Ev hH (i:=0) Z ae)⟩
end
set_option maxHeartbeats 1000000
set_option maxRecDepth 10000
open _root_.Go.Proofs.Tryz
def HJ(a0:Int×SS):Option Wl:=
 Xd (DN a0.1) (λa=>Xd (Pt a0.2) (λb=>Ay (Go.E.Dx 1 (a.length+b.length)) (TI ((a++b)))))
section
variable(w:World)(H:PH)(hH:Le H (hp w)) include hH
theorem Qz1{a0:Int×SS}{c:Value}(ac:As (.pair Xp (.vec (.int .i64))) H c (a0.2)){r:Wl}(h:HJ a0=TI r):
  Pd 95 [.agg #[No a0.1,c]] w (λv w'=>∃u0,v=u0/\B2 5 .byte H w w' u0 r):=by
 refine Ai 10 [(0,.agg #[No a0.1,c])] func95 Z λhL=>A5<|B6 (t:=34) Z Z hL λw1 b1 aj ap _=>BJ 1 Z<|BF (.q 0 (.q 1 (.q 3 (.q 4 (.h 2 (.h 5 (.tail 6))))))) mixed SF (λw2 ak=>?_);have e:=aj.call ak;refine Bh Z (A7 Z YL Z DW.e) Z<|Bh Z (AG 0 Z e Z) Z<|Bh Z (A7 Z YL Z Ahw.e) Z<|Bh Z (AG 0 Z e Z) Z<|Ah h λx4 al h=>BK Z Z Z (λw6 j=>B9 _ _ (Ae (e.call j)) al) ?_;rintro w6 au w5 j k ⟨_,rfl,y⟩;have o:=e.call j;have f:=o.call k;have ad:=A3 o k;obtain⟨ay,f,ad,p⟩:=y.take hH o k;refine Ah h λx8 am h=>BK Z Z Z (λan a=>Qxw _ _ (Ae (f.call a)) (ac.mono  Ad) am) ?_;rintro an aw w9 a s ⟨_,rfl,z⟩;have d:=f.call a;have aa:=A3 f a;have ab:=d.call s;have ae:=A3 d s;have b:=z.BB hH d s;refine AT (λaz u=>?_);have af:=ab.call u;have g:=A3 ab u;refine Ag h λag h=>?_;have p:=p.mono (Aa (aa.trans (ae.trans g)));have b:=b.mono (Aa g)
 refine Bf (r:=.byte) 0 x4 x8 Z LS af Z p b ag λa1 a2 ax x ao ah=>Af ?_
 cases h
 refine AD Z ⟨x.ext,_,Z,(x.Ev hH (i:=0) Z ah)⟩
def Kv(a0:Int)(b:SS):Option ((Int×SS)×Zv):=
 Xd (HJ (a0,b)) (λc=>if 16384<(c.length:Int)then Xd (Dz (14:Int) (-1:Int)) (λa=>TI ((0,[]),(a.1,a.2)))else TI ((a0,b),(0,0)))
def J3(a0:Int)(a1:SS)(b:(List Li)):SS×Int->Option ((SS×Int)⊕((Int×SS)×Zv)):=λ⟨d,a⟩=>
 if a<(b.length:Int)then Ay (0<=a/\a<(b.length:Int)) (Xd (IQ (Bp [] ((b.getD a.toNat Qq7).1,(b.getD a.toNat Qq7).2.1,(b.getD a.toNat Qq7).2.2.1,(b.getD a.toNat Qq7).2.2.2) a1)) (λc=>Ay (c.length<4611686018427387904) (Ay ((Ms c).length<=9223372036854775807) (Ay (Go.E.Dx 72 (d.length+([(((b.getD a.toNat Qq7).1,(b.getD a.toNat Qq7).2.1,(b.getD a.toNat Qq7).2.2.1,(b.getD a.toNat Qq7).2.2.2),(Lib.compact (Ms c)))]).length)) (Ay (AL (a+1)) (TI (Sum.inl ((d++[(((b.getD a.toNat Qq7).1,(b.getD a.toNat Qq7).2.1,(b.getD a.toNat Qq7).2.2.1,(b.getD a.toNat Qq7).2.2.2),(Lib.compact (Ms c)))]),(a+1)))))))))else Sh Sum.inr ((Kv a0) d)
def RJ(a0:Int)(a1:SS)(a:(List Li))(s:SS×Int):Option ((Int×SS)×Zv):=Go.L.run (J3 a0 a1 a) s
def HK(a0:Int)(a1:SS):Option ((Int×SS)×Zv):=
 Xd (Abs a1) (λa=>(RJ a0 a1 a) (([]:SS),0))
theorem AnI{a0:Int}{a1:SS}{ag:Value}(a8:Zw KE (.vec (.int .i64)) H ag a1){r:(Int×SS)×Zv}(h:HK a0 a1=TI r):
  Pd 49 [No a0,ag] w (λv w'=>∃u0,v=.tuple #[.agg #[No r.1.1,u0],.agg #[No r.2.1,No r.2.2]]/\B2 171 (.pair Xp (.vec (.int .i64))) H w w' u0 (r.1.2)):=by
 refine Ai 43 [(0,No a0),(1,ag)] func49 Z λhL=>A5<|Aq QL.e Z hL λw1 b1 cm c0 _=>Aq Av.e Z cm λw2 b2 cn c1 _=>Af ?_;refine AJ (A8 (λ_=>AjO _ _))<|Aq QL.e Z cn λw3 b3 co c2 _=>Ac 0 Z co Z λw4 a9 c3=>Ap<|AA (SS×Value×LR) (λ⟨af,ah,x⟩=>[(4,(SX b1)),(5,(SX b2)),(6,(SX b3))]) (λ⟨af,ah,x⟩ wr=>Cd w [.row ah 171 5 (af).length x,.box b3 [No a0,ah] 34,.box b2 [No 0,No 0] 39,.box b1 [No 0,TO] 34] wr λOz=>Ao (.pair Xp (.vec (.int .i64))) (gz H w wr Oz) af x/\(Kv a0) af=TI r) ?_ ?_
 ·refine FA 1 Z<|Ah h λb cg h=>A9 a9 (AdS _ _ (Ae a9) (a8.mono  Ad) cg) ?_;rintro aw du ⟨_,rfl,ba⟩ ch ci ct;have ad:=ba.BB hH a9 ch;refine Af ?_;refine A4 ?_;obtain⟨bl,bb,bm⟩:=B3 (.pair Xp (.vec (.int .i64))) H 171 ci;obtain⟨au,h⟩:=Ax h;have ad:=ad.mono (Aa bb)
  refine AF (SS×Int×Value×LR×Nat) (λ⟨g,a,d,e,n⟩=>[(1,ag),(4,(SX b1)),(5,(SX b2)),(6,(SX b3)),(13,aw),(14,No (b.length:Int)),(15,No a)]) (λ⟨g,a,d,e,n⟩ wr=>Cd w [.row d 171 5 (g).length e,.box b3 [No a0,d] 34,.box b2 [No 0,No 0] 39,.box b1 [No 0,TO] 34] wr λOz=>As Xp (gz H w wr Oz) aw b/\Ao (.pair Xp (.vec (.int .i64))) (gz H w wr Oz) g e/\D6 (J3 a0 a1 b) n (g,a)=TI r) (λ⟨g,a,d,e,n⟩=>n) (([]:SS),0,TO,[],au) Z ⟨bl,ad,bm,h⟩ ?_;rintro⟨g,a,d,e,nn107⟩ cu ⟨ai,p,t,h⟩;obtain⟨au,c4,rfl,h,ax⟩:=Aw h;refine AR ?_;refine Ar h ?_ ?_<;>intro bn h
  ·refine AR ?_;refine Ag h λay h=>A1 p a.toNat (BP ay) (An ay) ?_;rintro c6 _ ⟨_,_,rfl,rfl,⟨_,_,rfl,rfl,⟨_,_,rfl,rfl,rfl⟩⟩⟩ bo;refine AJ (AU bo (Ae ai))<|Aq O9.e Z ai λc7 bc bp ao _=>Ac 0 Z bp Z λc8 y ap=>Af ?_;refine AeC (k:=((b.getD a.toNat Qq7).1,(b.getD a.toNat Qq7).2.1,(b.getD a.toNat Qq7).2.2.1,(b.getD a.toNat Qq7).2.2.2)) Ah4 zeroValue47 a8 (hH.trans y.arg) λc9 bq=>Ah h λaj br h=>A9 y (Qq9 _ _ (Ae y) (bq.mono  Ad) br) ?_;rintro bd da ⟨_,rfl,a6⟩ bs ak ae;obtain⟨cv,ak,ae,bt⟩:=a6.take hH y bs;have u:=ak.rG H;refine Af ?_;refine Ag h λbu h=>X6 (i:=0) Tryz.AeX ⟨Tryz.f93,_,func93,Z,Z⟩ Z hH ak Z (bt.mono u) bu λdb bv az be al=>Ap ?_
   refine Ik (Ew (VF (Pj (Ew (KZ MF))))) (λz0 z=>Le (gz H w z0 [.row bd 3 1 ((Ms aj)).length bv,.box bc [.string ⟨((b.getD a.toNat Qq7).1).toArray⟩,No ((b.getD a.toNat Qq7).2.1),No ((b.getD a.toNat Qq7).2.2.1),.string ⟨((b.getD a.toNat Qq7).2.2.2).toArray⟩] 112,.row d 171 5 (g).length e,.box b3 [No a0,d] 34,.box b2 [No 0,No 0] 39,.box b1 [No 0,TO] 34]) (hp z)/\z.heap[bc]? = TI (.cells [.string ⟨((b.getD a.toNat Qq7).1).toArray⟩,No ((b.getD a.toNat Qq7).2.1),No ((b.getD a.toNat Qq7).2.2.1),.string ⟨((b.getD a.toNat Qq7).2.2.2).toArray⟩].toArray 112 (0,0))/\z.heap[b3]? = TI (.cells [No a0,d].toArray 34 (0,0))/\z.heap[b2]? = TI (.cells [No 0,No 0].toArray 39 (0,0))/\z.heap[b1]? = TI (.cells [No 0,TO].toArray 34 (0,0))) mixed Z (λq dd a2=>?_);have j:=az.call a2;have aq:=A3 az a2;have c:=j.rG H;refine MG ⟨c.trans (Ae j),j.aT 1 Z,j.aT 3 Z,j.aT 4 Z,j.aT 5 Z⟩ λkI125=>Au 0 q kI125 Z (λ_ _=>A7 Z YL Z Ahw.e) Z ?_
   refine Au 1 q kI125 Z (λ_ hI=>JV Z hI.2.2.1 Z) Z<|Au 2 q kI125 Z (λ_ hI=>MU hI.2.1) Z<|Au 3 q kI125 Z (λ_ _=>Az Z) Z<|Jr 4 Z<|Ag h λbw h=>?_;have al:=al.mono (Aa aq);refine X7 (i:=0) Tryz.AeY ⟨Tryz.f94,_,func94,Z,Z⟩ Z hH j Z (al.mono c) bw ?_;intro de df cw f bf bx;have c:=c.trans (Aa bf);refine AS ⟨c.trans (Ae f),f.aT 1 Z,f.aT 3 Z,f.aT 4 Z,f.aT 5 Z⟩ λkI128=>Au 5 q kI128 Z (λ_ _=>A8 (λ_=>Ad7 _ _ _ _ _ (row_one (f.aT 0 Z)) _)) Z<|Jr 6 Z ?_;have bz:=f.BB hH (i:=0) Z bx;have b0:=f.dT 0 Z;refine Bi [(((b.getD a.toNat Qq7).1,(b.getD a.toNat Qq7).2.1,(b.getD a.toNat Qq7).2.2.1,(b.getD a.toNat Qq7).2.2.2),(Lib.compact (Ms aj)))] (r:=(.pair Xp (.vec (.int .i64)))) (λ_=>AjU _ _ _ _ _ _) b0 (.c5 ⟨_,_,Z,⟨_,_,Z,Z,⟨_,_,Z,Z,⟨_,_,Z,Z,Z⟩⟩⟩,⟨_,Z,bz⟩⟩ .nil) ?_
   intro dg dh cx s bg b4;have c:=c.trans (Aa ((fz_dT 0 Z).trans bg));refine AS ⟨c.trans (Ae s),s.aT 0 Z,s.aT 2 Z,s.aT 3 Z,s.aT 4 Z⟩ λkI131=>Jr 7 Z<|Ag h λb5 h=>?_;have t:=t.mono (Aa (ao.trans (ap.trans ae)));have u:=u.trans (Aa (be.trans aq));refine Bf (r:=(.pair Xp (.vec (.int .i64)))) 1 g [(((b.getD a.toNat Qq7).1,(b.getD a.toNat Qq7).2.1,(b.getD a.toNat Qq7).2.2.1,(b.getD a.toNat Qq7).2.2.2),(Lib.compact (Ms aj)))] Z Agt s Z ((t.mono u).mono c) b4 b5 ?_;intro cj di b6 o bh am;have c:=c.trans (Aa bh);refine AS ⟨c.trans (Ae o),o.aT 0 Z,o.aT 2 Z,o.aT 3 Z,o.aT 4 Z⟩ λkI134=>Au 8 q kI134 Z (λ_ _=>A7 Z YL Z Ahw.e) Z<|Jr 9 Z<|BW 2 Z Z (row_one (o.aT 1 Z)) o Z Z λdj b7 ar=>Kq<|FF<|Ag h λcy h=>Af ?_;have b8:=b7.dT 0 Z
   have h:=AX.again h ax;have p:=p.mono (Aa (ao.trans (ap.trans ae)));have am:=am.mono (Aa (ar.trans (fz_dT 0 Z)));have c:=c.trans (Aa (ar.trans (fz_dT 0 Z)));refine Ak (_,_,_,_,_) Z ⟨b8,((p.mono u).mono c),am,h⟩
  have h:=AX.out h ax;refine Af ?_;refine Am (_,_,_) ⟨ai,t,h⟩
 rintro⟨af,ah,x⟩ dk ⟨av,aa,h⟩;refine AR ?_;refine Ah h λdl b9 h=>A9 av (Qz1 (a0:=(a0,af)) _ _ (Le.refl _) (av.Jv hH (i:=0) Z aa) b9) ?_;rintro cp dm ⟨_,rfl,a7⟩ ca ab bi;have ck:=(a7.UE Um).BB hH av ca;refine Af ?_;refine Ar h ?_ ?_<;>intro cb h
 ·refine A5<|AJ (A8 (λ_=>AaN _))<|Ah h λdn cc h=>Al ab (Fi _ _ (Ae ab) cc) λdp cz cd cq=>Ac 3 Z cd Z λdq ce cr=>Ac 2 Z ce Z λdr an cs=>Af ?_
  cases h
  refine AP (.cell Z YL Z QL.e (box_pT 3 an Z)) (.cell Z QW Z Av.e (box_pT 2 an Z)) ⟨an.ext,_,Z,B2.nil⟩
 refine Af ?_;refine AJ (A8 (λ_=>Bo _))<|Ac 3 Z ab Z (a:=(AV Z (AV (row_one (ab.aT 0 Z)) JO))) λds cf bj=>Ac 2 Z cf Z λdt ac bk=>Af ?_
 cases h
 refine AP (.cell Z YL Z QL.e (box_pT 3 ac Z)) (.cell Z QW Z Av.e (box_pT 2 ac Z)) ?_;have aa:=aa.mono (Aa (bi.trans (bj.trans bk)));exact⟨ac.ext,_,Z,(ac.Ev hH (i:=0) Z aa)⟩
def N1(a0:List Pv)(b:SS):Option ((Int×SS)×Zv):=
 Xd (HK (a0.length:Int) b) (λa=>TI ((a.1.1,a.1.2),(a.2.1,a.2.2)))
def CV(a0:List Pv):SS×Int->Option ((SS×Int)⊕((Int×SS)×Zv)):=λ⟨d,a⟩=>
 if a<(a0.length:Int)then Ay (0<=a/\a<(a0.length:Int)) (Xd (CO (a0.getD a.toNat Qq7)) (λb=>if b.1=0/\b.2=0 then Xd (MM (Mx a) (a0.getD a.toNat Qq7) ([]:List Wl) d) (λe=>Ay (AL (a+1)) (TI (Sum.inl (e,(a+1)))))else Xd (Dz b.1 a) (λc=>Sh Sum.inr (TI ((0,[]),(c.1,c.2))))))else Sh Sum.inr ((N1 a0) d)
def RL(a0:List Pv)(s:SS×Int):Option ((Int×SS)×Zv):=Go.L.run (CV a0) s
def Og(a0:List Pv):Option ((Int×SS)×Zv):=
 if 64<(a0.length:Int)then Xd (Dz (2:Int) (-1:Int)) (λa=>TI ((0,[]),(a.1,a.2)))else(RL a0) (([]:SS),0)
theorem Qq4{a0:List Pv}{g:Value}(bh:As .tree H g a0){r:(Int×SS)×Zv}(h:Og a0=TI r):
  Pd 18 [g] w (λv w'=>∃u0,v=.tuple #[.agg #[No r.1.1,u0],.agg #[No r.2.1,No r.2.2]]/\As (.pair Xp (.vec (.int .i64))) (un H (nw w w')) u0 (r.1.2)):=by
 refine Ai 41 [(0,g)] func18 Z λhL=>A5<|Aq QL.e Z hL λw1 t bo cg _=>Aq Av.e Z bo λw2 u af ch _=>AR ?_;refine Ar h ?_ ?_<;>intro bp h
 ·refine A5<|AJ (A8 (λ_=>AaN _))<|Ah h λx5 bq h=>Al af (Fi _ _ (Ae af) bq) λw6 c3 br ci=>Ac 1 Z br Z λw7 bs cj=>Ac 0 Z bs Z λw8 ag ck=>Af ?_
  cases h
  refine AP (.cell Z YL Z QL.e (box_pT 1 ag Z)) (.cell Z QW Z Av.e (box_pT 0 ag Z)) ⟨ag.ext,_,Z,(As.nil _ _)⟩
 refine Af ?_;refine ZP KE SB af λc4 d bi ca=>Aq Alr.e Z bi λc5 m bj cb _=>BW 0 Z Z Z bj Z Z λc6 bk cc=>Ap<|AA (SS×LR) (λ⟨k,vsl68⟩=>[(0,g),(2,(SX t)),(3,(SX u)),(4,(SX m))]) (λ⟨k,vsl68⟩ wr=>Cd w (Ha [.box m [.map (TI d)] 109,TN KE d k vsl68,.box u [No 0,No 0] 39,.box t [No 0,TO] 34] (mT cwI 3 1 k vsl68)) wr λOz=>(k).length=(vsl68).length/\(N1 a0) k=TI r) ?_ ?_
 ·refine Af ?_;refine A4 ?_;obtain⟨ah,h⟩:=Ax h;refine AF (SS×Int×LR×Nat) (λ⟨b,a,vsl97,n⟩=>[(0,g),(2,(SX t)),(3,(SX u)),(4,(SX m)),(14,g),(15,No (a0.length:Int)),(16,No a)]) (λ⟨b,a,vsl97,n⟩ wr=>Cd w (Ha [.box m [.map (TI d)] 109,TN KE d b vsl97,.box u [No 0,No 0] 39,.box t [No 0,TO] 34] (mT cwI 3 1 b vsl97)) wr λOz=>(b).length=(vsl97).length/\D6 (CV a0) n (b,a)=TI r) (λ⟨b,a,vsl97,n⟩=>n) (([]:SS),0,([]:LR),ah) Z ⟨bk,Z,h⟩ ?_;rintro⟨b,a,vsl97,nn99⟩ cl ⟨x,ab,h⟩;obtain⟨ah,c7,rfl,h,y⟩:=Aw h;refine AR ?_;refine Ar h ?_ ?_<;>intro am h
  ·refine AR ?_;refine Ag h λac h=>A1 bh a.toNat (BP ac) (An ac) ?_;rintro cm _ e103t0 an;obtain⟨_,_,rfl,rfl,⟨_,_,rfl,rfl,⟨_,_,rfl,⟨e103v2,rfl,e103h2⟩,⟨_,_,rfl,⟨e103v3,rfl,e103h3⟩,⟨e103v4,rfl,e103h4⟩⟩⟩⟩⟩:=Go.E.Rp.F6 e103t0;refine AJ (AU an (hH.trans x.arg))<|Aq DW.e Z x λcn ai ao bt _=>Aq Is.e Z ao λco z ap bu _=>BW 1 Z Z Z ap Z Z λcp aq bv=>Ac 0 Z aq Z (a:=(AV Z (AV Z (AV e103h2.one (AV e103h3.one (AV e103h4.one JO)))))) λcq ad bw=>AR ?_;refine Ah h λj ar h=>Al ad (Lx (a0:=(a0.getD a.toNat Qq7)) _ _ (Ae ad) (e103h2.mono  Ad) (e103h3.mono  Ad) (e103h4.mono  Ad) ar) λcr cd au bx=>Aq Av.e Z au λcs aa av bz _=>Ac 0 Z av Z λaj o b0=>Af ?_;refine AJ (A8 (λ_=>Bo _))<|AJ (I4 Ge (KO _ _ _ _))<|Ap<|Bt h ?_ ?_<;>intro aw h
   ·refine A5<|AJ (A8 (λ_=>AaN _))<|Af ?_;refine Ah h λct ax h=>Al o (Fi _ _ (Ae o) ax) λcu ce ay b3=>Ac 6 Z ay Z λcv az b4=>Ac 5 Z az Z ?_;intro cw p b5;have h:=AX.out h y;refine Af ?_
    cases h
    refine AP (.cell Z YL Z QL.e (box_pT 6 p Z)) (.cell Z QW Z Av.e (box_pT 5 p Z)) ⟨p.ext,_,Z,(As.nil _ _)⟩
   refine Af ?_;have a2:AB w (Ha [.box ai [No a] 3,TN KE d b vsl97,.box aa [No j.1,No j.2] 39,.box z [No ((a0.getD a.toNat Qq7).f.1),No ((a0.getD a.toNat Qq7).f.2.1),e103v2,e103v3,e103v4] 54,.box m [.map (TI d)] 109,.box u [No 0,No 0] 39,.box t [No 0,TO] 34] (mT cwI 3 1 b vsl97)) aj:=o.BX [4,3] Z;have a3:AB w (Ha [.box m [.map (TI d)] 109,.box ai [No a] 3,TN KE d b vsl97,.box aa [No j.1,No j.2] 39,.box z [No ((a0.getD a.toNat Qq7).f.1),No ((a0.getD a.toNat Qq7).f.2.1),e103v2,e103v3,e103v4] 54,.box u [No 0,No 0] 39,.box t [No 0,TO] 34] (mT cwI 3 1 b vsl97)) aj:=a2.BX [4] Z;refine Ah h λbl a4 h=>?_
   refine D5 (Abt hH (O:=[.box aa [No j.1,No j.2] 39,.box z [No ((a0.getD a.toNat Qq7).f.1),No ((a0.getD a.toNat Qq7).f.2.1),e103v2,e103v3,e103v4] 54,.box u [No 0,No 0] 39,.box t [No 0,TO] 34]) (i:=a) (l:=b) (vs:=vsl97) (a0:=(a0.getD a.toNat Qq7)) (a1:=([]:List Wl)) a3 (e103h2.mono  Ad) (e103h3.mono  Ad) (e103h4.mono  Ad) (As.nil _ _) ab a4) ?_;rintro _ cx ⟨rfl,a5,a6,a7,b6⟩;refine Ag h λcf h=>Af ?_;have a8:=a7.dT 1 Z;have a9:=a8.dT 2 Z;have ba:=a9.dT 2 Z;have h:=AX.again h y;refine Ak (_,_,_,_) Z ⟨ba,a6,h⟩
  have h:=AX.out h y;refine Af ?_;refine Am (_,_) ⟨x,ab,h⟩
 rintro⟨k,vsl68⟩ cy ⟨bm,bb,h⟩;refine Af ?_;obtain⟨q,b7,bc⟩:=AeB (A:=[.box m [.map (some d)] 109,TN KE d k vsl68,.box u [No 0,No 0] 39,.box t [No 0,TO] 34]) (l:=k) (vs:=vsl68) (e:=3) (r:=(.int .i64)) 1 Z Alo hH bb bm Z;refine Ah h λcz bd h=>A9 q (AnI _ _ (Ae q) bc bd) ?_;rintro _ c0 ⟨b8,rfl,ae⟩ be bf b9;have c:=ae.BB hH q be;refine AK 2 Z<|Ac 2 Z bf Z (a:=(AV Z (AV c.one JO))) λc1 bg ak=>Ac 1 Z bg Z λc2 s al=>Af ?_
 cases h
 refine AP (.cell Z YL Z QL.e (box_pT 2 s Z)) (.cell Z QW Z Av.e (box_pT 1 s Z)) ?_;have c:=c.mono (Aa (ak.trans al));exact⟨s.ext,_,Z,(c.mono  Dl)⟩
end
end Go.Proofs.YtgaljodghpgdmaaGreatDoor
end
noncomputable section
namespace Go.L
def SO{α:Type}(f:List α->Bool):List α->Bool
 | []=>f []
 | y::q=>f (y::q)||SO f q
def fits:Sa->Sa->Bool
 | [],q=>decide (q.length=0)
 | x::p,q=>if x=[42,42]then SO (λr=>fits p r) q else match q with
  | []=>false
  | y::q'=>(decide (x=[42])||decide (x=y))&&fits p q'
def kp(l:Sa)(j:Nat):Bool:=decide (j=0\/¬(l.getD j Qq7=[42,42]/\l.getD (j - 1) Qq7=[42,42]))
def kept(l:Sa)(m:Nat):Sa:=((VO m).filter (kp l)).map λj=>l.getD j Qq7
def M0(l:Sa)(m:Nat):kept l (m+1)=kept l m++if kp l m then[l.getD m Qq7]else[]:=by
 unfold kept;rw[List.range_succ,List.filter_append,K4]
 congr 1
 by_cases h:kp l m=true <;> simp[h]
def AcO(l:Sa)(m:Nat):(kept l m).length<=m:=by
 unfold kept;rw[Vx];exact RU (List.length_filter_le _ _) Rg
theorem YX{l:Sa}{m:Nat}(hm:m<=l.length)(h:∀j,j<m->kp l j=true):kept l m=l.take m:=by
 induction m with
 | zero=>rfl
 | succ m ih=>
  rw[M0,ih U (λj hj=>h j U),h m U,Xu Z,Vf,Pa (by omega:m<l.length)];simp[Sb,Pa (by omega:m<l.length)]
theorem Aao(l:Sa):∀m,kept l (m+1)≠[]/\((kept l (m+1)).getD ((kept l (m+1)).length - 1) Qq7=[42,42]↔l.getD m Qq7=[42,42])
 | 0=>by
  have:kept l 1=[l.getD 0 Qq7]:=by rw[M0];rfl
  exact⟨by rw[this];simp,by rw[this];exact Iff.rfl⟩
 | m+1=>by
  obtain⟨a,h2⟩:=Aao l m;rw[M0]
  by_cases hk:kp l (m+1)=true
  ·rw[Xu hk];refine⟨by simp,?_⟩;simp
  ·rw[Pb hk,R0];refine⟨a,h2.trans ?_⟩;unfold kp at hk;simp only[UW,Xf,not_or,Decidable.not_not]at hk;exact⟨λ_=>hk.2.1,λ_=>hk.2.2⟩
end Go.L
namespace Go.Proofs.YtgaljodghpgdmaaGreatDoor
open Go Go.L
theorem Ak0{self:Sa->Sa->Option Bool}{p q:Sa}{x:Qm}(hq:q.length<=1000000000000)(hs:∀r:Sa,r.length<=q.length->self p r=TI (fits p r)):
  ∀(d i:Nat),i+d=q.length->Go.L.run (C9 (x::p) q self) (i:Int)=TI (SO (λr=>fits p r) (q.drop i)):=by
 have hend:Go.L.run (C9 (x::p) q self) ((q.length+1:Nat):Int)=TI false:=by
  refine A2 (m:=TI false) ?_;unfold C9 Ja;rw[Pb U]
 have hb:∀i:Nat,i<=q.length->C9 (x::p) q self (i:Int)=if fits p (q.drop i)then TI (.inr true)else TI (.inl ((i+1:Nat):Int)):=by
  intro i hi;unfold C9;have a:((x::p).drop (1:Int).toNat)=p:=Z;rw[Xu U,Ab (by simp only[PF];omega),Ab U,a,SV,hs _ Rg,Wo,Ab U]
  rfl
 intro d
 induction d with
 | zero=>
  intro i hi;obtain rfl:i=q.length:=by omega
  have h:=hb q.length (KN _);rw[UU (KN _)]at h ⊢;unfold SO
  by_cases hf:fits p []=true
  ·rw[Xu hf]at h;rw[A2 (m:=TI true) h,hf]
  ·rw[Pb hf]at h;rw[AE h,hend]
   simpa using hf
 | succ d ih=>
  intro i hi;have h:=hb i U;rw[drop_cons (by omega:i<q.length)]at h ⊢;unfold SO
  by_cases hf:fits p (q.getD i Qq7::q.drop (i+1))=true
  ·rw[Xu hf]at h;rw[A2 (m:=TI true) h,hf]
   rfl
  ·rw[Pb hf]at h;rw[AE h,ih (i+1) U];have:fits p (q.getD i Qq7::q.drop (i+1))=false:=by simpa using hf
   rw[this,Bool.false_or]
theorem Afl:∀(p:Sa) (n:Nat) (q:Sa),p.length<n->q.length<=1000000000000->EM n p q=TI (fits p q)
 | [],0,_,h,_=>by simp at h
 | _::_,0,_,h,_=>by simp at h
 | [],n+1,q,_,hq=>by
  show EX (EM n) [] q=_
  unfold EX fits;rw[Xu (show((([]:Sa).length:Nat):Int)=0 from Z)]
  congr 1
  rw[decide_eq_decide];omega
 | x::p,n+1,q,hp,hq=>by
  show EX (EM n) (x::p) q=_
  have ih:∀r:Sa,r.length<=q.length->EM n p r=TI (fits p r):=λr hr=>Afl p n r (by simp at hp;omega) U;unfold EX fits;have hg:(x::p).getD ((0:Int).toNat) Qq7=x:=Z;rw[Pb (by simp only[PF];omega),Ab (by simp only[PF];omega),hg]
  by_cases hx:x=[42,42]
  ·rw[Xu hx,Xu hx,Ab U];exact Ak0 (x:=x) hq ih q.length 0 U
  ·rw[Pb hx,Pb hx];unfold Jb
   cases q with
   | nil=>rfl
   | cons y q'=>
    have b:(0:Int)<((y::q').length:Int):=by simp only[PF];omega
    have h2:(0:Int)<=0/\(0:Int)<((x::p).length:Int):=by simp only[PF];omega
    have h3:(0:Int)<=1/\(1:Int)<=((x::p).length:Int):=by simp only[PF];omega
    have c:(0:Int)<=1/\(1:Int)<=((y::q').length:Int):=by simp only[PF];omega
    have d:(0:Int)<=0/\(0:Int)<((y::q').length:Int):=by simp only[PF];omega
    have e:(x::p).drop (1:Int).toNat=p:=Z;have f:(y::q').drop (1:Int).toNat=q':=Z;have g:(y::q').getD ((0:Int).toNat) Qq7=y:=Z;rw[Xu b];simp only[Ab h2,Ab h3,Ab c,Ab d,hg,e,f,g,ih q' Rg,Wo]
    by_cases a:x=[42]
    ·rw[Xu a];simp[a]
    ·rw[Pb a]
     by_cases i:x=y <;> simp[a,i]
theorem Aiz{self:Sa->Sa->Option Bool}{p q:Sa}{x:Qm}(hq:q.length<=1000000000000)(hs:∀r:Sa,r.length<=q.length->self p r=TI (fits p r)):
  ∀(d i:Nat),i+d=q.length->Go.L.run (D8 (x::p) q self) (i:Int)=TI (SO (λr=>fits p r) (q.drop i)):=by
 have hend:Go.L.run (D8 (x::p) q self) ((q.length+1:Nat):Int)=TI false:=by
  refine A2 (m:=TI false) ?_;unfold D8 Lg;rw[Pb U]
 have hb:∀i:Nat,i<=q.length->D8 (x::p) q self (i:Int)=if fits p (q.drop i)then TI (.inr true)else TI (.inl ((i+1:Nat):Int)):=by
  intro i hi;unfold D8;have a:((x::p).drop (1:Int).toNat)=p:=Z;rw[Xu U,Ab (by simp only[PF];omega),Ab U,a,SV,hs _ Rg,Wo,Ab U]
  rfl
 intro d
 induction d with
 | zero=>
  intro i hi;obtain rfl:i=q.length:=by omega
  have h:=hb q.length (KN _);rw[UU (KN _)]at h ⊢;unfold SO
  by_cases hf:fits p []=true
  ·rw[Xu hf]at h;rw[A2 (m:=TI true) h,hf]
  ·rw[Pb hf]at h;rw[AE h,hend]
   simpa using hf
 | succ d ih=>
  intro i hi;have h:=hb i U;rw[drop_cons (by omega:i<q.length)]at h ⊢;unfold SO
  by_cases hf:fits p (q.getD i Qq7::q.drop (i+1))=true
  ·rw[Xu hf]at h;rw[A2 (m:=TI true) h,hf]
   rfl
  ·rw[Pb hf]at h;rw[AE h,ih (i+1) U];have:fits p (q.getD i Qq7::q.drop (i+1))=false:=by simpa using hf
   rw[this,Bool.false_or]
theorem Ai0:∀(p:Sa) (n:Nat) (q:Sa),p.length<n->q.length<=1000000000000->Hm n p q=TI (fits p q)
 | [],0,_,h,_=>by simp at h
 | _::_,0,_,h,_=>by simp at h
 | [],n+1,q,_,hq=>by
  show GV (Hm n) [] q=_
  unfold GV fits;rw[Xu (show((([]:Sa).length:Nat):Int)=0 from Z)]
  congr 1
  rw[decide_eq_decide];omega
 | x::p,n+1,q,hp,hq=>by
  show GV (Hm n) (x::p) q=_
  have ih:∀r:Sa,r.length<=q.length->Hm n p r=TI (fits p r):=λr hr=>Ai0 p n r (by simp at hp;omega) U;unfold GV fits;have hg:(x::p).getD ((0:Int).toNat) Qq7=x:=Z;rw[Pb (by simp only[PF];omega),Ab (by simp only[PF];omega),hg]
  by_cases hx:x=[42,42]
  ·rw[Xu hx,Xu hx];exact Aiz (x:=x) hq ih q.length 0 U
  ·rw[Pb hx,Pb hx];unfold Lh
   cases q with
   | nil=>rfl
   | cons y q'=>
    have b:(0:Int)<((y::q').length:Int):=by simp only[PF];omega
    have h2:(0:Int)<=0/\(0:Int)<((x::p).length:Int):=by simp only[PF];omega
    have h3:(0:Int)<=1/\(1:Int)<=((x::p).length:Int):=by simp only[PF];omega
    have c:(0:Int)<=1/\(1:Int)<=((y::q').length:Int):=by simp only[PF];omega
    have d:(0:Int)<=0/\(0:Int)<((y::q').length:Int):=by simp only[PF];omega
    have e:(x::p).drop (1:Int).toNat=p:=Z;have f:(y::q').drop (1:Int).toNat=q':=Z;have g:(y::q').getD ((0:Int).toNat) Qq7=y:=Z;rw[Xu b];simp only[Ab h2,Ab h3,Ab c,Ab d,hg,e,f,g,ih q' Rg,Wo]
    by_cases a:x=[42]
    ·rw[Xu a];simp[a]
    ·rw[Pb a]
     by_cases i:x=y <;> simp[a,i]
def JX(a b:Qm):GY a b=TI (decide (a=[42,42]/\b=[42,42])):=by
 unfold GY
 by_cases h:a=[42,42] <;> simp[h]
def col(l:Sa):Sa:=kept l l.length
def Afn(l:Sa):(col l).length<=l.length:=AcO l l.length
def An0{l:Sa}(hl:l.length<=1000000000000){a:Nat}(e:1<=a)(hk:a<l.length)(hall:∀j,j<a->kp l j=true)(hno:kp l a=false):
  Dt (a:Int) (l,(a:Int),(1:Int))=TI (.inr (col l)):=by
 unfold Dt;refine Ae0 (λs=>∃(m:Sa) (k b:Nat),s=(m,(k:Int),(b:Int))/\m.length=l.length/\m.drop (a+b - 1)=l.drop (a+b - 1)/\m.take k=kept l (a+b)/\k=(kept l (a+b)).length/\k<=a+b - 1/\1<=b/\a+b<=l.length) (λs=>l.length - s.2.2.toNat) ?_ ?_
 ·rintro _ ⟨m,k,b,rfl,hm,hd,ht,hkl,hkk,h2,hle⟩;have hdl:(m.drop a).length=l.length - a:=by rw[List.length_drop,hm]
  by_cases hc:a+b<l.length
  ·left
   have c:(m.drop a).getD b Qq7=l.getD (a+b) Qq7:=by
    have:(m.drop (a+b - 1))[1]? = (l.drop (a+b - 1))[1]?:=by rw[hd]
    rw[Vk,Vk,show a+b - 1+1=a+b by omega]at this;rw[Sb,Sb,Vk,this]
   have d:(m.drop a).getD (b - 1) Qq7=l.getD (a+b - 1) Qq7:=by
    have:(m.drop (a+b - 1))[0]? = (l.drop (a+b - 1))[0]?:=by rw[hd]
    rw[Vk,Vk,Nat.add_zero]at this;rw[Sb,Sb,Vk,show a+(b - 1)=a+b - 1 by omega,this]
   have hks:=M0 l (a+b)
   by_cases hp:kp l (a+b)=true
   ·refine⟨(m.set k (l.getD (a+b) Qq7),((k+1:Nat):Int),((b+1:Nat):Int)),?_,⟨_,k+1,b+1,Z,by rw[List.length_set,hm],?_,?_,?_,by omega,by omega,by omega⟩,by simp only[SV];omega⟩
    ·unfold BL;dsimp only;rw[SV,Xu U,Ab U,Ab U,Ab U,SV,show((b:Int) - 1).toNat=b - 1 by omega,c,d,JX,Wo]
     have hx:decide (l.getD (a+b) Qq7=[42,42]/\l.getD (a+b - 1) Qq7=[42,42])=false:=by
      unfold kp at hp;rw[Xf]at hp;rw[decide_eq_false_iff_not]
      rcases hp with hp | hp
      ·omega
      ·exact hp
     rw[hx,Xu Y5,Ab U,Ab U,Ab U,Ab U,SV]
     rfl
    ·rw[show a+(b+1) - 1=a+b by omega,List.drop_set_of_lt U];have:(m.drop (a+b - 1)).drop 1=(l.drop (a+b - 1)).drop 1:=by rw[hd]
     rwa [U4,U4,show a+b - 1+1=a+b by omega]at this
    ·rw[show a+(b+1)=a+b+1 by omega,hks,Xu hp,Vf,List.take_set_of_le (KN _),ht,List.getElem?_set_self U]
     rfl
    ·rw[show a+(b+1)=a+b+1 by omega,hks,Xu hp,T6,<- hkl];rfl
   ·have hp':kp l (a+b)=false:=by simpa using hp
    refine⟨(m,(k:Int),((b+1:Nat):Int)),?_,⟨m,k,b+1,Z,hm,?_,?_,?_,by omega,by omega,by omega⟩,by simp only[SV];omega⟩
    ·unfold BL;dsimp only;rw[SV,Xu U,Ab U,Ab U,Ab U,SV,show((b:Int) - 1).toNat=b - 1 by omega,c,d,JX,Wo]
     have hx:decide (l.getD (a+b) Qq7=[42,42]/\l.getD (a+b - 1) Qq7=[42,42])=true:=by
      unfold kp at hp';rw[decide_eq_false_iff_not]at hp';rw[Xf];exact Decidable.not_not.1 (λhh=>hp' (.inr hh))
     rw[hx,Pb Y5,Ab U]
     rfl
    ·rw[show a+(b+1) - 1=a+b by omega];have:(m.drop (a+b - 1)).drop 1=(l.drop (a+b - 1)).drop 1:=by rw[hd]
     rwa [U4,U4,show a+b - 1+1=a+b by omega]at this
    ·rw[show a+(b+1)=a+b+1 by omega,hks,hp']
     simpa using ht
    ·rw[show a+(b+1)=a+b+1 by omega,hks,hp']
     simpa using hkl
  ·right
   have he:a+b=l.length:=by omega
   unfold BL Ds;dsimp only;rw[SV,Pb U,SV,Ab U,Ab U]
   congr 1
   have htl:(m.take k).length=k:=by rw[Y4];omega
   rw[show(m.take k++List.replicate (m.length - k) ([]:Qm)).take k=m.take k by rw[List.take_append_of_le_length U,Sg U],ht,he]
   rfl
 ·have hks:=M0 l a;have hka:=YX (l:=l) (m:=a) U hall;refine⟨l,a,1,Z,Z,Z,?_,?_,by omega,by omega,by omega⟩
  ·rw[hks,hno,hka];simp
  ·rw[hks,hno,hka];simp;omega
theorem Amu{l:Sa}(hl:l.length<=1000000000000):∀(d k:Nat),k+d=l.length->1<=k->(∀j,j<k->kp l j=true)->Go.L.run Bm (l,(k:Int))=TI (col l):=by
 intro d
 induction d with
 | zero=>
  intro k hk a hall;refine A2 (m:=TI (col l)) ?_;unfold Bm Dv;dsimp only;rw[Pb U];unfold col;rw[YX (KN _) (λj hj=>hall j U),EC]
 | succ d ih=>
  intro k hk a hall
  by_cases hp:kp l k=true
  ·have hb:Bm (l,(k:Int))=TI (.inl (l,((k+1:Nat):Int))):=by
    unfold Bm;dsimp only;rw[Xu U,Ab U,Ab U,Ab U,SV,show((k:Int) - 1).toNat=k - 1 by omega,JX,Wo]
    have hx:decide (l.getD k Qq7=[42,42]/\l.getD (k - 1) Qq7=[42,42])=false:=by
     unfold kp at hp;rw[Xf]at hp;rw[decide_eq_false_iff_not]
     rcases hp with hp | hp
     ·omega
     ·exact hp
    rw[hx,Pb Y5];unfold Du;rw[Ab U]
    rfl
   rw[AE hb];refine ih (k+1) U U (λj hj=>?_)
   rcases Nat.lt_succ_iff_lt_or_eq.1 hj with h | rfl
   ·exact hall j h
   ·exact hp
  ·have hp':kp l k=false:=by simpa using hp
   refine A2 (m:=TI (col l)) ?_;unfold Bm;dsimp only;rw[Xu U,Ab U,Ab U,Ab U,SV,show((k:Int) - 1).toNat=k - 1 by omega,JX,Wo]
   have hx:decide (l.getD k Qq7=[42,42]/\l.getD (k - 1) Qq7=[42,42])=true:=by
    unfold kp at hp';rw[decide_eq_false_iff_not]at hp';rw[Xf];exact Decidable.not_not.1 (λhh=>hp' (.inr hh))
   rw[hx,Xu Z,Ab U,An0 hl a U hall hp']
   rfl
def Ai1{l:Sa}(hl:l.length<=1000000000000):CD l=TI (col l):=by
 unfold CD
 have a:∀j,j<1->kp l j=true:=λj hj=>by
  have:j=0:=by omega
  subst this;unfold kp;simp
 by_cases h:(l.length:Int)<2
 ·rw[Xu h];unfold col;rw[YX (KN _) (λj hj=>a j U),EC]
 ·rw[Pb h];exact Amu hl (l.length - 1) 1 U (KN _) a
theorem Wg{a b:Qm}(ha:a.length<900)(hb:b.length<=100000000000):Fz a b=TI (fits (col (sl a)) (sl b)):=by
 unfold Fz;have hla:=E8 a;have hlb:=E8 b;rw[Wf U,Wo];unfold RE;generalize hX:sl a=l at *;have c:kept l 0=[]:=Z;refine BM (λi=>(kept l i,((i:Nat):Int))) l.length (λi hi=>?_) ?_ 0
 ·have hkl:=AcO l i;unfold Jx;simp only[SV];have hc:Go.E.Dx 16 ((kept l i).length+[l.getD i Qq7].length):=by unfold Go.E.Dx;simp;omega
  have d:AL ((i:Int)+1):=by unfold AL;omega
  have hin:0<=(i:Int)/\(i:Int)<(l.length:Int):=by omega
  rw[Xu U,Ab hin];simp only[Ab hc,Ab d,Ab hin]
  cases i with
  | zero=>
   have hkk:kp l 0=true:=by unfold kp;simp
   rw[M0,hkk,Xu Z]
   by_cases hx:l.getD 0 Qq7=[42,42]
   ·rw[Xu hx,Xu (by rw[c];rfl)];rfl
   ·rw[Pb hx];rfl
  | succ m=>
   obtain⟨f,e⟩:=Aao l m;have g:0<(kept l (m+1)).length:=List.length_pos_iff.2 f;rw[M0 l (m+1)];have hnat:(((kept l (m+1)).length:Int) - 1).toNat=(kept l (m+1)).length - 1:=by omega
   by_cases hx:l.getD (m+1) Qq7=[42,42]
   ·rw[Xu hx,Pb U,Ab U,Ab U,hnat]
    by_cases hy:l.getD m Qq7=[42,42]
    ·have hkk:kp l (m+1)=false:=by unfold kp;rw[decide_eq_false_iff_not];simp only[UW];rintro(h | h);omega;exact h ⟨hx,hy⟩
     rw[Xu (e.2 hy),hkk];simp
    ·have hkk:kp l (m+1)=true:=by unfold kp;rw[Xf];exact .inr (λh=>hy h.2)
     rw[Pb (λh=>hy (e.1 h)),hkk]
     rfl
   ·have hkk:kp l (m+1)=true:=by unfold kp;rw[Xf];exact .inr (λh=>hx h.1)
    rw[Pb hx,hkk]
    rfl
 ·unfold Jx Nx;dsimp only;rw[Pb U,Wf U,Wo]
  congr 1
  have:=Afn l;have hf:VQ (kept l l.length) (sl b)=TI (fits (col l) (sl b)):=Ai0 (col l) 1000 (sl b) U U;rw[hf]
  rfl
def Ux{a b:Qm}(ha:a.length<900)(hb:b.length<4294967281):Ef a b=TI (fits (col (sl a)) (sl b)):=by
 unfold Ef;have hla:=E8 a;have hlb:=E8 b;have:=Afn (sl a);rw[YU U,Wo,Ai1 U,Wo,YU U,Wo];have hf:Rj (col (sl a)) (sl b)=TI (fits (col (sl a)) (sl b)):=Afl (col (sl a)) 1000 (sl b) U U;rw[hf]
 rfl
def XE(a:Qm):(pf a).1=0->pf a=(0,0)/\a.length<=64:=by
 unfold pf
 split
 ·intro h;simp at h
 ·split
  ·intro h;simp at h
  ·intro _;exact⟨Z,by omega⟩
end Go.Proofs.YtgaljodghpgdmaaGreatDoor
end
noncomputable section
namespace Go.L
def M1(s:Qm):Qm:=Ly (zz (s.length:Int))++s
def Qs(l:SB):Qm:=Ly (zz (l.length:Int))++l.flatMap λi=>Ly (zz i)
end Go.L
namespace Go.Proofs.YtgaljodghpgdmaaGreatDoor
open Go Go.L
def Mc(e:En):Qm:=[M1 e.1.1,Ly (zz e.1.2.1),Ly (zz e.1.2.2.1),M1 e.1.2.2.2,Qs e.2].flatten
def YY(n:Int)(es:List En):Qm:=Ly (zz n)++(Ly (zz (es.length:Int))++es.flatMap Mc)
def T7(e:En):Prop:=e.1.1.length<=2000000/\AL e.1.2.1/\AL e.1.2.2.1/\e.1.2.2.2.length<=2000000/\(∀z∈e.2,AL z)/\e.2.length<=1000000
theorem M3(l:SB):(l.flatMap λi=>Ly (zz i)).length<=10 * l.length:=by
 induction l with
 | nil=>simp
 | cons a l ih=>rw[Y8,T6,PF];have:=Cy (zz a);omega
def IA{α β:Type}[Inhabited α](f:α->List β){l:List α}{i:Nat}(h:i<l.length):(l.take (i+1)).flatMap f=(l.take i).flatMap f++f (l.getD i Qq7):=by
 rw[Vf,Pa h,Option.toList_some,List.flatMap_append];simp[Sb,Pa h]
def Ak1{l:SB}(h:∀z∈l,AL z)(hl:l.length<=1000000):MN l=TI (Qs l):=by
 unfold MN;rw[GZ U,Wo];unfold Abu;have b:=Cy (zz (l.length:Int));refine BM (λi=>(Ly (zz (l.length:Int))++(l.take i).flatMap (λi=>Ly (zz i)),((i:Nat):Int))) l.length (λi hi=>?_) ?_ 0 |> λhh=>by simpa using hh
 ·unfold I9;dsimp only;have a:=M3 (l.take i);have h2:=Cy (zz (l.getD i Qq7));rw[Y4]at a;rw[Xu U,Ab U,SV,GZ (h _ (BU hi)),Wo,Ab (by unfold Go.E.Dx;simp only[T6];omega),Ab U,IA _ hi,YW]
  rfl
 ·unfold I9 My;dsimp only;rw[Pb U,EC]
  rfl
theorem Ub{α:Type}:∀(L:List (List α)) (i:Nat),(L.take i).flatten.length<=L.flatten.length
 | [],i=>by simp
 | x::L,0=>by simp
 | x::L,i+1=>by have:=Ub L i;simp only[List.take_succ_cons,List.flatten_cons,T6];omega
def Lz{α:Type}{L:List (List α)}{i:Nat}(h:i<L.length):(L.take (i+1)).flatten=(L.take i).flatten++L.getD i Qq7:=by
 rw[Vf,Pa h,Option.toList_some,List.flatten_append];simp[Sb,Pa h]
def Ak2{n:Int}(h:0<=n/\n<=1000000000000):Ga [] n=TI []:=by
 unfold Ga GA;rw[Pb U,Ab U,Ab U]
 split
 ·rw[Ab U]
 ·rfl
def Agn{L:Sa}(hL:L.length<=1000)(ht:L.flatten.length<=1000000000000):EY L=TI L.flatten:=by
 have hx:∀i,i<L.length->(L.take i).flatten.length+(L.getD i Qq7).length<=1000000000000:=λi hi=>by
  have a:=Ub L (i+1);rw[Lz hi,T6]at a;omega
 have b:Eg L (L.flatten.length:Int)=TI L.flatten:=by
  unfold Eg;rw[Ak2 U,Wo];unfold Jg;refine BM (λi=>((L.take i).flatten,((i:Nat):Int))) L.length (λi hi=>?_) ?_ 0
  ·unfold DS;dsimp only;have:=hx i hi;rw[Xu U,Ab U,SV,Ab (by unfold Go.E.Dx;omega),Ab U,Lz hi]
   rfl
  ·unfold DS FN;dsimp only;rw[Pb U,EC]
 unfold EY Jh;refine BM (λi=>(((L.take i).flatten.length:Int),((i:Nat):Int))) L.length (λi hi=>?_) ?_ 0
 ·unfold DT;dsimp only;have:=hx i hi;rw[Xu U,Ab U,SV,Ab U,Pb U,Ab U,Lz hi,T6]
  rfl
 ·unfold DT;dsimp only;rw[Pb U,EC,b]
def Ov{e:En}(h:T7 e):(Mc e).length<=20000000:=by
 obtain⟨a,_,_,b,_,c⟩:=h;unfold Mc M1 Qs;simp only[List.flatten_cons,List.flatten_nil,T6,RZ];have:=M3 e.2;have:=Cy (zz (e.1.1.length:Int));have:=Cy (zz e.1.2.1);have:=Cy (zz e.1.2.2.1);have:=Cy (zz (e.1.2.2.2.length:Int));have:=Cy (zz (e.2.length:Int));omega
def AcP{s:Qm}(h:s.length<=2000000):HG s=TI (M1 s):=by
 unfold HG M1;have:=Cy (zz (s.length:Int));rw[GZ U,Wo,Ab (by unfold Go.E.Dx;omega)]
def Ak3{e:En}(h:T7 e):Nh e=TI (Mc e):=by
 have hl:=Ov h;obtain⟨a,h2,h3,b,c,d⟩:=h;unfold Nh;rw[Ab U,AcP a,Wo,GZ h2,Wo,GZ h3,Wo,Ab U,AcP b,Wo,Ak1 c d,Wo,Agn Rg (by unfold Mc at hl;omega)]
 rfl
theorem L2{α β:Type}(f:α->List β)(B:Nat):∀{l:List α},(∀x∈l,(f x).length<=B)->(l.flatMap f).length<=l.length * B
 | [],_=>by simp
 | x::l,h=>by
  rw[Y8,T6,PF,Sc];have:=h x (.head _);have:=L2 f B λy hy=>h y (.tail _ hy);omega
def Ai2{n:Int}{es:List En}(hn:AL n)(hl:es.length<=1000000)(h:∀e∈es,T7 e):HJ (n,es)=TI (YY n es):=by
 have ht:=L2 Mc 20000000 (l:=es) λx hx=>Ov (h x hx);have b:=Cy (zz (es.length:Int));have c:=Cy (zz n)
 have hw:Pt es=TI (Ly (zz (es.length:Int))++es.flatMap Mc):=by
  unfold Pt;rw[GZ U,Wo];unfold SN;refine BM (λi=>(Ly (zz (es.length:Int))++(es.take i).flatMap Mc,((i:Nat):Int))) es.length (λi hi=>?_) ?_ 0 |> λhh=>by simpa using hh
  ·unfold Ku;dsimp only;have a:=L2 Mc 20000000 (l:=es.take i) λx hx=>Ov (h x (List.mem_of_mem_take hx));rw[Y4]at a;have d:=Ov (h _ (BU hi));have f:min i es.length * 20000000<=1000000 * 20000000:=Wp _ U;rw[Xu U,Ab U,SV]
   show(Nh (es.getD i Qq7)).bind _=_
   rw[Ak3 (h _ (BU hi)),Wo,Ab (by unfold Go.E.Dx;simp only[T6];omega),Ab U,IA _ hi,YW]
   rfl
  ·unfold Ku ON;dsimp only;rw[Pb U,EC]
 unfold HJ;dsimp only;have g:es.length * 20000000<=1000000 * 20000000:=Wp _ hl;rw[GZ hn,Wo,hw,Wo,Ab (by unfold Go.E.Dx;simp only[T6];omega)]
 rfl
structure Acx (n:Int) (e:En):Prop where
 path:e.1.1.length<=330/\¬0<=wr false 0 (sl e.1.1)
 kind:1<=e.1.2.1/\e.1.2.1<=4
 num:e.1.2.2.1=0\/e.1.2.1=1
 text:e.1.2.2.2=[]\/e.1.2.1=2
 ne:e.2≠[]
 items:∀z∈e.2,0<=z/\z<n
 inc:e.2.Pairwise (λa b=>a<b)
end Go.Proofs.YtgaljodghpgdmaaGreatDoor
end
noncomputable section
namespace Go.L
def Vg{α:Type}(le:α->α->Bool)(a:α):List α->List α
 | []=>[a]
 | b::l=>if le a b then a::b::l else b::Vg le a l
def isB{α:Type}(le:α->α->Bool):List α->List α
 | []=>[]
 | a::l=>Vg le a (isB le l)
section
variable {α:Type}{le:α->α->Bool}
theorem Wh(a:α):∀l:List α,(Vg le a l).Perm (a::l)
 | []=>.refl _
 | b::l=>by
  unfold Vg
  split
  ·exact .refl _
  ·exact((Wh a l).cons b).trans (.swap a b l)
theorem AcQ:∀l:List α,(isB le l).Perm l
 | []=>.refl _
 | a::l=>(Wh a _).trans ((AcQ l).cons a)
theorem WI(htr:∀a b c,le a b=true->le b c=true->le a c=true)(hto:∀a b,le a b=true\/le b a=true)(a:α):∀l:List α,l.Pairwise (λx y=>le x y=true)->(Vg le a l).Pairwise λx y=>le x y=true
 | [],_=>OO _ _
 | b::l,h=>by
  unfold Vg
  split
  ·rename_i d;refine .cons (λx hx=>?_) h
   rcases R7.1 hx with rfl | hx
   ·exact d
   ·exact htr _ _ _ d ((QU.1 h).1 x hx)
  ·rename_i d;have h2:le b a=true:=by rcases hto a b with h | h;exact absurd h d;exact h
   refine .cons (λx hx=>?_) (WI htr hto a l (QU.1 h).2)
   rcases R7.1 ((Wh a l).mem_iff.1 hx)with rfl | hx
   ·exact h2
   ·exact(QU.1 h).1 x hx
theorem Rm(htr:∀a b c,le a b=true->le b c=true->le a c=true)(hto:∀a b,le a b=true\/le b a=true):∀l:List α,(isB le l).Pairwise λx y=>le x y=true
 | []=>.nil
 | a::l=>WI htr hto a _ (Rm htr hto l)
theorem Wi(has:∀a b,le a b=true->le b a=true->a=b):∀{l m:List α},l.Perm m->l.Pairwise (λx y=>le x y=true)->m.Pairwise (λx y=>le x y=true)->l=m
 | [],m,hp,_,_=>hp.nil_eq
 | a::l,m,hp,hl,hm=>by
  cases m with
  | nil=>exact absurd hp.symm.nil_eq Rg
  | cons b m=>
   obtain⟨d,e⟩:=QU.1 hl;obtain⟨f,g⟩:=QU.1 hm
   have hab:a=b:=by
    rcases R7.1 (hp.mem_iff.1 (.head _))with c | c
    ·exact c
    ·rcases R7.1 (hp.mem_iff.2 (.head _))with h2 | h2
     ·exact h2.symm
     ·exact has a b (d b h2) (f a c)
   subst hab;rw[Wi has hp.cons_inv e g]
def Amv(htr:∀a b c,le a b=true->le b c=true->le a c=true)(hto:∀a b,le a b=true\/le b a=true)(has:∀a b,le a b=true->le b a=true->a=b)(l:List α):isB le l=l.mergeSort le:=
 Wi has ((AcQ l).trans (Uv l _).symm) (Rm htr hto l) (XO htr (λa b=>by simpa using hto a b) l)
end
def isL(l:List Lf):List Lf:=isB (λx y=>!(Go.Proofs.ltOf D4) y x) l
def L8(l:List Lf):isL l=IK l:=by
 rw[Pm];have hlt:∀a b,(!(Go.Proofs.ltOf D4) b a)=true↔¬D4 b a<0:=λa b=>by simp[Go.Proofs.ltOf]
 refine Amv (λa b c e h2=>?_) (λa b=>?_) (λa b e h2=>?_) l
 ·rw[hlt]at *;intro h3;have s1:=Ia.swap a b
  rcases VR (D4 a b) 0 with d | d | d
  ·exact h2 (Ia.trans c a b h3 d)
  ·rw[Ia.zero a b d]at h3;exact h2 h3
  ·omega
 ·rw[hlt,hlt];have s1:=Ia.swap a b;omega
 ·exact Ia.parts a b (by simpa using h2) (by simpa using e)
section
variable {α:Type}{le:α->α->Prop}
theorem Ae6(has:∀a b,le a b->le b a->a=b):∀{l m:List α},l.Pairwise (λa b=>le a b/\a≠b)->m.Pairwise (λa b=>le a b/\a≠b)->(∀x,x∈l↔x∈m)->l=m
 | [],m,_,_,h=>by
  cases m with
  | nil=>rfl
  | cons b m=>exact absurd ((h b).2 (.head _)) Rg
 | a::l,[],_,_,h=>absurd ((h a).1 (.head _)) Rg
 | a::l,b::m,hl,hm,h=>by
  obtain⟨d,f⟩:=QU.1 hl;obtain⟨e,g⟩:=QU.1 hm
  have hab:a=b:=by
   rcases R7.1 ((h a).1 (.head _))with c | c
   ·exact c
   ·rcases R7.1 ((h b).2 (.head _))with h2 | h2
    ·exact h2.symm
    ·exact has a b (d b h2).1 (e a c).1
  subst hab
  have:l=m:=Ae6 has f g λx=>by
   constructor
   ·intro hx
    rcases R7.1 ((h x).1 (.tail _ hx))with c | c
    ·exact absurd c.symm (d x hx).2
    ·exact c
   ·intro hx
    rcases R7.1 ((h x).2 (.tail _ hx))with c | c
    ·exact absurd c.symm (e x hx).2
    ·exact c
  rw[this]
theorem Qt[Inhabited α][DecidableEq α](hre:∀a,le a a)(htr:∀a b c,le a b->le b c->le a c)(has:∀a b,le a b->le b a->a=b)(d:Array α)(hs:∀i j,i<j->j<d.size->le d[i]! d[j]!):∀m,m<=d.size->
  (Lib.compactUpTo d m).Pairwise (λa b=>le a b/\a≠b)/\(∀x,x∈Lib.compactUpTo d m↔∃j,j<m/\x=d[j]!)
 | 0,_=>⟨by simp[Lib.compactUpTo],λx=>by simp[Lib.compactUpTo]⟩
 | m+1,hm=>by
  obtain⟨f,h2⟩:=Qt hre htr has d hs m U;rw[Lib.compactUpTo_succ]
  by_cases hk:Lib.keeps d m=true
  ·rw[Xu hk];refine⟨List.pairwise_append.2 ⟨f,OO _ _,λa ha b hb=>?_⟩,λx=>?_⟩
   ·rw[TG]at hb;subst hb;obtain⟨j,hj,rfl⟩:=(h2 a).1 ha;refine⟨hs j m hj U,λe=>?_⟩;unfold Lib.keeps at hk;rw[Xf]at hk
    rcases hk with hk | hk
    ·omega
    ·refine hk (has _ _ ?_ ?_)
     ·by_cases hjm:j=m - 1
      ·rw[<- e,hjm];exact hre _
      ·rw[<- e];exact hs j (m - 1) U U
     ·exact hs (m - 1) m U U
   ·rw[MY,h2,TG]
    constructor
    ·rintro(⟨j,hj,rfl⟩ | rfl)
     ·exact⟨j,by omega,Z⟩
     ·exact⟨m,by omega,Z⟩
    ·rintro⟨j,hj,rfl⟩
     by_cases hjm:j=m
     ·subst hjm;exact .inr Z
     ·exact .inl ⟨j,by omega,Z⟩
  ·have hk' : ¬(m=0\/d[m]!≠d[m - 1]!):=by
    unfold Lib.keeps at hk
    simpa using hk
   rw[Pb hk,R0];refine⟨f,λx=>(h2 x).trans ?_⟩
   constructor
   ·rintro⟨j,hj,rfl⟩;exact⟨j,by omega,Z⟩
   ·rintro⟨j,hj,rfl⟩
    by_cases hjm:j=m
    ·subst hjm;have e:d[j]! = d[j - 1]!:=Decidable.not_not.1 λh=>hk' (.inr h);have g:j≠0:=λh=>hk' (.inl h);exact⟨j - 1,by omega,e⟩
    ·exact⟨j,by omega,Z⟩
def Abw[Inhabited α][DecidableEq α](hre:∀a,le a a)(htr:∀a b c,le a b->le b c->le a c)(has:∀a b,le a b->le b a->a=b){l:List α}(hs:l.Pairwise le):(Lib.compact l).Pairwise (λa b=>le a b/\a≠b)/\∀x,x∈Lib.compact l↔x∈l:=by
 have hget:∀i,i<l.length->l.toArray[i]! = l.getD i Qq7:=λi hi=>by simp[hi]
 have:=Qt hre htr has l.toArray (λi j hij hj=>by
  have hj':j<l.length:=by simpa using hj
  have hi':i<l.length:=by omega
  have:=List.pairwise_iff_getElem.1 hs i j hi' hj' hij
  simpa[hi',hj']using this) l.length Rg
 refine⟨this.1,λx=>(this.2 x).trans ?_⟩
 constructor
 ·rintro⟨j,hj,rfl⟩;simp[hj]
 ·intro hx;obtain⟨j,hj,rfl⟩:=List.getElem_of_mem hx;exact⟨j,hj,by simp[hj]⟩
end
def Wj(l:SB):(Go.E.Ms l).Perm l:=by rw[Go.E.UM];exact Uv l _
def AcR(l:SB):(Go.E.Ms l).Pairwise (λx y=>x<=y):=by
 rw[Go.E.UM];have:=XO (le:=λx y:Int=>decide (x<=y)) (λa b c d h2=>by simp only[Xf]at *;omega) (λa b=>by simpa using Int.le_total a b) l;exact this.imp λh=>by simpa using h
def L3(l:SB):SB:=Lib.compact (Go.E.Ms l)
def J4(l:SB):(L3 l).Pairwise (λa b=>a<=b/\a≠b)/\∀x,x∈L3 l↔x∈l:=by
 have:=Abw (le:=λa b:Int=>a<=b) Int.le_refl (λ_ _ _=>Int.le_trans) (λ_ _=>Int.le_antisymm) (AcR l);exact⟨this.1,λx=>(this.2 x).trans (Wj l).mem_iff⟩
def Ak4{l m:SB}(hm:m.Pairwise (λa b=>a<=b/\a≠b))(h:∀x,x∈m↔x∈l):L3 l=m:=
 Ae6 (λ_ _=>Int.le_antisymm) (J4 l).1 hm λx=>((J4 l).2 x).trans (h x).symm
section
variable {κ β:Type} [DecidableEq κ]
theorem Wk(d:β)(k k':κ)(y:β):∀M:List (κ×β),Bp d k' (Ea k y M)=if k'=k then y else Bp d k' M
 | []=>by simp only[Ea,Bp]
 | (a,z)::M=>by
  unfold Ea
  by_cases h:k=a
  ·subst h;rw[Xu Z];unfold Bp
   by_cases h2:k'=k
   ·rw[Xu h2,Xu h2]
   ·rw[Pb h2,Pb h2];rw[Pb h2]
  ·rw[Pb h];unfold Bp;rw[Wk d k k' y M]
   by_cases h2:k'=a
   ·rw[Xu h2,Pb (λe=>h (e.symm.trans h2)),Xu h2]
   ·rw[Pb h2,Pb h2]
theorem Vo{k:κ}(y:β):∀{M:List (κ×β)},k∈M.map TJ->(Ea k y M).map TJ=M.map TJ
 | [],h=>by cases h
 | (a,z)::M,h=>by
  unfold Ea
  by_cases hk:k=a
  ·subst hk;rw[Xu Z];rfl
  ·rw[Pb hk];simp only[Yu,R7]at h ⊢;rw[Vo y (h.resolve_left hk)]
theorem Vp{k:κ}(y:β):∀{M:List (κ×β)},k∉M.map TJ->Ea k y M=M++[(k,y)]
 | [],_=>rfl
 | (a,z)::M,h=>by
  unfold Ea;simp only[Yu,R7,not_or]at h;rw[Pb h.1,Vp y h.2]
  rfl
end
def Rn(k:Lf)(i:Int)(M:List (Lf×SB)):List (Lf×SB):=Ea k (Bp [] k M++[i]) M
end Go.L
namespace Go.Proofs.YtgaljodghpgdmaaGreatDoor
open Go Go.L
structure GI (n:Int) (es:List En):Prop where
 n0:0<=n
 n64:n<=64
 ev:∀e∈es,Acx n e
 sz:∀e∈es,T7 e
 len:es.length<=1000000
 inc:es.Pairwise (λa b=>D4 a.1 b.1<0)
def N2(M:List (Lf×SB)):List En:=(IK (M.map TJ)).map λk=>(k,L3 (Bp [] k M))
def MS(M:List (Lf×SB)):Prop:=M.length<=1000000/\∀k∈M.map TJ,k.1.length<=2000000/\AL k.2.1/\AL k.2.2.1/\k.2.2.2.length<=2000000/\(Bp [] k M).length<=1000000/\∀z∈Bp [] k M,AL z
def M4(l:List Lf):(IK l).Perm l:=by rw[Pm];exact Uv l _
def AcS(l:SB):(L3 l).length<=l.length:=RU (Go.E.Y0 _) (Nat.le_of_eq (Wj l).length_eq)
def AdT{M:List (Lf×SB)}(h:MS M):∀e∈N2 M,T7 e:=by
 intro e he;obtain⟨k,hk,rfl⟩:=Rr.1 he;obtain⟨a,h2,h3,b,c,d⟩:=h.2 k ((M4 _).mem_iff.1 hk);exact⟨a,h2,h3,b,λz hz=>d z (((J4 _).2 z).1 hz),RU (AcS _) c⟩
def AcT(M:List (Lf×SB)):(N2 M).length=M.length:=by unfold N2;rw[Vx,Pn,Vx]
def ZG(n:Int)(M:List (Lf×SB)):(Int×List En)×Zv:=if 16384<(YY n (N2 M)).length then((0,[]),(14,-1))else((n,N2 M),(0,0))
def Ai3{n:Int}{M:List (Lf×SB)}(hn:AL n)(h:MS M):HK n M=TI (ZG n M):=by
 unfold HK Abs;have hM:=h.1;rw[Ab (by unfold Go.E.Dx;omega),Wo];unfold RJ
 have a:Kv n (N2 M)=TI (ZG n M):=by
  unfold Kv Dz ZG;rw[Ai2 hn (by rw[AcT];exact hM) (AdT h),Wo]
  by_cases hc:16384<(YY n (N2 M)).length
  ·rw[Xu U,Xu hc];rfl
  ·rw[Pb U,Pb hc]
 have hkl:(IK (M.map TJ)).length=M.length:=by rw[Pn,Vx]
 refine BM (λi=>(((IK (M.map TJ)).take i).map (λk=>(k,L3 (Bp [] k M))),((i:Nat):Int))) (IK (M.map TJ)).length (λi hi=>?_) ?_ 0
 ·obtain⟨c,h2,h3,d,e,f⟩:=h.2 _ ((M4 _).mem_iff.1 (BU hi))
  have ht:((IK (M.map TJ)).take (i+1)).map (λk=>(k,L3 (Bp [] k M)))=((IK (M.map TJ)).take i).map (λk=>(k,L3 (Bp [] k M)))++[((IK (M.map TJ)).getD i Qq7,L3 (Bp [] ((IK (M.map TJ)).getD i Qq7) M))]:=by
   rw[Vf,Pa hi,Option.toList_some,K4];simp[Sb,Pa hi]
  rw[ht];unfold J3 IQ;dsimp only;rw[Xu U,Ab U,SV];generalize (IK (M.map TJ)).getD i Qq7=k at *;have b:((k.1,k.2.1,k.2.2.1,k.2.2.2):Lf)=k:=Z;simp only[b];rw[Ab (by unfold Go.E.Dx;simp only[RZ];show(0+(Bp [] k M).length) * 8<=_/\_;omega),Wo]
  show Go.L.Ay (([]++Bp [] k M).length<_) _=_
  rw[Qx,Ab U,Ab (by rw[(Wj _).length_eq];omega),Ab (by unfold Go.E.Dx;simp only[Vx,Y4,PF,RZ];omega),Ab U]
  rfl
 ·unfold J3;dsimp only;rw[Pb U,EC];exact congrArg (Sh Sum.inr) a
def Bd(N:Nat)(M:List (Lf×SB)):Prop:=∀k,(Bp [] k M).length<=N
end Go.Proofs.YtgaljodghpgdmaaGreatDoor
end
noncomputable section
namespace Go.L
def jn:Sa->Qm
 | []=>[]
 | x::l=>if l=[]then x else x++47::jn l
theorem Afo:∀(l:Sa) (x:Qm),jn (l++[x])=if l=[]then x else jn l++47::x
 | [],x=>by simp[jn]
 | y::l,x=>by
  have ih:=Afo l x;simp only[VT,jn,List.append_eq_nil_iff,List.cons_ne_nil,and_false,if_false,reduceCtorEq];rw[ih]
  by_cases h:l=[]
  ·subst h;simp
  ·simp[h]
theorem Uy:∀{l:Sa},l≠[]->(jn l).length+1=WH l
 | x::l,_=>by
  unfold jn WH
  by_cases h:l=[]
  ·subst h;simp[WH]
  ·have:=Uy h;rw[Pb h,T6,PF];omega
theorem Aap:∀(x cur s:Qm),47∉x->Ua cur (x++47::s)=(cur++x)::Ua [] s
 | [],cur,s,_=>by simp[Ua]
 | c::x,cur,s,h=>by
  have hc:c≠47:=λe=>h (by rw[e];exact .head _);simp only[VT,Ua,Pb hc];rw[Aap x (cur++[c]) s (λhh=>h (.tail _ hh))];simp
theorem AcU:∀(x cur:Qm),47∉x->Ua cur x=[cur++x]
 | [],cur,_=>by simp[Ua]
 | c::x,cur,h=>by
  have hc:c≠47:=λe=>h (by rw[e];exact .head _);simp only[Ua,Pb hc];rw[AcU x (cur++[c]) (λhh=>h (.tail _ hh))];simp
theorem Ai4:∀{l:Sa},l≠[]->(∀x∈l,47∉x)->Ua [] (jn l)=l
 | x::l,_,h=>by
  unfold jn
  by_cases hl:l=[]
  ·subst hl;rw[Xu Z,AcU x [] (h x (.head _))];simp
  ·rw[Pb hl,Aap x [] _ (h x (.head _)),Ai4 hl (λy hy=>h y (.tail _ hy))];simp
theorem An2{l:Sa}(hne:∀x∈l,x≠[])(h:∀x∈l,47∉x):sl (jn l)=l:=by
 unfold sl
 cases l with
 | nil=>simp[jn]
 | cons x l=>
  have:jn (x::l)≠[]:=by
   unfold jn;have:=hne x (.head _)
   split
   ·exact this
   ·simp
  rw[Pb this,Ai4 Rg h]
def stp(x:Qm):Bool:=Vm x||decide (x=[35])
def AdU{x:Qm}(h:stp x=true):x≠[]/\47∉x/\x≠[42]/\x≠[42,42]:=by
 unfold stp at h;rw[U2,Xf]at h
 rcases h with h | rfl
 ·unfold Vm at h;rw[ZA,Xf]at h;obtain⟨a,h2⟩:=h;have hall:=List.all_eq_true.1 h2;refine⟨λe=>by subst e;simp at a,λhh=>?_,λe=>by subst e;simp at a,λe=>by subst e;simp at a⟩;have:=hall 47 hh
  revert this;decide
 ·decide
theorem An3{w:Bool}{l:Sa}:∀{a:Int},(∀x∈l,(stp x||(w&&(decide (x=[42])||decide (x=[42,42]))))=true)->wr w a l = -1:=by
 induction l with
 | nil=>intro a _;rfl
 | cons y l ih=>
  intro a h;unfold wr;have:=h y (.head _);unfold stp at this;rw[Xu this];exact ih (λx hx=>h x (.tail _ hx))
def Ai5{α:Type}[Inhabited α](f:α->Nat){l:List α}{i:Nat}(h:i<l.length):((l.drop i).map f).sum=f (l.getD i Qq7)+((l.drop (i+1)).map f).sum:=by rw[drop_cons h];simp
end Go.L
namespace Go.Proofs.YtgaljodghpgdmaaGreatDoor
open Go Go.L
theorem AcV{d:Nat}{v:Pv}{a2:Int}{self:Pv->Int->Int->Option (Int×Zv)}(hlen:v.f.2.2.2.2.length<=1000)(ha:AL (a2+1))
  (hs:∀p∈v.f.2.2.2.2,∀m:Int,0<=m->∃r,self p m (a2+1)=TI r/\((r.2=(0,0)/\Vd d p/\r.1=m+(nodes d p:Nat)/\r.1<=600)\/r.2.1≠0)) :
  ∀(k i:Nat) (m:Int),i+k=v.f.2.2.2.2.length->0<=m->m<=600->∃r,Go.L.run (CN v a2 self) (m,(i:Int))=TI r/\((r.2=(0,0)/\(∀p∈v.f.2.2.2.2.drop i,Vd d p)/\r.1=m+(((v.f.2.2.2.2.drop i).map (nodes d)).sum:Nat)/\r.1<=600)\/r.2.1≠0)
 | 0,i,m,hi,a,b=>by
  refine⟨(m,0,0),A2 (m:=TI (m,0,0)) ?_,.inl ⟨Z,?_⟩⟩
  ·unfold CN JH;dsimp only;rw[Pb U]
  ·rw[UU U];exact⟨by simp,by simp,b⟩
 | k+1,i,m,hi,a,b=>by
  have hil:i<v.f.2.2.2.2.length:=by omega
  obtain⟨r,c,h2⟩:=hs _ (BU hil) m a
  rcases h2 with ⟨hr,e,g,h⟩ | hr
  ·have hb:CN v a2 self (m,(i:Int))=TI (.inl (r.1,((i+1:Nat):Int))):=by
    unfold CN;dsimp only;rw[Xu U,Ab U,Ab ha,SV,c,Wo,Xu (by rw[hr];exact⟨Z,Z⟩),Ab U]
    rfl
   obtain⟨q,j,l⟩:=AcV hlen ha hs k (i+1) r.1 U U h;refine⟨q,by rw[AE hb,j],?_⟩
   rcases l with ⟨hq,n,o,s⟩ | hq
   rotate_left
   ·exact .inr hq
   rw[drop_cons hil];refine .inl ⟨hq,λp hp=>?_,?_,s⟩
   ·rcases R7.1 hp with rfl | hp
    ·exact e
    ·exact n p hp
   ·rw[Yu,Th,o,g];omega
  ·refine⟨(0,r.2.1,r.2.2),A2 (m:=TI (0,r.2.1,r.2.2)) ?_,.inr hr⟩;unfold CN;dsimp only;rw[Xu U,Ab U,Ab ha,SV,c,Wo,Pb (λhh=>hr hh.1)]
theorem Ai6{B:Nat}(hB:B<=100000000000):∀(d n:Nat) (v:Pv) (m:Int),d<n->Sm B d v->d<=10->0<=m->∃r,F2 n v m (11 - (d:Int))=TI r/\((r.2=(0,0)/\Vd d v/\r.1=m+(nodes d v:Nat)/\r.1<=600)\/r.2.1≠0)
 | _,0,_,_,h,_,_,_=>absurd h U
 | 0,n+1,v,m,_,_,_,_=>by
  refine⟨(0,2,m),?_,.inr Rg⟩
  show F7 (F2 n) v m _=_
  unfold F7;rw[Xu (by right;omega)]
  rfl
 | d+1,n+1,v,m,hn,hs,hd,hm=>by
  obtain⟨s1,l,o,s,t,u,e⟩:=hs
  show ∃r,F7 (F2 n) v m _=TI r/\_
  unfold F7
  by_cases g:(600:Int)<=m
  ·rw[Xu (.inl g)];exact⟨(0,2,m),Z,.inr Rg⟩
  ·rw[Pb U];obtain⟨c,h2,h3⟩:=Abr v U;rw[h2,Wo]
   by_cases hc:c=0
   ·rw[Xu hc,Ab U];have hok:=h3 hc
    obtain⟨r,i,j⟩:=AcV (d:=d) (v:=v) (a2:=11 - ((d+1:Nat):Int)) (self:=F2 n) (by have:=hok.many;omega) U
     (λp hp q hq=>by
      have:=Ai6 hB d n p q U (e p hp) U hq
      rwa [show(11:Int) - ((d+1:Nat):Int)+1=11 - (d:Int) by omega]) v.f.2.2.2.2.length 0 (m+1) U U U
    refine⟨r,i,?_⟩
    rcases j with ⟨hr,a,b,k⟩ | hr
    rotate_left
    ·exact .inr hr
    rw[YA]at a b;refine .inl ⟨hr,⟨hok,a⟩,?_,k⟩;rw[b];unfold nodes;omega
   ·rw[Pb hc];exact⟨(0,c,m),Z,.inr hc⟩
def AcW{B:Nat}(hB:B<=100000000000){b:Qm}(h:b.length<=B):HG b=TI (Ly (zz (b.length:Int))++b):=by
 unfold HG;have:=Cy (zz (b.length:Int));rw[GZ U,Wo,Ab (by unfold Go.E.Dx;omega)]
theorem YZ{B d:Nat}(hB:B<=100000000000){v:Pv}{self:Pv->Option Qm}(hlen:v.f.2.2.2.2.length<=600)(hsame:v.f.1=4->v.f.2.2.2.1.length=v.f.2.2.2.2.length)(hnm:∀x∈v.f.2.2.2.1,x.length<=32)
  (hnod:((v.f.2.2.2.2).map (nodes d)).sum<=600)
  (hs:∀p∈v.f.2.2.2.2,∃b,self p=TI b/\b.length+42<=nodes d p * (B+100)) :
  ∀(k i:Nat) (L:Qm) (C:Nat),i+k=v.f.2.2.2.2.length->C<=700->L.length+42+(((v.f.2.2.2.2.drop i).map (nodes d)).sum) * (B+100)<=C * (B+100)->∃b,Go.L.run (Cn v self) (L,(i:Int))=TI b/\b.length+42<=C * (B+100)
 | 0,i,L,C,hi,hC,hL=>by
  refine⟨L,A2 (m:=TI L) ?_,by omega⟩;unfold Cn Jd;dsimp only;rw[Pb U]
 | k+1,i,L,C,hi,hC,hL=>by
  have hil:i<v.f.2.2.2.2.length:=by omega
  obtain⟨b,h,h2⟩:=hs _ (BU hil);rw[Ai5 _ hil,Sc]at hL;have hCB:C * (B+100)<=700 * (100000000000+100):=Nat.mul_le_mul hC U
  have a:∀M:Qm,M.length+b.length+42+((v.f.2.2.2.2.drop (i+1)).map (nodes d)).sum * (B+100)<=C * (B+100)->EN v (i:Int) self M=TI (.inl (M++b,((i+1:Nat):Int))):=by
   intro M hM;unfold EN;rw[SV,h,Wo,Ab (by unfold Go.E.Dx;omega),Ab U]
   rfl
  by_cases c:v.f.1=4
  ·have hin:i<v.f.2.2.2.1.length:=by rw[hsame c];exact hil
   have hx:=hnm _ (BU hin);have hv:=Cy (zz ((v.f.2.2.2.1.getD i Qq7).length:Int))
   have hb:Cn v self (L,(i:Int))=TI (.inl ((L++(Ly (zz ((v.f.2.2.2.1.getD i Qq7).length:Int))++v.f.2.2.2.1.getD i Qq7))++b,((i+1:Nat):Int))):=by
    unfold Cn;dsimp only;rw[Xu U,Ab U,Xu c,Ab U,SV,Ab U,AcW (B:=32) Y5 hx,Wo,Ab (by unfold Go.E.Dx;simp only[T6];omega)];exact a _ (by simp only[T6];omega)
   obtain⟨q,e,g⟩:=YZ hB hlen hsame hnm hnod hs k (i+1) _ C U hC (show((L++(Ly (zz ((v.f.2.2.2.1.getD i Qq7).length:Int))++v.f.2.2.2.1.getD i Qq7))++b).length+42+_<=_ by simp only[T6];omega);exact⟨q,by rw[AE hb,e],g⟩
  ·have hb:Cn v self (L,(i:Int))=TI (.inl (L++b,((i+1:Nat):Int))):=by
    unfold Cn;dsimp only;rw[Xu U,Ab U,Pb c];exact a _ U
   obtain⟨q,e,g⟩:=YZ hB hlen hsame hnm hnod hs k (i+1) _ C U hC (show(L++b).length+42+_<=_ by simp only[T6];omega);exact⟨q,by rw[AE hb,e],g⟩
def Ak5{x:Qm}(h:Vm x=true):x.length<=32:=by
 unfold Vm at h;rw[ZA,Xf]at h;omega
theorem Aaq{d:Nat}{l:List Pv}{p:Pv}(h:p∈l):nodes d p<=(l.map (nodes d)).sum:=by
 induction l with
 | nil=>cases h
 | cons a l ih=>
  rw[Yu,Th]
  rcases R7.1 h with rfl | h
  ·omega
  ·have:=ih h;omega
theorem Ai7{B:Nat}(hB:B<=100000000000):∀(d n:Nat) (v:Pv),d<=n->Sm B d v->Vd d v->nodes d v<=600->∃b,FM n v=TI b/\b.length+42<=nodes d v * (B+100)
 | 0,_,_,_,_,h,_=>h.elim
 | d+1,0,_,h,_,_,_=>absurd h U
 | d+1,n+1,v,hn,hs,hv,hnod=>by
  obtain⟨s1,k,l,m,e,g,i⟩:=hs;obtain⟨hok,hvp⟩:=hv;unfold nodes at hnod
  show ∃b,I8 (FM n) v=TI b/\_
  unfold I8;have o:=Cy (zz v.f.1);have q:=Cy (zz v.f.2.1);have r:=Cy (zz (v.f.2.2.1.length:Int));have s:=Cy (zz (v.f.2.2.2.2.length:Int));have hN:1 * (B+100)<=nodes (d+1) v * (B+100):=Wp _ (by unfold nodes;omega);rw[GZ e,Wo]
  by_cases a:v.f.1=1
  ·rw[Xu a,GZ g,Wo,Ab (by unfold Go.E.Dx;omega)];exact⟨_,Z,by simp only[T6];omega⟩
  ·rw[Pb a]
   by_cases c:v.f.1=2
   ·rw[Xu c,AcW hB s1,Wo,Ab (by unfold Go.E.Dx;simp only[T6];omega)];exact⟨_,Z,by simp only[T6];omega⟩
   ·have hmany:=hok.many;rw[Pb c,GZ U,Wo,Ab (by unfold Go.E.Dx;omega)]
    obtain⟨b,j,h2⟩:=YZ (d:=d) hB (v:=v) (self:=FM n) hok.many hok.same (λx hx=>Ak5 (hok.Vm x hx)) U
     (λp hp=>Ai7 hB d n p U (i p hp) (hvp p hp) (by have:=Aaq (d:=d) hp;omega)) v.f.2.2.2.2.length 0 (Ly (zz v.f.1)++Ly (zz (v.f.2.2.2.2.length:Int))) ((v.f.2.2.2.2.map (nodes d)).sum+1) U U
     (by rw[YA,Sc];simp only[T6];omega)
    refine⟨b,j,?_⟩;unfold nodes
    rwa [Nat.add_comm 1]
def WK{B:Nat}(hB:B<=100000000000){v:Pv}(hs:Sm B 10 v):∃f,CO v=TI f/\((f=(0,0)/\Vd 10 v/\nodes 10 v<=600)\/f.1≠0):=by
 obtain⟨r,d,h2⟩:=Ai6 hB 10 1000 v 0 U hs U (Int.le_refl _);have h1':SG v 0 1=TI r:=d;unfold CO Rl;rw[h1',Wo]
 rcases h2 with ⟨hr,a,e,g⟩ | hr
 ·rw[Xu (by rw[hr];exact⟨Z,Z⟩)];obtain⟨b,h3,i⟩:=Ai7 hB 10 1000 v U hs a U;have h3':Rk v=TI b:=h3;rw[h3',Wo]
  by_cases c:(4000:Int)<(b.length:Int)
  ·rw[Xu c];exact⟨(14,-1),Z,.inr Rg⟩
  ·rw[Pb c];exact⟨(0,0),Z,.inl ⟨Z,a,by omega⟩⟩
 ·rw[Pb (λh=>hr h.1)];exact⟨r.2,Z,.inr hr⟩
end Go.Proofs.YtgaljodghpgdmaaGreatDoor
end
noncomputable section
namespace Go.L
def SP{σ α:Type}(step:σ->α->Option σ):σ->List α->Option σ
 | s,[]=>TI s
 | s,x::l=>(step s x).bind λs'=>SP step s' l
theorem Vr{σ α:Type}{step:σ->α->Option σ}:∀(l m:List α) (s:σ),SP step s (l++m)=(SP step s l).bind λs'=>SP step s' m
 | [],_,_=>rfl
 | x::l,m,s=>by
  simp only[VT,SP]
  cases step s x with
  | none=>rfl
  | some s'=>exact Vr l m s'
def WL(v:Pv)(i:Nat):Qm:=if v.f.1=4 then v.f.2.2.2.1.getD i Qq7 else[35]
def NJ:Nat->Pv->Sa->List Lf
 | 0,_,_=>[]
 | d+1,v,p=>(jn p,v.f.1,v.f.2.1,v.f.2.2.1)::(Zy 0 v.f.2.2.2.2.length).flatMap λi=>NJ d (v.f.2.2.2.2.getD i Qq7) (p++[WL v i])
def Ai8{α:Type}[Inhabited α](l:List α):(Zy 0 l.length).map (λi=>l.getD i Qq7)=l:=by
 rw[<- List.range_eq_range'];apply List.ext_getElem
 ·simp
 ·intro i a h2;simp[Sb,h2]
theorem Oh:∀(d:Nat) (v:Pv) (p:Sa),(NJ d v p).length=nodes d v
 | 0,_,_=>rfl
 | d+1,v,p=>by
  unfold NJ nodes;rw[PF,List.length_flatMap,Nat.add_comm]
  congr 2
  conv=>rhs;rw[<- Ai8 v.f.2.2.2.2]
  rw[List.map_map];apply List.map_congr_left;intro i _;exact Oh d _ _
theorem Ak6:∀p:Sa,Lib.join p [47]=jn p
 | []=>rfl
 | x::l=>by
  have key:∀(l:Sa) (x:Qm),jn (x::l)=x++Lib.joinTail [47] l:=by
   intro l
   induction l with
   | nil=>intro x;simp[jn,Lib.joinTail]
   | cons y l ih=>
    intro x;unfold jn;rw[Pb Rg,ih y];simp[Lib.joinTail]
  rw[Lib.join_cons,key]
def Wd(p:Sa):Prop:=∀x∈p,stp x=true
def Afq{x:Qm}(h:stp x=true):x.length<=32:=by
 unfold stp at h;rw[U2,Xf]at h
 rcases h with h | rfl
 ·unfold Vm at h;rw[ZA,Xf]at h;omega
 ·decide
theorem Wd.WH{p:Sa}(h:Wd p):WH p<=33 * p.length:=by
 induction p with
 | nil=>simp[Go.L.WH]
 | cons x p ih=>
  have:=Afq (h x (.head _));have:=ih λy hy=>h y (.tail _ hy);unfold Go.L.WH;simp only[PF];omega
def Wd.Uy{p:Sa}(h:Wd p):(jn p).length<=33 * p.length:=by
 by_cases a:p=[]
 ·subst a;simp[jn]
 ·have:=Go.L.Uy a;have:=h.WH;omega
def Wd.snoc{p:Sa}(h:Wd p){x:Qm}(hx:stp x=true):Wd (p++[x]):=λy hy=>by
 rcases MY.1 hy with hy | hy
 ·exact h y hy
 ·rw[TG]at hy;subst hy;exact hx
def S5{v:Pv}(h:Uw v){i:Nat}(hi:i<v.f.2.2.2.2.length):stp (WL v i)=true:=by
 unfold WL
 by_cases a:v.f.1=4
 ·rw[Xu a];have:=h.Vm _ (BU (by rw[h.same a];exact hi));unfold stp;rw[this];rfl
 ·rw[Pb a];decide
theorem Wd.nil{p:Sa}(h:Wd p):jn p=[]↔p=[]:=by
 constructor
 ·intro hj
  cases p with
  | nil=>rfl
  | cons x p=>
   have:=(AdU (h x (.head _))).1;unfold jn at hj
   split at hj
   ·exact absurd hj this
   ·simp at hj
 ·rintro rfl;rfl
end Go.L
namespace Go.Proofs.YtgaljodghpgdmaaGreatDoor
open Go Go.L
section
variable {σ:Type}{step:σ->Lf->Option σ}
theorem Afr{v:Pv}{p:Sa}{self:Pv->Sa->σ->Option σ}{d:Nat}(hv:Uw v)(hp:p.length<=20)(hs:∀i s,i<v.f.2.2.2.2.length->self (v.f.2.2.2.2.getD i Qq7) (p++[WL v i]) s=SP step s (NJ d (v.f.2.2.2.2.getD i Qq7) (p++[WL v i]))):
  ∀(k i:Nat) (s:σ),i+k=v.f.2.2.2.2.length->Go.L.run (CU v p self) ((i:Int),s)=SP step s ((Zy i k).flatMap λi=>NJ d (v.f.2.2.2.2.getD i Qq7) (p++[WL v i]))
 | 0,i,s,hi=>by
  refine A2 (m:=TI s) ?_;unfold CU;dsimp only;rw[Pb U]
 | k+1,i,s,hi=>by
  have hil:i<v.f.2.2.2.2.length:=by omega
  have hmany:=hv.many;rw[List.range'_succ,Y8,Vr,<- hs i s hil]
  have hk:∀x,x=WL v i->Ex v p (i:Int) self x s=(self (v.f.2.2.2.2.getD i Qq7) (p++[WL v i]) s).bind λs'=>TI (.inl (((i+1:Nat):Int),s')):=by
   rintro x rfl;unfold Ex Ed;rw[Ab (by unfold Go.E.Dx;simp;omega),Wo,Ab (by unfold Go.E.Dx;simp;omega),SV,Qx];refine congrArg (Xd _) (funext λx=>?_);rw[Ab U]
   rfl
  have hb:CU v p self ((i:Int),s)=(self (v.f.2.2.2.2.getD i Qq7) (p++[WL v i]) s).bind λs'=>TI (.inl (((i+1:Nat):Int),s')):=by
   unfold CU;dsimp only;rw[Xu U,Ab U]
   by_cases a:v.f.1=4
   ·have:=hv.same a;rw[Xu a,Ab U,SV];exact hk _ (by unfold WL;rw[Xu a])
   ·rw[Pb a];exact hk _ (by unfold WL;rw[Pb a])
  cases hc:self (v.f.2.2.2.2.getD i Qq7) (p++[WL v i]) s with
  | none=>
   rw[hc]at hb;exact A2 (m:=none) hb
  | some s'=>
   rw[hc]at hb;rw[AE hb];exact Afr hv hp hs k (i+1) s' U
theorem An4:∀(d n:Nat) (v:Pv) (p:Sa) (s:σ),d<=n->Vd d v->Wd p->p.length+d<=20->Gj step n v p s=SP step s (NJ d v p)
 | 0,_,_,_,_,_,h,_,_=>h.elim
 | d+1,0,_,_,_,h,_,_,_=>absurd h U
 | d+1,n+1,v,p,s,hn,hv,hp,hl=>by
  obtain⟨hok,hvp⟩:=hv
  show HH step (Gj step n) v p s=_
  unfold HH WG NJ;have:=hp.Uy;rw[Ak6,Ab U,Wo]
  show(step s (jn p,v.f.1,v.f.2.1,v.f.2.2.1)).bind _=(step s (jn p,v.f.1,v.f.2.1,v.f.2.2.1)).bind _
  congr 1
  funext s'
  exact Afr hok U (λi s hi=>An4 d n _ _ s U (hvp _ (BU hi)) (hp.snoc (S5 hok hi)) U) v.f.2.2.2.2.length 0 s' U
def Agq{v:Pv}(hv:Vd 10 v)(s:σ):MM step v [] s=SP step s (NJ 10 v []):=An4 10 1000 v [] s U hv (λx hx=>by cases hx) Rg
end
end Go.Proofs.YtgaljodghpgdmaaGreatDoor
end
noncomputable section
namespace Go.L
def DA(P:List (Lf×Int))(M:List (Lf×SB)):List (Lf×SB):=P.foldl (λM p=>Rn p.1 p.2 M) M
def AcX(P Q:List (Lf×Int))(M:List (Lf×SB)):DA (P++Q) M=DA Q (DA P M):=List.foldl_append
def Ai9(k k':Lf)(i z:Int)(M:List (Lf×SB)):z∈Bp [] k' (Rn k i M)↔z∈Bp [] k' M\/(k'=k/\z=i):=by
 unfold Rn;rw[Wk]
 by_cases h:k'=k
 ·subst h;simp
 ·simp[h]
def Agr(k k':Lf)(i:Int)(M:List (Lf×SB)):k'∈(Rn k i M).map TJ↔k'=k\/k'∈M.map TJ:=by
 unfold Rn
 by_cases h:k∈M.map TJ
 ·rw[Vo _ h];exact⟨.inr,λhh=>by rcases hh with rfl | hh;exact h;exact hh⟩
 ·rw[Vp _ h];simp only[K4,Yu,List.map_nil,MY,TG];exact⟨λhh=>hh.symm,λhh=>hh.symm⟩
def AdV(k:Lf)(i:Int){M:List (Lf×SB)}(h:(M.map TJ).Nodup):((Rn k i M).map TJ).Nodup:=by
 unfold Rn
 by_cases hk:k∈M.map TJ
 ·rw[Vo _ hk];exact h
 ·rw[Vp _ hk,K4]
  exact P3.2 ⟨h,OO _ _,λa ha b hb e=>by
   simp only[Yu,List.map_nil,TG]at hb;subst hb;subst e;exact hk ha⟩
theorem Qu(k:Lf)(z:Int):∀(P:List (Lf×Int)) (M:List (Lf×SB)),z∈Bp [] k (DA P M)↔z∈Bp [] k M\/(k,z)∈P
 | [],M=>by simp[DA]
 | p::P,M=>by
  show z∈Bp [] k (DA P (Rn p.1 p.2 M))↔_
  rw[Qu k z P,Ai9,R7,or_assoc];have:(k=p.1/\z=p.2)↔(k,z)=p:=⟨λh=>YI h.1 h.2,λh=>by rw[<- h];exact⟨Z,Z⟩⟩;rw[this]
theorem Qw(k:Lf):∀(P:List (Lf×Int)) (M:List (Lf×SB)),k∈(DA P M).map TJ↔k∈M.map TJ\/∃z,(k,z)∈P
 | [],M=>by simp[DA]
 | p::P,M=>by
  show k∈(DA P (Rn p.1 p.2 M)).map TJ↔_
  rw[Qw k P,Agr]
  constructor
  ·rintro((rfl | h) | ⟨z,h⟩)
   ·exact .inr ⟨p.2,.head _⟩
   ·exact .inl h
   ·exact .inr ⟨z,.tail _ h⟩
  ·rintro(h | ⟨z,h⟩)
   ·exact .inl (.inr h)
   ·rcases R7.1 h with rfl | h
    ·exact .inl (.inl Z)
    ·exact .inr ⟨z,h⟩
theorem Uz:∀(P:List (Lf×Int)) {M:List (Lf×SB)},(M.map TJ).Nodup->((DA P M).map TJ).Nodup
 | [],_,h=>h
 | p::P,_,h=>Uz P (AdV p.1 p.2 h)
def AcY(k:Lf)(i:Int)(M:List (Lf×SB))(k':Lf):(Bp [] k' (Rn k i M)).length<=(Bp [] k' M).length+1:=by
 unfold Rn;rw[Wk]
 split
 ·rename_i h;subst h;simp
 ·omega
def AdW(k:Lf)(i:Int)(M:List (Lf×SB)):(Rn k i M).length<=M.length+1:=by
 unfold Rn
 by_cases h:k∈M.map TJ
 ·have:=congrArg List.length (Vo (Bp [] k M++[i]) h);rw[Vx,Vx]at this;omega
 ·rw[Vp _ h];simp
theorem AcZ(k:Lf):∀(P:List (Lf×Int)) (M:List (Lf×SB)),(Bp [] k (DA P M)).length<=(Bp [] k M).length+P.length
 | [],M=>by simp[DA]
 | p::P,M=>by
  have a:=AcZ k P (Rn p.1 p.2 M);have h2:=AcY p.1 p.2 M k
  show(Bp [] k (DA P (Rn p.1 p.2 M))).length<=_
  rw[PF];omega
theorem U0:∀(P:List (Lf×Int)) (M:List (Lf×SB)),(DA P M).length<=M.length+P.length
 | [],M=>by simp[DA]
 | p::P,M=>by
  have a:=U0 P (Rn p.1 p.2 M);have h2:=AdW p.1 p.2 M
  show(DA P (Rn p.1 p.2 M)).length<=_
  rw[PF];omega
end Go.L
namespace Go.Proofs.YtgaljodghpgdmaaGreatDoor
open Go Go.L
def Za{P:List (Lf×Int)}{e:En}:e∈N2 (DA P [])↔(∃z,(e.1,z)∈P)/\e.2=L3 (Bp [] e.1 (DA P [])):=by
 unfold N2;rw[Rr]
 constructor
 ·rintro⟨k,hk,rfl⟩;have:=(Qw k P []).1 ((M4 _).mem_iff.1 hk);simp only[List.map_nil,List.not_mem_nil,false_or]at this;exact⟨this,Z⟩
 ·rintro⟨a,h2⟩;exact⟨e.1,(M4 _).mem_iff.2 ((Qw e.1 P []).2 (.inr a)),YI Z h2.symm⟩
def IM:Int->List Pv->List (Lf×Int)
 | _,[]=>[]
 | i,v::l=>((NJ 10 v []).map λx=>(x,i))++IM (i+1) l
theorem Ro:∀(i:Int) (a b:List Pv),IM i (a++b)=IM i a++IM (i+a.length) b
 | i,[],b=>by simp[IM]
 | i,v::a,b=>by
  simp only[VT,IM,YW];rw[Ro (i+1) a b];simp only[PF];rw[show i+1+(a.length:Int)=i+((a.length+1:Nat):Int) by omega]
theorem Vs:∀{i:Int}{a:List Pv}{p:Lf×Int},p∈IM i a↔∃j:Nat,j<a.length/\p.2=i+j/\p.1∈NJ 10 (a.getD j Qq7) []
 | _,[],p=>by simp[IM]
 | i,v::a,p=>by
  simp only[IM,MY,Rr];rw[Vs]
  constructor
  ·rintro(⟨x,hx,rfl⟩ | ⟨j,b,h2,h3⟩)
   ·exact⟨0,by simp,by simp,hx⟩
   ·exact⟨j+1,by simp;omega,by omega,h3⟩
  ·rintro⟨j,b,h2,h3⟩
   cases j with
   | zero=>exact .inl ⟨p.1,h3,YI Z (by simpa using h2.symm)⟩
   | succ j=>exact .inr ⟨j,by simpa using b,by omega,h3⟩
theorem XF:∀(i:Int) {a:List Pv},(∀v∈a,nodes 10 v<=600)->(IM i a).length<=600 * a.length
 | _,[],_=>by simp[IM]
 | i,v::a,h=>by
  simp only[IM,T6,Vx,PF];have b:=XF (i+1) λv hv=>h v (.tail _ hv);have h2:=h v (.head _);rw[Oh];omega
theorem Zb(i:Int):∀(l:List Lf) (M:List (Lf×SB)) (N:Nat),Bd N M->N+l.length<=1000000000->SP (Mx i) M l=TI (DA (l.map λx=>(x,i)) M)
 | [],_,_,_,_=>rfl
 | x::l,M,N,hM,hN=>by
  rw[PF]at hN;unfold SP;have hx:=hM x
  have e:Mx i M x=TI (Rn x i M):=by
   unfold Mx;rw[Ab (by unfold Go.E.Dx;omega)]
   rfl
  rw[e,Wo,Zb i l (Rn x i M) (N+1) (λk=>by have:=AcY x i M k;have:=hM k;omega) U]
  rfl
def TA(a:List Pv):Prop:=∀v∈a,CO v=TI (0,0)/\Vd 10 v/\nodes 10 v<=600
def Afs(P:List (Lf×Int)):Bd P.length (DA P []):=λk=>by have:=AcZ k P [];simpa[Bp]using this
theorem Aar{B:Nat}(hB:B<=100000000000){a:List Pv}(hl:a.length<=64)(hs:∀v∈a,Sm B 10 v):∀(k i:Nat),i+k=a.length->TA (a.take i)->
  (∃j f,j<a.length/\CO (a.getD j Qq7)=TI f/\f.1≠0/\TA (a.take j)/\Go.L.run (CV a) (DA (IM 0 (a.take i)) [],(i:Int))=TI ((0,[]),(f.1,(j:Int))))\/
  (TA a/\Go.L.run (CV a) (DA (IM 0 (a.take i)) [],(i:Int))=HK (a.length:Int) (DA (IM 0 a) []))
 | 0,i,hi,hv=>by
  right
  rw[Sg U]at hv ⊢;refine⟨hv,?_⟩
  have e:CV a (DA (IM 0 a) [],(i:Int))=(HK (a.length:Int) (DA (IM 0 a) [])).map Sum.inr:=by
   unfold CV N1;dsimp only;rw[Pb U]
   cases HK (a.length:Int) (DA (IM 0 a) []) <;> rfl
  exact A2 e
 | k+1,i,hi,hv=>by
  have hil:i<a.length:=by omega
  obtain⟨f,b,h2⟩:=WK hB (hs _ (BU hil))
  have htk:a.take (i+1)=a.take i++[a.getD i Qq7]:=by
   rw[Vf,Pa hil];simp[Sb,Pa hil]
  rcases h2 with ⟨rfl,h3,c⟩ | hf
  ·have hlen:=XF 0 λv hvm=>(hv v hvm).2.2;rw[Y4]at hlen
   have hadd:IM 0 (a.take (i+1))=IM 0 (a.take i)++(NJ 10 (a.getD i Qq7) []).map λx=>(x,(i:Int)):=by
    rw[htk,Ro];simp only[IM,R0,Y4];rw[show(0:Int)+((min i a.length:Nat):Int)=(i:Int) by omega]
   have hb:CV a (DA (IM 0 (a.take i)) [],(i:Int))=TI (.inl (DA (IM 0 (a.take (i+1))) [],((i+1:Nat):Int))):=by
    unfold CV;dsimp only;rw[Xu U,Ab U,SV,b,Wo,Xu ⟨Z,Z⟩,Agq h3,Zb (i:Int) _ _ _ (Afs _) (by rw[Oh];omega),Wo,Ab U,hadd,AcX]
    rfl
   rw[AE hb];refine Aar hB hl hs k (i+1) U ?_;rw[htk];intro v hvm
   rcases MY.1 hvm with h | h
   ·exact hv v h
   ·rw[TG]at h;subst h;exact⟨b,h3,c⟩
  ·left
   refine⟨i,f,hil,b,hf,hv,A2 (m:=TI ((0,[]),(f.1,(i:Int)))) ?_⟩;unfold CV Dz;dsimp only;rw[Xu U,Ab U,SV,b,Wo,Pb (λh=>hf h.1)]
   rfl
theorem Aby:∀(d:Nat) (v:Pv) (p:Sa) {x:Lf},Vd d v->Wd p->x∈NJ d v p->∃(q:Sa) (u:Pv),x=(jn q,u.f.1,u.f.2.1,u.f.2.2.1)/\Wd q/\q.length+1<=p.length+d/\Uw u/\∀B,Sm B d v->AL u.f.1/\AL u.f.2.1/\u.f.2.2.1.length<=B
 | 0,_,_,_,h,_,_=>h.elim
 | d+1,v,p,x,hv,hp,hx=>by
  obtain⟨hok,hvp⟩:=hv;unfold NJ at hx
  rcases R7.1 hx with rfl | hx
  ·exact⟨p,v,Z,hp,by omega,hok,λB hB=>⟨hB.2.2.2.2.1,hB.2.2.2.2.2.1,hB.1⟩⟩
  ·obtain⟨i,hi,hxi⟩:=List.mem_flatMap.1 hx
   have hil:i<v.f.2.2.2.2.length:=by
    have:=List.mem_range'_1.1 hi;omega
   obtain⟨q,u,a,h2,h3,b,c⟩:=Aby d _ _ (hvp _ (BU hil)) (hp.snoc (S5 hok hil)) hxi;refine⟨q,u,a,h2,by simp at h3;omega,b,λB hB=>c B (hB.2.2.2.2.2.2 _ (BU hil))⟩
def Ak7{v:Pv}{x:Lf}(hv:Vd 10 v)(hs:Sm 1048576 10 v)(hx:x∈NJ 10 v []):(x.1.length<=330/\¬0<=wr false 0 (sl x.1))/\(1<=x.2.1/\x.2.1<=4)/\(x.2.2.1=0\/x.2.1=1)/\(x.2.2.2=[]\/x.2.1=2)/\AL x.2.2.1/\x.2.2.2.length<=1048576:=by
 obtain⟨q,u,rfl,h2,h3,a,b⟩:=Aby 10 v [] hv (λy hy=>by cases hy) hx;obtain⟨e,c,d⟩:=b _ hs;have hj:=h2.Uy;simp only[RZ]at h3;refine⟨⟨by show(jn q).length<=330;omega,?_⟩,?_,?_,?_,c,d⟩
 ·show ¬0<=wr false 0 (sl (jn q))
  rw[An2 (λy hy=>(AdU (h2 y hy)).1) (λy hy=>(AdU (h2 y hy)).2.1),An3 (λy hy=>by rw[h2 y hy];rfl)]
  decide
 ·show 1<=u.f.1/\u.f.1<=4
  rcases a.kind with h | h | h | h <;> omega
 ·show u.f.2.1=0\/u.f.1=1
  exact a.num.symm
 ·show u.f.2.2.1=[]\/u.f.1=2
  exact a.bytes.symm
def Ak8{P:List (Lf×Int)}(hP:P.length<=1000000)(h:∀p∈P,p.1.1.length<=2000000/\AL p.1.2.1/\AL p.1.2.2.1/\p.1.2.2.2.length<=2000000/\AL p.2):MS (DA P []):=by
 refine⟨by have:=U0 P [];simp at this;omega,λk hk=>?_⟩
 rcases(Qw k P []).1 hk with a | ⟨z,hz⟩
 ·cases a
 ·obtain⟨b,h2,h3,c,_⟩:=h _ hz;refine⟨b,h2,h3,c,by have:=Afs P k;omega,λy hy=>?_⟩
  rcases(Qu k y P []).1 hy with a | hy
  ·simp[Bp]at a
  ·exact(h _ hy).2.2.2.2
def Ada{l:List Lf}(h:l.Nodup):(IK l).Pairwise (λa b=>D4 a b<0):=by
 have hsorted:(IK l).Pairwise λx y=>(!(Go.Proofs.ltOf D4) y x)=true:=by
  rw[<- L8];have hlt:∀a b,(!(Go.Proofs.ltOf D4) b a)=true↔¬D4 b a<0:=λa b=>by simp[Go.Proofs.ltOf]
  refine Rm (λa b c f h2=>?_) (λa b=>?_) l
  ·rw[hlt]at *;intro h3;have s1:=Ia.swap a b
   rcases VR (D4 a b) 0 with d | d | d
   ·exact h2 (Ia.trans c a b h3 d)
   ·rw[Ia.zero a b d]at h3;exact h2 h3
   ·omega
  ·rw[hlt,hlt];have s1:=Ia.swap a b;omega
 have hn:(IK l).Nodup:=(M4 l).nodup_iff.2 h;refine(List.pairwise_and_iff.2 ⟨hsorted,hn⟩).imp λ{a b} hab=>?_;obtain⟨f,h2⟩:=hab;have h1' : ¬D4 b a<0:=by simpa[Go.Proofs.ltOf]using f
 have s1:=Ia.swap a b;have:D4 a b≠0:=λe=>h2 (Ia.zero a b e);omega
def Zd{a:List Pv}(hl:a.length<=64)(hv:TA a)(hs:∀v∈a,Sm 1048576 10 v):GI (a.length:Int) (N2 (DA (IM 0 a) []))/\MS (DA (IM 0 a) []):=by
 have hlen:=XF 0 λv hvm=>(hv v hvm).2.2
 have hp:∀p∈IM 0 a,((p.1.1.length<=330/\¬0<=wr false 0 (sl p.1.1))/\(1<=p.1.2.1/\p.1.2.1<=4)/\(p.1.2.2.1=0\/p.1.2.1=1)/\(p.1.2.2.2=[]\/p.1.2.1=2)/\AL p.1.2.2.1/\p.1.2.2.2.length<=1048576)/\0<=p.2/\p.2<a.length:=λp hpm=>by
  obtain⟨j,c,h2,h3⟩:=Vs.1 hpm;exact⟨Ak7 (hv _ (BU c)).2.1 (hs _ (BU c)) h3,by omega,by omega⟩
 have hMS:MS (DA (IM 0 a) []):=Ak8 U λp hpm=>by
  obtain⟨⟨c,h2,h3,m,d,n⟩,o,q⟩:=hp p hpm;exact⟨by omega,by unfold AL;omega,d,by omega,by unfold AL;omega⟩
 refine⟨⟨by omega,by omega,λe he=>?_,AdT hMS,by rw[AcT];exact hMS.1,?_⟩,hMS⟩
 ·obtain⟨⟨z,hz⟩,h2⟩:=Za.1 he;obtain⟨⟨f,g,i,k,r,s⟩,t,u⟩:=hp _ hz
  have hm:∀y,y∈e.2↔(e.1,y)∈IM 0 a:=λy=>by
   rw[h2,(J4 _).2,Qu];simp[Bp]
  refine⟨f,g,i,k,λl=>?_,λy hy=>?_,?_⟩
  ·have:=(hm z).2 hz;rw[l]at this
   cases this
  ·exact(hp _ ((hm y).1 hy)).2
  ·rw[h2];exact(J4 _).1.imp λ{a b} h=>by omega
 ·unfold N2;rw[List.pairwise_map];exact Ada (Uz _ Rg)
def AiA{a:List Pv}(hs:∀v∈a,Sm 1048576 10 v):∃r,Og a=TI r/\((64<a.length/\r=((0,[]),(2,-1)))\/
  (a.length<=64/\∃j f,j<a.length/\CO (a.getD j Qq7)=TI f/\f.1≠0/\TA (a.take j)/\r=((0,[]),(f.1,(j:Int))))\/
  (a.length<=64/\TA a/\r=ZG (a.length:Int) (DA (IM 0 a) []))):=by
 unfold Og Dz
 by_cases h:64<a.length
 ·rw[Xu U];exact⟨_,Z,.inl ⟨h,Z⟩⟩
 ·rw[Pb U];unfold RL
  rcases Aar (B:=1048576) U U hs a.length 0 U (λv hv=>by simp at hv)with ⟨j,f,b,h2,h3,c,d⟩ | ⟨b,h2⟩
  ·exact⟨_,d,.inr (.inl ⟨by omega,j,f,b,h2,h3,c,Z⟩)⟩
  ·refine⟨ZG (a.length:Int) (DA (IM 0 a) []),?_,.inr (.inr ⟨by omega,b,Z⟩)⟩;have:=h2.trans (Ai3 U (Zd U b hs).2);exact this
open Go.E Go.RowKit Go.Shelf
def AdX(w:World)(k:Nat)(os:Array Obj):Below w.heap.size w (Go.Sort.grow (w.drewN k) os):=
 ⟨Z,Z,Z,by simp[Go.Sort.grow,World.drewN],λj hj=>by
  simp only[Go.Sort.grow,World.drewN];rw[Array.getElem?_append_left hj]⟩
noncomputable def WM(n:Int):Option Qm:=Go.L.Ay (-9223372036854775808<=n/\n<=9223372036854775807) (TI (Lib.itoa n))
section
variable(w:World)(H:PH)(hH:Le H (hp w)) include hH
theorem Abz(hU:E1 H){a0:Int}{r:Qm}(h:WM a0=TI r):Ok Tryz.prog 97 [.int .i64 a0] w (λv w'=>Ext w w'/\v=.string ⟨r.toArray⟩):=by
 obtain⟨hk,h⟩:=Go.L.Fp h;obtain rfl:=Option.some.inj h;refine⟨⟨Tryz.f97,_,Tryz.func97,Z,Z⟩,(Any.strconv_Itoa Tryz.Akd a0 hk.1 hk.2 w (hU.2.1 w hH)).mono λe w' he=>?_⟩;obtain⟨rfl,k,os,rfl⟩:=he;exact⟨_,Z,Ext.off (AdX _ _ _),Z⟩
theorem AiB{a:Int}:Ok Tryz.prog 267 [.int .i64 a] w (λv w'=>Ext w w'/\v=.bool (decide ((8:Int)<a))):=by
 refine⟨⟨Tryz.f267,_,Tryz.func267,Z,Z⟩,(Any.strings_shouldUseASCIISet (ρ:=Tryz.VP) {Tryz.AhD with} a w).mono λe w' he=>?_⟩;obtain⟨rfl,rfl⟩:=he;exact⟨_,Z,Ext.refl _,Z⟩
end
open Go.E Go.RowKit
set_option maxHeartbeats 1000000
set_option maxRecDepth 10000
open _root_.Go.Proofs.Tryz
def JI(_a0:Li×SB):Option Bool:=
 TI true
section
variable(w:World)(H:PH)(hH:Le H (hp w)) include hH
theorem Qz8{a0:Li×SB}{a:Value}(_h0_0:As (.int .i64) H a (a0.2)){r:Bool}(h:JI a0=TI r):
  Pd 166 [.agg #[Pg a0.1.1,No a0.1.2.1,No a0.1.2.2.1,Pg a0.1.2.2.2,a]] w (λv w'=>v=.bool r):=by
 refine Ai 3 [(0,.agg #[Pg a0.1.1,No a0.1.2.1,No a0.1.2.2.1,Pg a0.1.2.2.2,a])] func166 Z λhL=>A5<|B6 (t:=171) Z Z hL λd e c b _=>Bu
end
def Hd(a:SB):Option (SB):=
 Ay (a.length<4611686018427387904) (Ay ((Ms a).length<=9223372036854775807) (TI ((Lib.compact (Ms a)))))
def ED(a0:Int×SS)(a1:Wl):SB×Int->Option (KP⊕(SB)):=λ⟨b,a⟩=>
 if a<(a0.2.length:Int)then Ay (0<=a/\a<(a0.2.length:Int)) (Xd (JI ((((a0.2.getD a.toNat Qq7).1).1,((a0.2.getD a.toNat Qq7).1).2.1,((a0.2.getD a.toNat Qq7).1).2.2.1,((a0.2.getD a.toNat Qq7).1).2.2.2),(a0.2.getD a.toNat Qq7).2)) (λc=>if c then Xd (Ef a1 (((a0.2.getD a.toNat Qq7).1).1)) (λd=>if d then Ay (Go.E.Dx 8 (b.length+((a0.2.getD a.toNat Qq7).2).length)) (Ay (AL (a+1)) (TI (Sum.inl ((b++(a0.2.getD a.toNat Qq7).2),(a+1)))))else Ay (AL (a+1)) (TI (Sum.inl (b,(a+1)))))else Ay (AL (a+1)) (TI (Sum.inl (b,(a+1))))))else Sh Sum.inr (Hd b)
def AhR(a0:Int×SS)(a1:Wl)(s:KP):Option (SB):=Go.L.run (ED a0 a1) s
def Gy(a0:Int×SS)(a1:Wl):Option (SB):=
 (AhR a0 a1) (([]:SB),0)
def QxQ{s w:World}{H:PH}(hH:Le H (hp s)){O:List Bv}{a0:Int×SS}{a1:Wl}{va0_1:Value}(hL:AB s (Ha [] O) w)(u:As (.pair Xp (.vec (.int .i64))) (gz H s w (Ha [] O)) va0_1 (a0.2)){r:SB}(h:Gy a0 a1=TI r):
  Ok prog 165 [.agg #[No a0.1,va0_1],Pg a1,.func (.func 166) #[] #[]] w (λv w'=>∃(u0:Value) (y0:LR),v=u0/\AB s (Ha [.row u0 3 1 (r).length y0] O) w'/\Le (fz w (Ha [] O)) (fz w' (Ha [.row u0 3 1 (r).length y0] O))/\Ao (.int .i64) (gz H s w' (Ha [.row u0 3 1 (r).length y0] O)) r y0):=by
 refine Cx (n:=36) [(0,.agg #[No a0.1,va0_1]),(1,(Pg a1)),(2,.func (.func 166) #[] #[])] func165 Z Z Z Z ?_;have hT:=Le.refl (fz w (Ha [] O));refine A5<|B6 (t:=34) Z Z hL ?_;intro w1 b1 bh ae _;obtain⟨bi,af,bj⟩:=B3 (.int .i64) H 3 bh;refine Af ?_;refine AA (SB×Value×LR) (λ⟨ab,x,p⟩=>[(7,x)]) (λ⟨ab,x,p⟩ wr=>Cd s (Ha [.row x 3 1 (ab).length p,.box b1 [No a0.1,va0_1] 34] O) wr λOz=>Ao (.int .i64) (gz H s wr Oz) ab p/\As (.pair Xp (.vec (.int .i64))) (gz H s wr Oz) va0_1 (a0.2)/\Le (fz w (Ha [] O)) (fz wr Oz)/\Hd ab=TI r) ?_ ?_
 ·have u:=u.mono (Aa (ae.trans af));refine Af ?_;refine A4 ?_;obtain⟨ac,h⟩:=Ax h;have hT:=hT.trans (ae.trans af);refine AF (SB×Int×Value×LR×Nat) (λ⟨j,a,k,g,n⟩=>[(1,(Pg a1)),(2,.func (.func 166) #[] #[]),(7,k),(11,va0_1),(12,No (a0.2.length:Int)),(13,No a)]) (λ⟨j,a,k,g,n⟩ wr=>Cd s (Ha [.row k 3 1 (j).length g,.box b1 [No a0.1,va0_1] 34] O) wr λOz=>As (.pair Xp (.vec (.int .i64))) (gz H s wr Oz) va0_1 (a0.2)/\Ao (.int .i64) (gz H s wr Oz) j g/\Le (fz w (Ha [] O)) (fz wr Oz)/\D6 (ED a0 a1) n (j,a)=TI r) (λ⟨j,a,k,g,n⟩=>n) (([]:SB),0,TO,[],ac) Z ⟨bi,u,bj,hT,h⟩ ?_;rintro⟨j,a,k,g,nn83⟩ bp ⟨ag,b,d,hT,h⟩;obtain⟨ac,bw,rfl,h,y⟩:=Aw h;refine AR ?_;refine Ar h ?_ ?_<;>intro a6 h
  ·refine AR ?_;refine Ag h λaj h=>A1 b a.toNat (BP aj) (An aj) ?_;rintro bx _ ⟨_,_,rfl,⟨_,_,rfl,rfl,⟨_,_,rfl,rfl,⟨_,_,rfl,rfl,rfl⟩⟩⟩,⟨e87v4,rfl,e87h4⟩⟩ a7;refine AJ (AU a7 (Ae ag))<|Aq LU.e Z ag λbz b0 a8 e _=>Ac 0 Z a8 Z (a:=(AV Z (AV Z (AV Z (AV Z (AV e87h4.one JO)))))) ?_;intro b2 ah f;have c:=ah.rG H;refine Af ?_;refine Ah h λb3 a9 h=>?_;have e87h4:=e87h4.mono (Aa (e.trans f));refine Qd ah (Qz8 _ _ (Ae ah) (e87h4.mono c) a9) ?_;rintro _ b4 rfl bq ai o;refine AK 1 Z<|Cf 20 h ?_ ?_<;>intro ba h
   ·refine Af ?_;refine Ah h λb5 bb h=>Al ai (Lv _ _ (Ae ai) bb) λb6 br ak q=>Af ?_;refine AH h ?_ ?_<;>intro bc h
    ·refine Af ?_;refine Ag h λao h=>?_;have d:=d.mono (Aa (e.trans f));have c:=c.trans (Aa (o.trans q));refine Bf (r:=(.int .i64)) 1 j ((a0.2.getD a.toNat Qq7).2) Z VV ak Z (d.mono c) (e87h4.mono c) ao λbd bs ap aq ad z=>Ag h λbl h=>Af ?_;have ar:=aq.dT 0 Z;have h:=AX.again h y;have b:=b.mono (Aa (e.trans f));have hT:=hT.trans (e.trans (f.trans (o.trans (q.trans (ad.trans (fz_dT 0 Z))))));have c:=c.trans (Aa (ad.trans (fz_dT 0 Z)));have z:=z.mono (Aa (fz_dT 0 Z));refine Ak (_,_,_,_,_) Z ⟨ar,(b.mono c),z,hT,h⟩
    refine Ag h λbm h=>Af ?_;have au:=ak.dT 0 Z;have h:=AX.again h y;have b:=b.mono (Aa (e.trans f));have d:=d.mono (Aa (e.trans f));have hT:=hT.trans (e.trans (f.trans (o.trans (q.trans (fz_dT 0 Z)))));have c:=c.trans (Aa (o.trans (q.trans (fz_dT 0 Z))));refine Ak (_,_,_,_,_) Z ⟨au,(b.mono c),(d.mono c),hT,h⟩
   refine Af ?_;refine BO<|Ag h λbn h=>Af ?_;have av:=ai.dT 0 Z;have h:=AX.again h y;have b:=b.mono (Aa (e.trans f));have d:=d.mono (Aa (e.trans f));have hT:=hT.trans (e.trans (f.trans (o.trans (fz_dT 0 Z))));have c:=c.trans (Aa (o.trans (fz_dT 0 Z)));refine Ak (_,_,_,_,_) Z ⟨av,(b.mono c),(d.mono c),hT,h⟩
  have h:=AX.out h y;refine Af ?_;refine Am (_,_,_) ⟨ag,d,b,hT,h⟩
 have hT:=hT.trans (ae.trans af);rintro⟨ab,x,p⟩ bt ⟨be,aw,bk,hT,h⟩;refine FA 1 Z<|Ag h λax h=>X6 (i:=0) Tryz.AeX ⟨Tryz.f93,_,func93,Z,Z⟩ Z hH be Z aw ax λbu bo ay al az=>Af ?_;refine Ag h λa2 h=>X7 (i:=0) Tryz.AeY ⟨Tryz.f94,_,func94,Z,Z⟩ Z hH ay Z az a2 λbf bv a3 a4 am aa=>Af ?_
 cases h
 refine AD Z ?_;have a5:=a4.dT 1 Z;have hT:=hT.trans (al.trans (am.trans (fz_dT 1 Z)));have aa:=aa.mono (Aa (fz_dT 1 Z));exact⟨bf,a3,Z,a5,hT,aa⟩
def Gz(a0:Int×SS)(a1:Wl):Option RX:=
 Xd (HC a1) (λa=>if a.1=0/\a.2=0 then Xd (Gy (a0.1,a0.2) a1) (λb=>TI (b,(0,0)))else TI ([],(a.1,a.2)))
section
variable(w:World)(H:PH)(hH:Le H (hp w)) include hH
theorem Qxb{a0:Int×SS}{a1:Wl}{b:Value}(k:As (.pair Xp (.vec (.int .i64))) H b (a0.2)){r:RX}(h:Gz a0 a1=TI r):
  Pd 115 [.agg #[No a0.1,b],Pg a1] w (λv w'=>∃s,v=.tuple #[s,.agg #[No r.2.1,No r.2.2]]/\B2 3 (.int .i64) H w w' s (r.1)):=by
 refine Ai 17 [(0,.agg #[No a0.1,b]),(1,(Pg a1))] func115 Z λhL=>A5<|B6 (t:=34) Z Z hL λw1 b1 u ah _=>AK 1 Z<|Aq Av.e Z u λw2 b2 g aj _=>AR ?_;refine Ah h λx y h=>Al g (Kt _ _ (Ae g) y) λw4 ao z ak=>Aq Av.e Z z λw5 b5 aa am _=>Ac 0 Z aa Z λw6 j an=>Af ?_;refine AJ (A8 (λ_=>Bo _))<|AJ (I4 Ge (KO _ _ _ _))<|Ap<|Bt h ?_ ?_<;>intro ab h
 ·refine BF (.q 0 (.q 1 (.tail 2))) mixed SF (λw9 ac=>?_);have d:=j.call ac;refine Bh Z (C6 0 Z Av.e d Z) Z<|Br 1 Z<|AT (λap l=>?_);have m:=d.call l;refine Ac 1 Z m Z λaq e ad=>Af ?_
  cases h
  refine AP (.tmp Z) (.cell Z QW Z Av.e (box_pT 1 e Z)) ⟨e.ext,_,Z,B2.nil⟩
 refine Af ?_;refine Ah h λar o h=>D5 (QxQ (a0:=(a0.1,a0.2)) (a1:=a1) (O:=[.box b5 [No x.1,No x.2] 39,.box b2 [No 0,No 0] 39,.box b1 [No a0.1,b] 34]) hH j (k.mono  Ad) o) ?_;rintro ae au ⟨_,y16_0,rfl,p,af,a⟩;refine AJ (A8 (λ_=>Bo _))<|AK 1 Z<|Ac 2 Z p Z λav c f=>Af ?_
 cases h
 refine AP (.tmp Z) (.cell Z QW Z Av.e (box_pT 2 c Z)) ?_;have a:=a.mono (Aa f);exact⟨c.ext,_,Z,(c.Ev hH (i:=0) Z a)⟩
end
def Ey(a0:Li×SB)(a1 a2:Int):Option (Bool×Int×Int):=
 if a0.1.2.1=1 then if a1<=a0.1.2.2.1 then TI (decide (a0.1.2.2.1<=a2),a1,a2)else TI (false,a1,a2)else TI (false,a1,a2)
def Qxq{c w:World}{H:PH}(hH:Le H (hp c)){O:List Bv}{a0:Li×SB}{a1 a2:Int}{va0_4:Value}{ba1 ba2:Nat}(hL:AB c (Ha [.box ba1 [No a1] 3,.box ba2 [No a2] 3] O) w)(j:As (.int .i64) (gz H c w (Ha [.box ba1 [No a1] 3,.box ba2 [No a2] 3] O)) va0_4 (a0.2)){r:Bool×Int×Int}(h:Ey a0 a1 a2=TI r):
  Ok prog 167 [.agg #[Pg a0.1.1,No a0.1.2.1,No a0.1.2.2.1,Pg a0.1.2.2.2,va0_4],SX ba1,SX ba2] w (λv w'=>v=.bool r.1/\AB c (Ha [.box ba1 [No r.2.1] 3,.box ba2 [No r.2.2] 3] O) w'/\Le (fz w (Ha [.box ba1 [No a1] 3,.box ba2 [No a2] 3] O)) (fz w' (Ha [.box ba1 [No r.2.1] 3,.box ba2 [No r.2.2] 3] O))):=by
 refine Cx (n:=23) [(0,.agg #[Pg a0.1.1,No a0.1.2.1,No a0.1.2.2.1,Pg a0.1.2.2.2,va0_4]),(1,(SX ba1)),(2,(SX ba2))] func167 Z Z Z Z ?_;have hT:=Le.refl (fz w (Ha [.box ba1 [No a1] 3,.box ba2 [No a2] 3] O));refine A5<|B6 (t:=171) Z Z hL λk l b a _=>Af ?_;refine Bl 9 h ?_ ?_<;>intro e h
 ·refine Af ?_;refine Bl 16 h ?_ ?_<;>intro f h
  ·refine Af ?_
   cases h
   refine AD Z ?_;have g:=b.dT 0 Z;have hT:=hT.trans (a.trans (fz_dT 0 Z));exact⟨Z,g,hT⟩
  refine Af ?_
  cases h
  refine AD Z ?_;have i:=b.dT 0 Z;have hT:=hT.trans (a.trans (fz_dT 0 Z));exact⟨Z,i,hT⟩
 refine Af ?_
 cases h
 refine AD Z ?_;have d:=b.dT 0 Z;have hT:=hT.trans (a.trans (fz_dT 0 Z));exact⟨Z,d,hT⟩
def FO(a:SB)(b c:Int):Option SU:=
 Ay (a.length<4611686018427387904) (Ay ((Ms a).length<=9223372036854775807) (TI ((Lib.compact (Ms a)),b,c)))
def DU(a0:Int×SS)(a1:Wl):SB×Int×Int×Int->Option ((SB×Int×Int×Int)⊕SU):=λ⟨c,d,e,a⟩=>
 if a<(a0.2.length:Int)then Ay (0<=a/\a<(a0.2.length:Int)) (Xd (Ey ((((a0.2.getD a.toNat Qq7).1).1,((a0.2.getD a.toNat Qq7).1).2.1,((a0.2.getD a.toNat Qq7).1).2.2.1,((a0.2.getD a.toNat Qq7).1).2.2.2),(a0.2.getD a.toNat Qq7).2) d e) (λb=>if b.1 then Xd (Ef a1 (((a0.2.getD a.toNat Qq7).1).1)) (λf=>if f then Ay (Go.E.Dx 8 (c.length+((a0.2.getD a.toNat Qq7).2).length)) (Ay (AL (a+1)) (TI (Sum.inl ((c++(a0.2.getD a.toNat Qq7).2),b.2.1,b.2.2,(a+1)))))else Ay (AL (a+1)) (TI (Sum.inl (c,b.2.1,b.2.2,(a+1)))))else Ay (AL (a+1)) (TI (Sum.inl (c,b.2.1,b.2.2,(a+1))))))else Sh Sum.inr (FO c d e)
def AaW(a0:Int×SS)(a1:Wl)(s:SB×Int×Int×Int):Option SU:=Go.L.run (DU a0 a1) s
def EZ(a0:Int×SS)(a1:Wl)(a2_c0 a2_c1:Int):Option SU:=
 (AaW a0 a1) (([]:SB),a2_c0,a2_c1,0)
def Qk1{q w:World}{H:PH}(hH:Le H (hp q)){O:List Bv}{a0:Int×SS}{a1:Wl}{a2_c0 a2_c1:Int}{va0_1:Value}{ba2_c0 ba2_c1:Nat}(hL:AB q (Ha [.box ba2_c0 [No a2_c0] 3,.box ba2_c1 [No a2_c1] 3] O) w)(ab:As (.pair Xp (.vec (.int .i64))) (gz H q w (Ha [.box ba2_c0 [No a2_c0] 3,.box ba2_c1 [No a2_c1] 3] O)) va0_1 (a0.2)){r:SU}(h:EZ a0 a1 a2_c0 a2_c1=TI r):
  Ok prog 165 [.agg #[No a0.1,va0_1],Pg a1,.func (.func 167) #[] #[SX ba2_c0,SX ba2_c1]] w (λv w'=>∃(u0:Value) (y0:LR),v=u0/\AB q (Ha [.row u0 3 1 (r.1).length y0,.box ba2_c0 [No r.2.1] 3,.box ba2_c1 [No r.2.2] 3] O) w'/\Le (fz w (Ha [.box ba2_c0 [No a2_c0] 3,.box ba2_c1 [No a2_c1] 3] O)) (fz w' (Ha [.row u0 3 1 (r.1).length y0,.box ba2_c0 [No r.2.1] 3,.box ba2_c1 [No r.2.2] 3] O))/\Ao (.int .i64) (gz H q w' (Ha [.row u0 3 1 (r.1).length y0,.box ba2_c0 [No r.2.1] 3,.box ba2_c1 [No r.2.2] 3] O)) (r.1) y0):=by
 refine Cx (n:=36) [(0,.agg #[No a0.1,va0_1]),(1,(Pg a1)),(2,.func (.func 167) #[] #[SX ba2_c0,SX ba2_c1])] func165 Z Z Z Z ?_;have hT:=Le.refl (fz w (Ha [.box ba2_c0 [No a2_c0] 3,.box ba2_c1 [No a2_c1] 3] O));refine A5<|B6 (t:=34) Z Z hL ?_;intro w1 b1 b0 an _;obtain⟨b2,ao,b3⟩:=B3 (.int .i64) H 3 b0;refine Af ?_;refine AA (SB×Int×Int×Value×LR) (λ⟨ah,ar,au,ac,z⟩=>[(7,ac)]) (λ⟨ah,ar,au,ac,z⟩ wr=>Cd q (Ha [.row ac 3 1 (ah).length z,.box b1 [No a0.1,va0_1] 34,.box ba2_c0 [No ar] 3,.box ba2_c1 [No au] 3] O) wr λOz=>Ao (.int .i64) (gz H q wr Oz) ah z/\As (.pair Xp (.vec (.int .i64))) (gz H q wr Oz) va0_1 (a0.2)/\Le (fz w (Ha [.box ba2_c0 [No a2_c0] 3,.box ba2_c1 [No a2_c1] 3] O)) (fz wr Oz)/\FO ah ar au=TI r) ?_ ?_
 ·have ab:=ab.mono (Aa (an.trans ao));refine Af ?_;refine A4 ?_;obtain⟨ai,h⟩:=Ax h;have hT:=hT.trans (an.trans ao);refine AF (SB×Int×Int×Int×Value×LR×Nat) (λ⟨o,x,y,a,j,d,n⟩=>[(1,(Pg a1)),(2,.func (.func 167) #[] #[SX ba2_c0,SX ba2_c1]),(7,j),(11,va0_1),(12,No (a0.2.length:Int)),(13,No a)]) (λ⟨o,x,y,a,j,d,n⟩ wr=>Cd q (Ha [.row j 3 1 (o).length d,.box b1 [No a0.1,va0_1] 34,.box ba2_c0 [No x] 3,.box ba2_c1 [No y] 3] O) wr λOz=>As (.pair Xp (.vec (.int .i64))) (gz H q wr Oz) va0_1 (a0.2)/\Ao (.int .i64) (gz H q wr Oz) o d/\Le (fz w (Ha [.box ba2_c0 [No a2_c0] 3,.box ba2_c1 [No a2_c1] 3] O)) (fz wr Oz)/\D6 (DU a0 a1) n (o,x,y,a)=TI r) (λ⟨o,x,y,a,j,d,n⟩=>n) (([]:SB),a2_c0,a2_c1,0,TO,[],ai) Z ⟨b2,ab,b3,hT,h⟩ ?_;rintro⟨o,x,y,a,j,d,nn92⟩ cb ⟨ap,c,e,hT,h⟩;obtain⟨ai,cg,rfl,h,ad⟩:=Aw h;refine AR ?_;refine Ar h ?_ ?_<;>intro br h
  ·refine AR ?_;refine Ag h λa7 h=>A1 c a.toNat (BP a7) (An a7) ?_;rintro ch _ ⟨_,_,rfl,⟨_,_,rfl,rfl,⟨_,_,rfl,rfl,⟨_,_,rfl,rfl,rfl⟩⟩⟩,⟨e96v4,rfl,e96h4⟩⟩ bs;refine AJ (AU bs (Ae ap))<|Aq LU.e Z ap λci bq bt f _=>Ac 0 Z bt Z (a:=(AV Z (AV Z (AV Z (AV Z (AV e96h4.one JO)))))) ?_;intro b4 aq g;have b:=aq.rG H;refine Af ?_;have av:AB q (Ha [.box ba2_c0 [No x] 3,.box ba2_c1 [No y] 3,.box bq [.string ⟨(((a0.2.getD a.toNat Qq7).1).1).toArray⟩,No (((a0.2.getD a.toNat Qq7).1).2.1),No (((a0.2.getD a.toNat Qq7).1).2.2.1),.string ⟨(((a0.2.getD a.toNat Qq7).1).2.2.2).toArray⟩,e96v4] 171,.row j 3 1 (o).length d,.box b1 [No a0.1,va0_1] 34] O) b4:=aq.BX [4,4] Z;have s:=Bb [4,4] aq av Z;refine Ah h λk bc h=>?_;have e96h4:=e96h4.mono (Aa (f.trans g));have b:=b.trans (Aa s)
   refine DR Z Z (Qxq (a0:=((((a0.2.getD a.toNat Qq7).1).1,((a0.2.getD a.toNat Qq7).1).2.1,((a0.2.getD a.toNat Qq7).1).2.2.1,((a0.2.getD a.toNat Qq7).1).2.2.2),(a0.2.getD a.toNat Qq7).2)) (a1:=x) (a2:=y) (O:=(Ha [.box bq [.string ⟨(((a0.2.getD a.toNat Qq7).1).1).toArray⟩,No (((a0.2.getD a.toNat Qq7).1).2.1),No (((a0.2.getD a.toNat Qq7).1).2.2.1),.string ⟨(((a0.2.getD a.toNat Qq7).1).2.2.2).toArray⟩,e96v4] 171,.row j 3 1 (o).length d,.box b1 [No a0.1,va0_1] 34] O)) hH av (e96h4.mono b) bc) ?_;rintro _ bu ⟨rfl,ae,p⟩;refine AK 1 Z<|Cf 20 h ?_ ?_<;>intro bd h
   ·refine Af ?_;refine Ah h λcc be h=>Al ae (Lv _ _ (Ae ae) be) λbv b6 aw u=>Af ?_;refine AH h ?_ ?_<;>intro bf h
    ·refine Af ?_;refine Ag h λbg h=>?_;have e:=e.mono (Aa (f.trans g));have b:=b.trans (Aa (p.trans u));refine Bf (r:=(.int .i64)) 3 o ((a0.2.getD a.toNat Qq7).2) Z VV aw Z (e.mono b) (e96h4.mono b) bg λa8 bw ax bh aj af=>Ag h λb7 h=>Af ?_;have ay:=bh.dT 2 Z;have az:AB q (Ha [.row a8 3 1 ((o++(a0.2.getD a.toNat Qq7).2)).length ax,.box b1 [No a0.1,va0_1] 34,.box ba2_c0 [No k.2.1] 3,.box ba2_c1 [No k.2.2] 3] O) bw:=ay.BX [3,3] Z;have aa:=Bb [3,3] ay az Z;have h:=AX.again h ad;have c:=c.mono (Aa (f.trans g));have hT:=hT.trans (f.trans (g.trans (s.trans (p.trans (u.trans (aj.trans ((fz_dT 2 Z).trans aa)))))));have b:=b.trans (Aa (aj.trans ((fz_dT 2 Z).trans aa)));have af:=af.mono (Aa ((fz_dT 2 Z).trans aa));refine Ak ((o++(a0.2.getD a.toNat Qq7).2),k.2.1,k.2.2,(a+1),a8,ax,ai) Z ⟨az,(c.mono b),af,hT,h⟩
    refine Ag h λb8 h=>Af ?_;have a3:=aw.dT 2 Z;have a4:AB q (Ha [.row j 3 1 (o).length d,.box b1 [No a0.1,va0_1] 34,.box ba2_c0 [No k.2.1] 3,.box ba2_c1 [No k.2.2] 3] O) bv:=a3.BX [3,3] Z;have ak:=Bb [3,3] a3 a4 Z;have h:=AX.again h ad;have c:=c.mono (Aa (f.trans g));have e:=e.mono (Aa (f.trans g));have hT:=hT.trans (f.trans (g.trans (s.trans (p.trans (u.trans ((fz_dT 2 Z).trans ak))))));have b:=b.trans (Aa (p.trans (u.trans ((fz_dT 2 Z).trans ak))));refine Ak (o,k.2.1,k.2.2,(a+1),j,d,ai) Z ⟨a4,(c.mono b),(e.mono b),hT,h⟩
   refine Af ?_;refine BO<|Ag h λb9 h=>Af ?_;have a5:=ae.dT 2 Z;have a6:AB q (Ha [.row j 3 1 (o).length d,.box b1 [No a0.1,va0_1] 34,.box ba2_c0 [No k.2.1] 3,.box ba2_c1 [No k.2.2] 3] O) bu:=a5.BX [3,3] Z;have al:=Bb [3,3] a5 a6 Z;have h:=AX.again h ad;have c:=c.mono (Aa (f.trans g));have e:=e.mono (Aa (f.trans g));have hT:=hT.trans (f.trans (g.trans (s.trans (p.trans ((fz_dT 2 Z).trans al)))));have b:=b.trans (Aa (p.trans ((fz_dT 2 Z).trans al)));refine Ak (o,k.2.1,k.2.2,(a+1),j,d,ai) Z ⟨a6,(c.mono b),(e.mono b),hT,h⟩
  have h:=AX.out h ad;refine Af ?_;refine Am (_,_,_,_,_) ⟨ap,e,c,hT,h⟩
 have hT:=hT.trans (an.trans ao);rintro⟨ah,ar,au,ac,z⟩ cd ⟨bx,bi,b5,hT,h⟩;refine FA 1 Z<|Ag h λbj h=>X6 (i:=0) Tryz.AeX ⟨Tryz.f93,_,func93,Z,Z⟩ Z hH bx Z bi bj λce ca bk a9 bl=>Af ?_;refine Ag h λbm h=>X7 (i:=0) Tryz.AeY ⟨Tryz.f94,_,func94,Z,Z⟩ Z hH bk Z bl bm λbz cf bn bo ba ag=>Af ?_
 cases h
 refine AD Z ?_;have bp:=bo.dT 1 Z;have hT:=hT.trans (a9.trans (ba.trans (fz_dT 1 Z)));have ag:=ag.mono (Aa (fz_dT 1 Z));exact⟨bz,bn,Z,bp,hT,ag⟩
def Ft(a0:Int×SS)(a1:Wl)(a2 a3:Int):Option RX:=
 Xd (HC a1) (λa=>if a.1=0/\a.2=0 then(if a3<a2 then Xd (Dz (4:Int) (-3:Int)) (λb=>TI ([],(b.1,b.2)))else Xd (EZ (a0.1,a0.2) a1 a2 a3) (λc=>TI (c.1,(0,0))))else TI ([],(a.1,a.2)))
section
variable(w:World)(H:PH)(hH:Le H (hp w)) include hH
theorem Qxk{a0:Int×SS}{a1:Wl}{a2 a3:Int}{a:Value}(m:As (.pair Xp (.vec (.int .i64))) H a (a0.2)){r:RX}(h:Ft a0 a1 a2 a3=TI r):
  Pd 116 [.agg #[No a0.1,a],Pg a1,No a2,No a3] w (λv w'=>∃u0,v=.tuple #[u0,.agg #[No r.2.1,No r.2.2]]/\B2 3 (.int .i64) H w w' u0 (r.1)):=by
 refine Ai 26 [(0,.agg #[No a0.1,a]),(1,(Pg a1)),(2,No a2),(3,No a3)] func116 Z λhL=>A5<|B6 (t:=34) Z Z hL λw1 b1 ae au _=>Su (t:=3) Z Z ae λw2 b2 af aw _=>Su (t:=3) Z Z af λw3 b3 ag ay _=>AK 1 Z<|Aq Av.e Z ag λw4 b4 l az _=>AR ?_;refine Ah h λj ai h=>Al l (Kt _ _ (Ae l) ai) λw6 a9 aj a4=>Aq Av.e Z aj λw7 b7 al a5 _=>Ac 0 Z al Z λw8 d a7=>Af ?_;refine AJ (A8 (λ_=>Bo _))<|AJ (I4 Ge (KO _ _ _ _))<|Ap<|Bt h ?_ ?_<;>intro am h
 ·refine BF (.q 0 (.q 1 (.tail 2))) mixed SF (λba o=>?_);have e:=d.call o;refine Bh Z (C6 0 Z Av.e e Z) Z<|Br 1 Z<|AT (λbb p=>?_);have s:=e.call p;refine Ac 1 Z s Z λbc f an=>Af ?_
  cases h
  refine AP (.tmp Z) (.cell Z QW Z Av.e (box_pT 1 f Z)) ⟨f.ext,_,Z,B2.nil⟩
 refine AR ?_;refine Ar h ?_ ?_<;>intro u h
 ·refine A5<|Ah h λbd x h=>Al d (Fi _ _ (Ae d) x) λbe a8 y ao=>AK 1 Z<|Ac 1 Z y Z λbf g ap=>Af ?_
  cases h
  refine AP (.tmp Z) (.cell Z QW Z Av.e (box_pT 1 g Z)) ⟨g.ext,_,Z,B2.nil⟩
 refine Af ?_;have z:AB w [.box b2 [No a2] 3,.box b3 [No a3] 3,.box b7 [No j.1,No j.2] 39,.box b4 [No 0,No 0] 39,.box b1 [No a0.1,a] 34] w8:=d.BX [2,3] Z;refine Ah h λbg aa h=>D5 (Qk1 (a0:=(a0.1,a0.2)) (a1:=a1) (a2_c0:=a2) (a2_c1:=a3) (O:=[.box b7 [No j.1,No j.2] 39,.box b4 [No 0,No 0] 39,.box b1 [No a0.1,a] 34]) hH z (m.mono  Ad) aa) ?_;rintro aq bh ⟨_,y25_0,rfl,ab,ar,b⟩;refine AJ (A8 (λ_=>Bo _))<|AK 1 Z<|Ac 4 Z ab Z λbi c k=>Af ?_
 cases h
 refine AP (.tmp Z) (.cell Z QW Z Av.e (box_pT 4 c Z)) ?_;have b:=b.mono (Aa k);exact⟨c.ext,_,Z,(c.Ev hH (i:=0) Z b)⟩
end
def Fu(a0:Li×SB)(a1:Wl):Option (Bool×Wl):=
 if a0.1.2.1=2 then TI (decide (a0.1.2.2.2=a1),a1)else TI (false,a1)
def Qkz{c w:World}{H:PH}(hH:Le H (hp c)){O:List Bv}{a0:Li×SB}{a1:Wl}{va0_4:Value}{ba1:Nat}{va1_0:Value}(hL:AB c (Ha [.box ba1 [va1_0] 24] O) w)(j:As (.int .i64) (gz H c w (Ha [.box ba1 [va1_0] 24] O)) va0_4 (a0.2))(a:As .byte (gz H c w (Ha [.box ba1 [va1_0] 24] O)) va1_0 a1){r:Bool×Wl}(h:Fu a0 a1=TI r):
  Ok prog 168 [.agg #[Pg a0.1.1,No a0.1.2.1,No a0.1.2.2.1,Pg a0.1.2.2.2,va0_4],SX ba1] w (λv w'=>∃(e:Value),v=.bool r.1/\AB c (Ha [.box ba1 [e] 24] O) w'/\Le (fz w (Ha [.box ba1 [va1_0] 24] O)) (fz w' (Ha [.box ba1 [e] 24] O))/\As .byte (gz H c w' (Ha [.box ba1 [e] 24] O)) e (r.2)):=by
 refine Cx (n:=16) [(0,.agg #[Pg a0.1.1,No a0.1.2.1,No a0.1.2.2.1,Pg a0.1.2.2.2,va0_4]),(1,(SX ba1))] func168 Z Z Z Z ?_;have hT:=Le.refl (fz w (Ha [.box ba1 [va1_0] 24] O));refine A5<|B6 (t:=171) Z Z hL λk l d b _=>Af ?_;refine Bl 8 h ?_ ?_<;>intro f h
 ·refine Af ?_;have a:=a.mono (Aa b);refine AJ (O3 a (Ae d))<|Aj f<|AJ (I5 Z Z)<|Af ?_
  cases h
  refine AD Z ?_;have g:=d.dT 0 Z;have hT:=hT.trans (b.trans (fz_dT 0 Z));have a:=a.mono (Aa (fz_dT 0 Z));exact⟨va1_0,Z,g,hT,a⟩
 refine Af ?_
 cases h
 refine AD Z ?_;have i:=d.dT 0 Z;have a:=a.mono (Aa (b.trans (fz_dT 0 Z)));have hT:=hT.trans (b.trans (fz_dT 0 Z));exact⟨va1_0,Z,i,hT,a⟩
def FP(a:SB)(b:Wl):Option (SB×Wl):=
 Ay (a.length<4611686018427387904) (Ay ((Ms a).length<=9223372036854775807) (TI ((Lib.compact (Ms a)),b)))
def DV(a0:Int×SS)(a1:Wl):SB×Wl×Int->Option ((SB×Wl×Int)⊕(SB×Wl)):=λ⟨c,d,a⟩=>
 if a<(a0.2.length:Int)then Ay (0<=a/\a<(a0.2.length:Int)) (Xd (Fu ((((a0.2.getD a.toNat Qq7).1).1,((a0.2.getD a.toNat Qq7).1).2.1,((a0.2.getD a.toNat Qq7).1).2.2.1,((a0.2.getD a.toNat Qq7).1).2.2.2),(a0.2.getD a.toNat Qq7).2) d) (λb=>if b.1 then Xd (Ef a1 (((a0.2.getD a.toNat Qq7).1).1)) (λe=>if e then Ay (Go.E.Dx 8 (c.length+((a0.2.getD a.toNat Qq7).2).length)) (Ay (AL (a+1)) (TI (Sum.inl ((c++(a0.2.getD a.toNat Qq7).2),b.2,(a+1)))))else Ay (AL (a+1)) (TI (Sum.inl (c,b.2,(a+1)))))else Ay (AL (a+1)) (TI (Sum.inl (c,b.2,(a+1))))))else Sh Sum.inr (FP c d)
def Jj(a0:Int×SS)(a1:Wl)(s:SB×Wl×Int):Option (SB×Wl):=Go.L.run (DV a0 a1) s
def Fa(a0:Int×SS)(a1:Wl)(a2_c0:Wl):Option (SB×Wl):=
 (Jj a0 a1) (([]:SB),a2_c0,0)
def AnB{o w:World}{H:PH}(hH:Le H (hp o)){O:List Bv}{a0:Int×SS}{a1 a2_c0:Wl}{va0_1:Value}{ba2_c0:Nat}{va2_c0_0:Value}(hL:AB o (Ha [.box ba2_c0 [va2_c0_0] 24] O) w)(ah:As (.pair Xp (.vec (.int .i64))) (gz H o w (Ha [.box ba2_c0 [va2_c0_0] 24] O)) va0_1 (a0.2))(ha2_c0_0:As .byte (gz H o w (Ha [.box ba2_c0 [va2_c0_0] 24] O)) va2_c0_0 a2_c0){r:SB×Wl}(h:Fa a0 a1 a2_c0=TI r):
  Ok prog 165 [.agg #[No a0.1,va0_1],Pg a1,.func (.func 168) #[] #[SX ba2_c0]] w (λv w'=>∃(u0:Value) (y0:LR) (u1:Value),v=u0/\AB o (Ha [.row u0 3 1 (r.1).length y0,.box ba2_c0 [u1] 24] O) w'/\Le (fz w (Ha [.box ba2_c0 [va2_c0_0] 24] O)) (fz w' (Ha [.row u0 3 1 (r.1).length y0,.box ba2_c0 [u1] 24] O))/\Ao (.int .i64) (gz H o w' (Ha [.row u0 3 1 (r.1).length y0,.box ba2_c0 [u1] 24] O)) (r.1) y0/\As .byte (gz H o w' (Ha [.row u0 3 1 (r.1).length y0,.box ba2_c0 [u1] 24] O)) u1 (r.2)):=by
 refine Cx (n:=36) [(0,.agg #[No a0.1,va0_1]),(1,(Pg a1)),(2,.func (.func 168) #[] #[SX ba2_c0])] func165 Z Z Z Z ?_;have hT:=Le.refl (fz w (Ha [.box ba2_c0 [va2_c0_0] 24] O));refine A5<|B6 (t:=34) Z Z hL ?_;intro w1 b1 ca ai _;obtain⟨bz,aj,cb⟩:=B3 (.int .i64) H 3 ca;refine Af ?_;refine AA (SB×Wl×Value×LR×Value) (λ⟨ap,az,ak,z,ac⟩=>[(7,ak)]) (λ⟨ap,az,ak,z,ac⟩ wr=>Cd o (Ha [.row ak 3 1 (ap).length z,.box b1 [No a0.1,va0_1] 34,.box ba2_c0 [ac] 24] O) wr λOz=>Ao (.int .i64) (gz H o wr Oz) ap z/\As (.pair Xp (.vec (.int .i64))) (gz H o wr Oz) va0_1 (a0.2)/\As .byte (gz H o wr Oz) ac az/\Le (fz w (Ha [.box ba2_c0 [va2_c0_0] 24] O)) (fz wr Oz)/\FP ap az=TI r) ?_ ?_
 ·have ax:=bz.rG H;have ah:=ah.mono (Aa (ai.trans aj));refine Af ?_;refine A4 ?_;obtain⟨aq,h⟩:=Ax h;have ha2_c0_0:=ha2_c0_0.mono (Aa (ai.trans aj));have hT:=hT.trans (ai.trans aj);refine AF (SB×Wl×Int×Value×LR×Value×Nat) (λ⟨f,ad,a,e,d,u,n⟩=>[(1,(Pg a1)),(2,.func (.func 168) #[] #[SX ba2_c0]),(7,e),(11,va0_1),(12,No (a0.2.length:Int)),(13,No a)]) (λ⟨f,ad,a,e,d,u,n⟩ wr=>Cd o (Ha [.row e 3 1 (f).length d,.box b1 [No a0.1,va0_1] 34,.box ba2_c0 [u] 24] O) wr λOz=>As (.pair Xp (.vec (.int .i64))) (gz H o wr Oz) va0_1 (a0.2)/\Ao (.int .i64) (gz H o wr Oz) f d/\As .byte (gz H o wr Oz) u ad/\Le (fz w (Ha [.box ba2_c0 [va2_c0_0] 24] O)) (fz wr Oz)/\D6 (DV a0 a1) n (f,ad,a)=TI r) (λ⟨f,ad,a,e,d,u,n⟩=>n) (([]:SB),a2_c0,0,TO,[],va2_c0_0,aq) Z ⟨bz,(ah.mono ax),(cb.mono ax),(ha2_c0_0.mono ax),hT,h⟩ ?_;rintro⟨f,ad,a,e,d,u,nn92⟩ ci ⟨al,p,aa,a2,hT,h⟩;obtain⟨aq,cn,rfl,h,am⟩:=Aw h;have b:=al.rG H;refine AR ?_
  refine Ar h ?_ ?_<;>intro b2 h
  ·refine AR ?_;refine Ag h λbg h=>A1 (p.mono b) a.toNat (BP bg) (An bg) ?_;rintro co _ ⟨_,_,rfl,⟨_,_,rfl,rfl,⟨_,_,rfl,rfl,⟨_,_,rfl,rfl,rfl⟩⟩⟩,⟨e97v4,rfl,e97h4⟩⟩ b3;refine AJ (AU b3 (Ae al))<|Aq LU.e Z al λcp b0 b4 x _=>Ac 0 Z b4 Z (a:=(AV Z (AV Z (AV Z (AV Z (AV e97h4.one JO)))))) λb5 a3 q=>Af ?_;have a4:AB o (Ha [.box ba2_c0 [u] 24,.box b0 [.string ⟨(((a0.2.getD a.toNat Qq7).1).1).toArray⟩,No (((a0.2.getD a.toNat Qq7).1).2.1),No (((a0.2.getD a.toNat Qq7).1).2.2.1),.string ⟨(((a0.2.getD a.toNat Qq7).1).2.2.2).toArray⟩,e97v4] 171,.row e 3 1 (f).length d,.box b1 [No a0.1,va0_1] 34] O) b5:=a3.BX [3] Z;have s:=Bb [3] a3 a4 Z;refine Ah h λay bj h=>?_;have e97h4:=e97h4.mono (Aa (x.trans (q.trans s)));have b:=b.trans (Aa (x.trans (q.trans s)))
   refine DR Z Z (Qkz (a0:=((((a0.2.getD a.toNat Qq7).1).1,((a0.2.getD a.toNat Qq7).1).2.1,((a0.2.getD a.toNat Qq7).1).2.2.1,((a0.2.getD a.toNat Qq7).1).2.2.2),(a0.2.getD a.toNat Qq7).2)) (a1:=ad) (O:=(Ha [.box b0 [.string ⟨(((a0.2.getD a.toNat Qq7).1).1).toArray⟩,No (((a0.2.getD a.toNat Qq7).1).2.1),No (((a0.2.getD a.toNat Qq7).1).2.2.1),.string ⟨(((a0.2.getD a.toNat Qq7).1).2.2.2).toArray⟩,e97v4] 171,.row e 3 1 (f).length d,.box b1 [No a0.1,va0_1] 34] O)) hH a4 e97h4 (a2.mono b) bj) ?_;rintro _ b6 ⟨k,rfl,an,g,c⟩;refine AK 1 Z<|Cf 20 h ?_ ?_<;>intro bk h
   ·refine Af ?_;refine Ah h λcj bl h=>Al an (Lv _ _ (Ae an) bl) λb7 cd a5 j=>Af ?_;refine AH h ?_ ?_<;>intro bm h
    ·refine Af ?_;refine Ag h λbn h=>?_;have e97h4:=e97h4.mono (Aa (g.trans j));have b:=b.trans (Aa (g.trans j));refine Bf (r:=(.int .i64)) 2 f ((a0.2.getD a.toNat Qq7).2) Z VV a5 Z (aa.mono b) e97h4 bn ?_;intro bh b8 a6 a7 ae bo;have y:=a7.rG H;refine Ag h λce h=>Af ?_;have a8:=a7.dT 1 Z;have a9:AB o (Ha [.row bh 3 1 ((f++(a0.2.getD a.toNat Qq7).2)).length a6,.box b1 [No a0.1,va0_1] 34,.box ba2_c0 [k] 24] O) b8:=a8.BX [2,2] Z;have ar:=Bb [2,2] a8 a9 Z;have h:=AX.again h am;have hT:=hT.trans (x.trans (q.trans (s.trans (g.trans (j.trans (ae.trans ((fz_dT 1 Z).trans ar)))))));have c:=c.mono (Aa (j.trans ae));have b:=b.trans (Aa ae);have y:=y.trans (Aa ((fz_dT 1 Z).trans ar));refine Ak ((f++(a0.2.getD a.toNat Qq7).2),ay.2,(a+1),bh,a6,k,aq) Z ⟨a9,((p.mono b).mono y),(bo.mono y),(c.mono y),hT,h⟩
    refine Ag h λcf h=>Af ?_;have ba:=a5.dT 1 Z;have bb:AB o (Ha [.row e 3 1 (f).length d,.box b1 [No a0.1,va0_1] 34,.box ba2_c0 [k] 24] O) b7:=ba.BX [2,2] Z;have af:=Bb [2,2] ba bb Z;have h:=AX.again h am;have hT:=hT.trans (x.trans (q.trans (s.trans (g.trans (j.trans ((fz_dT 1 Z).trans af))))));have b:=b.trans (Aa (g.trans (j.trans ((fz_dT 1 Z).trans af))));have c:=c.mono (Aa (j.trans ((fz_dT 1 Z).trans af)));refine Ak (f,ay.2,(a+1),e,d,k,aq) Z ⟨bb,(p.mono b),(aa.mono b),c,hT,h⟩
   refine Af ?_;refine BO<|Ag h λcg h=>Af ?_;have bc:=an.dT 1 Z;have bd:AB o (Ha [.row e 3 1 (f).length d,.box b1 [No a0.1,va0_1] 34,.box ba2_c0 [k] 24] O) b6:=bc.BX [2,2] Z;have ag:=Bb [2,2] bc bd Z;have h:=AX.again h am;have hT:=hT.trans (x.trans (q.trans (s.trans (g.trans ((fz_dT 1 Z).trans ag)))));have b:=b.trans (Aa (g.trans ((fz_dT 1 Z).trans ag)));have c:=c.mono (Aa ((fz_dT 1 Z).trans ag));refine Ak (f,ay.2,(a+1),e,d,k,aq) Z ⟨bd,(p.mono b),(aa.mono b),c,hT,h⟩
  have h:=AX.out h am;refine Af ?_;refine Am (_,_,_,_,_) ⟨al,(aa.mono b),(p.mono b),(a2.mono b),hT,h⟩
 have hT:=hT.trans (ai.trans aj);rintro⟨ap,az,ak,z,ac⟩ ck ⟨bi,bp,cc,bq,hT,h⟩;have ab:=bi.rG H;refine FA 1 Z<|Ag h λbr h=>X6 (i:=0) Tryz.AeX ⟨Tryz.f93,_,func93,Z,Z⟩ Z hH bi Z (bp.mono ab) br λcl ch bs au bt=>Af ?_;refine Ag h λbu h=>X7 (i:=0) Tryz.AeY ⟨Tryz.f94,_,func94,Z,Z⟩ Z hH bs Z bt bu λb9 cm bv bw av ao=>Af ?_
 cases h
 refine AD Z ?_;have bx:=bw.dT 1 Z;have ab:=ab.trans (Aa (au.trans (av.trans (fz_dT 1 Z))));have hT:=hT.trans (au.trans (av.trans (fz_dT 1 Z)));have ao:=ao.mono (Aa (fz_dT 1 Z));exact⟨b9,bv,ac,Z,bx,hT,ao,(bq.mono ab)⟩
def G0(a0:Int×SS)(a1:Wl)(a2:Wl):Option RX:=
 Xd (HC a1) (λa=>if a.1=0/\a.2=0 then(if 4000<(a2.length:Int)then Xd (Dz (3:Int) (-2:Int)) (λb=>TI ([],(b.1,b.2)))else Xd (Fa (a0.1,a0.2) a1 a2) (λc=>TI (c.1,(0,0))))else TI ([],(a.1,a.2)))
section
variable(w:World)(H:PH)(hH:Le H (hp w)) include hH
theorem Qjb{a0:Int×SS}{a1 a2:Wl}{a c:Value}(p:As (.pair Xp (.vec (.int .i64))) H a (a0.2))(f:As .byte H c a2){r:RX}(h:G0 a0 a1 a2=TI r):
  Pd 117 [.agg #[No a0.1,a],Pg a1,c] w (λv w'=>∃u0,v=.tuple #[u0,.agg #[No r.2.1,No r.2.2]]/\B2 3 (.int .i64) H w w' u0 (r.1)):=by
 refine Ai 24 [(0,.agg #[No a0.1,a]),(1,(Pg a1)),(2,c)] func117 Z λhL=>A5<|B6 (t:=34) Z Z hL λw1 b1 ag ax _=>Su (t:=24) Z f.one ag λw2 b2 ah az _=>AK 1 Z<|Aq Av.e Z ah λw3 b3 o a3 _=>AR ?_;refine Ah h λl aj h=>Al o (Kt _ _ (Ae o) aj) λw5 a9 ak a4=>Aq Av.e Z ak λw6 b6 am a5 _=>Ac 0 Z am Z λw7 e a7=>Af ?_;refine AJ (A8 (λ_=>Bo _))<|AJ (I4 Ge (KO _ _ _ _))<|Ap<|Bt h ?_ ?_<;>intro an h
 ·refine BF (.q 0 (.q 1 (.tail 2))) mixed SF (λba s=>?_);have g:=e.call s;refine Bh Z (C6 0 Z Av.e g Z) Z<|Br 1 Z<|AT (λbb u=>?_);have x:=g.call u;refine Ac 1 Z x Z λbc j ap=>Af ?_
  cases h
  refine AP (.tmp Z) (.cell Z QW Z Av.e (box_pT 1 j Z)) ⟨j.ext,_,Z,B2.nil⟩
 refine AR ?_;refine Ar h ?_ ?_<;>intro y h
 ·refine A5<|Ah h λbd z h=>Al e (Fi _ _ (Ae e) z) λbe a8 aa aq=>AK 1 Z<|Ac 1 Z aa Z λbf k ar=>Af ?_
  cases h
  refine AP (.tmp Z) (.cell Z QW Z Av.e (box_pT 1 k Z)) ⟨k.ext,_,Z,B2.nil⟩
 refine Af ?_;have ab:AB w [.box b2 [c] 24,.box b6 [No l.1,No l.2] 39,.box b3 [No 0,No 0] 39,.box b1 [No a0.1,a] 34] w7:=e.BX [2] Z;refine Ah h λbg ac h=>D5 (AnB (a0:=(a0.1,a0.2)) (a1:=a1) (a2_c0:=a2) (O:=[.box b6 [No l.1,No l.2] 39,.box b3 [No 0,No 0] 39,.box b1 [No a0.1,a] 34]) hH ab (p.mono  Ad) (f.mono  Ad) ac) ?_;rintro au bh ⟨_,y24_0,av,rfl,ad,aw,b,ao⟩;refine AJ (A8 (λ_=>Bo _))<|AK 1 Z<|Ac 3 Z ad Z λbi d m=>Af ?_
 cases h
 refine AP (.tmp Z) (.cell Z QW Z Av.e (box_pT 3 d Z)) ?_;have b:=b.mono (Aa m);exact⟨d.ext,_,Z,(d.Ev hH (i:=0) Z b)⟩
def He(a0:Int×Xg)(a1:Wl):Option (Wn×Zv):=
 Xd (Ho a1) (λa=>if a.1=0/\a.2=0 then Xd (DL (a0.1,a0.2) a1) (λb=>Xd (Fg b) (λc=>TI (c,(0,0))))else TI ([],(a.1,a.2)))
theorem NK(hU:E1 H){a0:Int×Xg}{a1:Wl}{a:Value}(u:As (.pair .st (.vec TD)) H a (a0.2)){r:Wn×Zv}(h:He a0 a1=TI r):
  Pd 110 [.agg #[No a0.1,a],Pg a1] w (λv w'=>∃u0,v=.tuple #[u0,.agg #[No r.2.1,No r.2.2]]/\B2 107 TD H w w' u0 (r.1)):=by
 refine Ai 18 [(0,.agg #[No a0.1,a]),(1,(Pg a1))] func110 Z λhL=>A5<|B6 (t:=31) Z Z hL λw1 b1 ae ao _=>AK 1 Z<|Aq Av.e Z ae λw2 b2 s ap _=>AR ?_;refine Ah h λx3 af h=>Al s (IS _ _ (Ae s) (hU.mono  Ad) af) λw4 aw ag aq=>Aq Av.e Z ag λw5 b5 ah ar _=>Ac 0 Z ah Z λw6 e au=>Af ?_;refine AJ (A8 (λ_=>Bo _))<|AJ (I4 Ge (KO _ _ _ _))<|Ap<|Bt h ?_ ?_<;>intro ai h
 ·refine BF (.q 0 (.q 1 (.tail 2))) mixed SF (λw9 aj=>?_);have f:=e.call aj;refine Bh Z (C6 0 Z Av.e f Z) Z<|Br 1 Z<|AT (λax x=>?_);have y:=f.call x;refine Ac 1 Z y Z λay g ak=>Af ?_
  cases h
  refine AP (.tmp Z) (.cell Z QW Z Av.e (box_pT 1 g Z)) ⟨g.ext,_,Z,B2.nil⟩
 refine Af ?_;refine Ah h λaz z h=>A9 e (Fs (a0:=(a0.1,a0.2)) _ _ (Ae e) (u.mono  Ad) z) ?_;rintro al a2 ⟨_,rfl,j⟩ aa b am;have k:=j.mono (Da e aa);refine Ah h λa3 ab h=>A9 b (Adq _ _ (Ae b) k ab) ?_;rintro an a4 ⟨_,rfl,l⟩ ac m o;obtain⟨av,m,o,c⟩:=l.take hH b ac;refine AJ (A8 (λ_=>Bo _))<|AK 1 Z<|Ac 2 Z m Z λa5 d p=>Af ?_
 cases h
 refine AP (.tmp Z) (.cell Z QW Z Av.e (box_pT 2 d Z)) ?_;have c:=c.mono (Aa p);exact⟨d.ext,_,Z,(d.Ev hH (i:=0) Z c)⟩
def Iv(a:Wn):Option (Wn×Zv):=
 TI (a,(0,0))
def Dj(a:Int)(b:Wn):Option ((Wn×Int)⊕(Wn×Zv)):=
 Ay (AL (a+1)) (TI (Sum.inl (b,(a+1))))
def Gb(c:Wn)(a:Int)(b:Wn):Option ((Wn×Int)⊕(Wn×Zv)):=
 Ay (Go.E.Dx 16 (c.length+([((b.getD a.toNat Qq7).1,(b.getD a.toNat Qq7).2)]).length)) ((Dj a) (c++[((b.getD a.toNat Qq7).1,(b.getD a.toNat Qq7).2)]))
def C4(a0:Int×Xg)(a1:List Wl)(d:Wn)(b:Int)(c:Wn):Int->Option ((Int)⊕((Wn×Int)⊕(Wn×Zv))):=λa=>
 if a<(a1.length:Int)then Ay (0<=a/\a<(a1.length:Int)) (Ay (AL ((c.getD b.toNat Qq7).2+a)) (Xd (DL (a0.1,a0.2) (a1.getD a.toNat Qq7)) (λe=>Xd (CJ e ((c.getD b.toNat Qq7).1,((c.getD b.toNat Qq7).2+a))) (λf=>if !f then Sh Sum.inr ((Dj b) d)else Ay (AL (a+1)) (TI (Sum.inl (a+1)))))))else Sh Sum.inr ((Gb d b c))
def Md(a0:Int×Xg)(a1:List Wl)(b:Wn)(a:Int)(c:Wn)(s:Int):Option ((Wn×Int)⊕(Wn×Zv)):=Go.L.run (C4 a0 a1 b a c) s
def CW(a0:Int×Xg)(a1:List Wl)(b:Wn):Wn×Int->Option ((Wn×Int)⊕(Wn×Zv)):=λ⟨c,a⟩=>
 if a<(b.length:Int)then Ay (0<=a/\a<(b.length:Int)) ((Md a0 a1 c a b) (0:Int))else Sh Sum.inr (Iv c)
def Me(a0:Int×Xg)(a1:List Wl)(a:Wn)(s:Wn×Int):Option (Wn×Zv):=Go.L.run (CW a0 a1 a) s
def Iw(a0:Int×Xg)(a1:List Wl):Option (Wn×Zv):=
 Ay (0<=(0:Int)/\(0:Int)<(a1.length:Int)) (Xd (DL (a0.1,a0.2) (a1.getD ((0:Int).toNat) Qq7)) (λa=>(Me a0 a1 a) (([]:Wn),0)))
def CX(a0:Int×Xg)(a1:List Wl):Int->Option ((Int)⊕(Wn×Zv)):=λa=>
 if a<(a1.length:Int)then Ay (0<=a/\a<(a1.length:Int)) (Xd (Ho (a1.getD a.toNat Qq7)) (λb=>if b.1=0/\b.2=0 then Ay (AL (a+1)) (TI (Sum.inl (a+1)))else Xd (DG b.1 a) (λc=>Sh Sum.inr (TI ([],(c.1,c.2))))))else Sh Sum.inr ((Iw a0 a1))
def Mf(a0:Int×Xg)(a1:List Wl)(s:Int):Option (Wn×Zv):=Go.L.run (CX a0 a1) s
def E3(a0:Int×Xg)(a1:List Wl):Option (Wn×Zv):=
 if(a1.length:Int)=0 then Xd (DG (10:Int) (-1:Int)) (λb=>TI ([],(b.1,b.2)))else(if 16<(a1.length:Int)then Xd (DG (2:Int) (-1:Int)) (λa=>TI ([],(a.1,a.2)))else(Mf a0 a1) (0:Int))
theorem Qzk(hU:E1 H){a0:Int×Xg}{a1:List Wl}{s o:Value}(bw:As (.pair .st (.vec TD)) H s (a0.2))(bb:As .st H o a1){r:Wn×Zv}(h:E3 a0 a1=TI r):
  Pd 112 [.agg #[No a0.1,s],o] w (λv w'=>∃u0,v=.tuple #[u0,.agg #[No r.2.1,No r.2.2]]/\B2 107 TD H w w' u0 (r.1)):=by
 refine Ai 76 [(0,.agg #[No a0.1,s]),(1,o)] func112 Z λhL=>A5<|B6 (t:=31) Z Z hL λw1 b1 dk d7 _=>AK 1 Z<|Aq Av.e Z dk λw2 b2 a8 d8 _=>Ap<|X0<|AR ?_;refine Ar h ?_ ?_<;>intro dl h
 ·refine A5<|Ah h λx5 dm h=>Al a8 (C7 _ _ (Ae a8) dm) λw6 ey dn d9=>AK 1 Z<|Ac 0 Z dn Z λw7 c1 ea=>Af ?_;refine EA ?_
  cases h
  refine AP (.tmp Z) (.cell Z QW Z Av.e (box_pT 0 c1 Z)) ⟨c1.ext,_,Z,B2.nil⟩
 refine AR ?_;refine Ar h ?_ ?_<;>intro dp h
 ·refine A5<|Ah h λez c3 h=>Al a8 (C7 _ _ (Ae a8) c3) λe0 eb c4 dr=>AK 1 Z<|Ac 0 Z c4 Z λe1 bx ds=>Af ?_;refine EA ?_
  cases h
  refine AP (.tmp Z) (.cell Z QW Z Av.e (box_pT 0 bx Z)) ⟨bx.ext,_,Z,B2.nil⟩
 refine Af ?_;refine AA Unit (λ(_:Unit)=>[(1,o),(2,(SX b1)),(5,(SX b2))]) (λ(_:Unit) wr=>AB w [.box b2 [No 0,No 0] 39,.box b1 [No a0.1,s] 31] wr/\(Iw a0 a1)=TI r) ?_ ?_
 ·refine Af ?_;refine A4 ?_;obtain⟨bz,h⟩:=Ax h;refine AF (Int×Nat) (λ⟨p,n⟩=>[(1,o),(2,(SX b1)),(5,(SX b2)),(22,o),(23,No (a1.length:Int)),(24,No p)]) (λ⟨p,n⟩ wr=>AB w [.box b2 [No 0,No 0] 39,.box b1 [No a0.1,s] 31] wr/\D6 (CX a0 a1) n p=TI r) (λ⟨p,n⟩=>n) (0,bz) Z ⟨a8,h⟩ ?_;rintro⟨p,nn71⟩ ec ⟨av,h⟩;obtain⟨bz,e2,rfl,h,bc⟩:=Aw h;refine AR ?_;refine Ar h ?_ ?_<;>intro c5 h
  ·refine AR ?_;refine Ag h λb0 h=>A1 bb p.toNat (BP b0) (An b0) ?_;rintro e3 _ rfl c6;refine sH c6 (hH.trans av.arg)<|Af ?_;refine Ah h λe4 c7 h=>Al av (IS _ _ (Ae av) (hU.mono  Ad) c7) λe5 ed c8 dt=>Aq Av.e Z c8 λe6 e7 c9 du _=>Ac 0 Z c9 Z λe8 bd dv=>Af ?_;refine AJ (A8 (λ_=>Bo _))<|AJ (I4 Ge (KO _ _ _ _))<|Ap<|Bt h ?_ ?_<;>intro da h
   ·refine Af ?_;refine Ah h λe9 db h=>Al bd (C7 _ _ (Ae bd) db) λfa ee dc dw=>AK 1 Z<|Ac 1 Z dc Z ?_;intro fb b3 dx;have h:=AX.out h bc;refine Af ?_;refine EA ?_
    cases h
    refine AP (.tmp Z) (.cell Z QW Z Av.e (box_pT 1 b3 Z)) ⟨b3.ext,_,Z,B2.nil⟩
   refine Ag h λef h=>Af ?_;have dd:=bd.dT 0 Z;have h:=AX.again h bc;refine Ak (_,_) Z ⟨dd,h⟩
  have h:=AX.out h bc;refine Af ?_;refine Am () ⟨av,h⟩
 rintro _ eg ⟨de,h⟩;obtain⟨b4,dy,be⟩:=B3 TD H 107 de;refine Af ?_;refine PW<|Ae9<|VA<|AA (Wn×Value×LR) (λ⟨ap,al,ab⟩=>[(5,(SX b2)),(9,al)]) (λ⟨ap,al,ab⟩ wr=>Cd w [.row al 107 2 (ap).length ab,.box b2 [No 0,No 0] 39,.box b1 [No a0.1,s] 31] wr λOz=>Ao TD (gz H w wr Oz) ap ab/\Iv ap=TI r) ?_ ?_
 ·refine BF (Zt 0 4 (.q 6 (.h 4 (.q 5 (.tail 7))))) mixed SF (λeh bi=>?_);have ac:=b4.call bi;have b5:=A3 b4 bi;refine Bh Z (C6 2 Z O7.e ac Z) Z<|Br 1 Z<|Ag h λbj h=>Cj Z Z Z Jk bb ((0:Int).toNat) (BP bj) (An bj) Z ?_;rintro ei _ rfl cd;refine Bh Z (B5 cd (hH.trans ac.arg)) Z<|Br 1 Z<|Ah h λc ce h=>BK Z Z Z (λdf am=>Fs _ _ (Ae (ac.call am)) (bw.mono  Ad) ce) ?_;rintro df k ej am aw ⟨_,rfl,bs⟩;have ax:=ac.call am;have b6:=A3 ac am;have bk:=ax.call aw;have b7:=A3 ax aw;have x:=bs.mono (Da ax aw);refine Bh Z (W2 x) Z<|AT (λek bl=>?_);have cf:=bk.call bl;have a9:=A3 bk bl;refine Ap<|A4 ?_;obtain⟨bf,h⟩:=Ax h;have be:=be.mono (Aa (b5.trans (b6.trans (b7.trans a9))));have x:=x.mono (Aa a9)
  refine AF (Wn×Int×Value×LR×Nat) (λ⟨e,a,f,d,n⟩=>[(1,o),(2,(SX b1)),(5,(SX b2)),(9,f),(43,k),(44,No (c.length:Int)),(45,No a)]) (λ⟨e,a,f,d,n⟩ wr=>Cd w [.row f 107 2 (e).length d,.box b2 [No 0,No 0] 39,.box b1 [No a0.1,s] 31] wr λOz=>As TD (gz H w wr Oz) k c/\Ao TD (gz H w wr Oz) e d/\D6 (CW a0 a1 c) n (e,a)=TI r) (λ⟨e,a,f,d,n⟩=>n) (([]:Wn),0,TO,[],bf) Z ⟨cf,x,be,h⟩ ?_;rintro⟨e,a,f,d,nn294⟩ dz ⟨ay,y,b,h⟩;obtain⟨bf,bg,rfl,h,bm⟩:=Aw h;refine AR ?_;refine Ar h ?_ ?_<;>intro cg h
  ·refine Af ?_;refine AA (Wn×Value×LR) (λ⟨aj,ad,u⟩=>[(1,o),(2,(SX b1)),(5,(SX b2)),(9,ad),(43,k),(44,No (c.length:Int)),(45,No a)]) (λ⟨aj,ad,u⟩ wr=>Cd w [.row ad 107 2 (aj).length u,.box b2 [No 0,No 0] 39,.box b1 [No a0.1,s] 31] wr λOz=>As TD (gz H w wr Oz) k c/\Ao TD (gz H w wr Oz) aj u/\(Dj a) aj=TI bg) ?_ ?_
   ·refine AR ?_;refine Ag h λbn h=>A1 y a.toNat (BP bn) (An bn) ?_;rintro el _ ⟨_,_,rfl,rfl,rfl⟩ ch;refine AJ (AU ch (Ae ay))<|Aq F1.e Z ay λem az ci aq _=>Ac 0 Z ci Z λen cj ar=>Ap<|AA Unit (λ(_:Unit)=>[(1,o),(2,(SX b1)),(5,(SX b2)),(9,f),(11,(SX az)),(43,k),(44,No (c.length:Int)),(45,No a)]) (λ(_:Unit) wr=>Cd w [.box az [No ((c.getD a.toNat Qq7).1),No ((c.getD a.toNat Qq7).2)] 107,.row f 107 2 (e).length d,.box b2 [No 0,No 0] 39,.box b1 [No a0.1,s] 31] wr λOz=>As TD (gz H w wr Oz) k c/\Ao TD (gz H w wr Oz) e d/\(Gb e a c)=TI bg) ?_ ?_
    ·refine Af ?_;refine A4 ?_;obtain⟨bh,h⟩:=Ax h;have y:=y.mono (Aa (aq.trans ar));have b:=b.mono (Aa (aq.trans ar));refine AF (Int×Nat) (λ⟨g,n⟩=>[(1,o),(2,(SX b1)),(5,(SX b2)),(9,f),(11,(SX az)),(43,k),(44,No (c.length:Int)),(45,No a),(49,o),(50,No (a1.length:Int)),(51,No g)]) (λ⟨g,n⟩ wr=>Cd w [.box az [No ((c.getD a.toNat Qq7).1),No ((c.getD a.toNat Qq7).2)] 107,.row f 107 2 (e).length d,.box b2 [No 0,No 0] 39,.box b1 [No a0.1,s] 31] wr λOz=>As TD (gz H w wr Oz) k c/\Ao TD (gz H w wr Oz) e d/\D6 (C4 a0 a1 e a c) n g=TI bg) (λ⟨g,n⟩=>n) (0,bh) Z ⟨cj,y,b,h⟩ ?_;rintro⟨g,nn425⟩ d0 ⟨an,j,b,h⟩;obtain⟨bh,eo,rfl,h,a2⟩:=Aw h;refine AR ?_;refine Ar h ?_ ?_<;>intro ck h
     ·refine AR ?_;refine Ag h λbo h=>A1 bb g.toNat (BP bo) (An bo) ?_;rintro ep _ rfl cl;refine sH cl (hH.trans an.arg)<|BJ 2 Z<|BF (.q 0 (.q 1 (Zt 3 7 (.h 2 (.q 10 (.q 11 (.tail 12))))))) mixed SF (λeq bp=>?_);have z:=an.call bp;have ae:=A3 an bp;refine Bh Z (C6 3 Z O7.e z Z) Z<|Br 1 Z<|Bh Z (A7 Z Z6 Z DW.e) Z<|Bh Z (AG 0 Z z Z) Z<|Bh Z (A7 Z Z6 Z DW.e) Z<|Bh Z (AG 0 Z z Z) Z<|Br 1 Z<|Ag h λcm h=>Bh Z (Gq cm) Z<|Bh Z (A8 (λ_=>Uq _ _ _)) Z<|Ah h λer cn h=>BK Z Z Z (λdg ao=>Fs _ _ (Ae (z.call ao)) (bw.mono  Ad) cn) ?_;rintro dg dq dh ao a3 ⟨_,rfl,bt⟩;have a4:=z.call ao;have af:=A3 z ao;have a5:=a4.call a3;have ag:=A3 a4 a3;have bu:=bt.mono (Da a4 a3);refine Ah h λes co h=>?_
      have b8:=(λ(b9:World) (cp:Ext dh b9)=>Qxy b9 _ (Le.refl _) ((bu.mono (Ae a5)).mono cp.le) co);refine DY Z Z Z b8<|Br 1 Z<|AT (λet bq=>?_);have br:=a5.call bq;have ah:=A3 a5 bq;refine Ap<|AH h ?_ ?_<;>intro cq h
      ·have h:=AX.out h a2;refine Af ?_;have cr:=br.dT 0 Z;have j:=j.mono (Aa (ae.trans (af.trans (ag.trans (ah.trans (fz_dT 0 Z))))));have b:=b.mono (Aa (ae.trans (af.trans (ag.trans (ah.trans (fz_dT 0 Z))))));refine Am (_,_,_) ⟨cr,j,b,h⟩
      refine Ag h λd1 h=>Af ?_;have h:=AX.again h a2;have j:=j.mono (Aa (ae.trans (af.trans (ag.trans ah))));have b:=b.mono (Aa (ae.trans (af.trans (ag.trans ah))));refine Ak (_,_) Z ⟨br,j,b,h⟩
     have h:=AX.out h a2;refine Af ?_;refine Am () ⟨an,j,b,h⟩
    have b:=b.mono (Aa (aq.trans ar));rintro _ d2 ⟨cs,ak,b,h⟩;refine Af ?_;refine Bi [((c.getD a.toNat Qq7).1,(c.getD a.toNat Qq7).2)] (r:=TD) (λ_=>AaR _ _ _) cs (.c2 ⟨_,_,Z,Z,Z⟩ .nil) λeu ev d3 ct ba cu=>Ag h λcv h=>?_;have b:=b.mono (Aa ba);refine Bf (r:=TD) 1 e [((c.getD a.toNat Qq7).1,(c.getD a.toNat Qq7).2)] Z PT ct Z b cu cv λdi ew cw cx ca a6=>Af ?_;have cy:=cx.dT 0 Z;have ak:=ak.mono (Aa (ba.trans (ca.trans (fz_dT 0 Z))));have a6:=a6.mono (Aa (fz_dT 0 Z));refine Am (_,_,_) ⟨cy,ak,a6,h⟩
   rintro⟨aj,ad,u⟩ d4 ⟨cz,bv,cb,h⟩;refine Ag h λd5 h=>Af ?_;have h:=AX.again h bm;refine Ak (_,_,_,_,_) Z ⟨cz,bv,cb,h⟩
  have h:=AX.out h bm;refine Af ?_;refine Am (_,_,_) ⟨ay,b,h⟩
 rintro⟨ap,al,ab⟩ d6 ⟨c0,au,h⟩;refine FA 1 Z<|AJ (A8 (λ_=>Bo _))<|AK 1 Z<|Ac 1 Z c0 Z λex a7 cc=>Af ?_;refine EA ?_
 cases h
 refine AP (.tmp Z) (.cell Z QW Z Av.e (box_pT 1 a7 Z)) ?_;have au:=au.mono (Aa cc);exact⟨a7.ext,_,Z,(a7.Ev hH (i:=0) Z au)⟩
end
def FQ(a0:Int×Int)(a1:Int×Int)(a2:Int):Option (Bool×Zv×Int):=
 Ay (AL (a1.2 - a0.2)) (Ay (AL (a0.2 - a1.2)) (if(a1.1=a0.1)/\(0<(max (a1.2 - a0.2) (a0.2 - a1.2)))then TI (decide ((max (a1.2 - a0.2) (a0.2 - a1.2))<=a2),(a1.1,a1.2),a2)else TI (false,(a1.1,a1.2),a2)))
def Qza{c w:World}{H:PH}(_hH:Le H (hp c)){O:List Bv}{a0 a1:Int×Int}{a2:Int}{ba1 ba2:Nat}(hL:AB c (Ha [.box ba1 [No a1.1,No a1.2] 107,.box ba2 [No a2] 3] O) w){r:Bool×Zv×Int}(h:FQ a0 a1 a2=TI r):
  Ok prog 163 [.agg #[No a0.1,No a0.2],SX ba1,SX ba2] w (λv w'=>v=.bool r.1/\AB c (Ha [.box ba1 [No r.2.1.1,No r.2.1.2] 107,.box ba2 [No r.2.2] 3] O) w'/\Le (fz w (Ha [.box ba1 [No a1.1,No a1.2] 107,.box ba2 [No a2] 3] O)) (fz w' (Ha [.box ba1 [No r.2.1.1,No r.2.1.2] 107,.box ba2 [No r.2.2] 3] O))):=by
 refine Cx (n:=31) [(0,.agg #[No a0.1,No a0.2]),(1,(SX ba1)),(2,(SX ba2))] func163 Z Z Z Z ?_;have hT:=Le.refl (fz w (Ha [.box ba1 [No a1.1,No a1.2] 107,.box ba2 [No a2] 3] O));refine A5<|B6 (t:=107) Z Z hL λj k b a _=>Ag h λg h=>Ag h λi h=>Af ?_;refine AJ (AgT Z Z)<|Af ?_;refine NC 2 5 Z Z Z Z Z Z<|AK 1 Z<|Bl 26 h ?_ ?_<;>intro d h
 ·refine Af ?_
  cases h
  refine AD Z ?_;have e:=b.dT 0 Z;have hT:=hT.trans (a.trans (fz_dT 0 Z));exact⟨Z,e,hT⟩
 refine Af ?_
 cases h
 refine AD Z ?_;have f:=b.dT 0 Z;have hT:=hT.trans (a.trans (fz_dT 0 Z));exact⟨Z,f,hT⟩
def Dw(a b c:Int):Option (Int×Zv×Int):=
 TI ((-1),(a,b),c)
def Bn(a0:Wn):Int×Int×Int×Int->Option ((Int×Int×Int×Int)⊕(Int×Zv×Int)):=λ⟨c,d,e,a⟩=>
 if a<(a0.length:Int)then Ay (0<=a/\a<(a0.length:Int)) (Xd (FQ ((a0.getD a.toNat Qq7).1,(a0.getD a.toNat Qq7).2) (c,d) e) (λb=>if b.1 then Sh Sum.inr (TI (a,(b.2.1.1,b.2.1.2),b.2.2))else Ay (AL (a+1)) (TI (Sum.inl (b.2.1.1,b.2.1.2,b.2.2,(a+1))))))else Sh Sum.inr (Dw c d e)
def AhL(a0:Wn)(s:Int×Int×Int×Int):Option (Int×Zv×Int):=Go.L.run (Bn a0) s
def Eh(a0:Wn)(a1_c0:Int×Int)(a1_c1:Int):Option (Int×Zv×Int):=
 (AhL a0) (a1_c0.1,a1_c0.2,a1_c1,0)
def Qku{g w:World}{H:PH}(hH:Le H (hp g)){O:List Bv}{a0:Wn}{a1_c0:Int×Int}{a1_c1:Int}{va0:Value}{ba1_c0 ba1_c1:Nat}(hL:AB g (Ha [.box ba1_c0 [No a1_c0.1,No a1_c0.2] 107,.box ba1_c1 [No a1_c1] 3] O) w)(aa:As TD (gz H g w (Ha [.box ba1_c0 [No a1_c0.1,No a1_c0.2] 107,.box ba1_c1 [No a1_c1] 3] O)) va0 a0){r:Int×Zv×Int}(h:Eh a0 a1_c0 a1_c1=TI r):
  Ok prog 213 [va0,.func (.func 163) #[] #[SX ba1_c0,SX ba1_c1]] w (λv w'=>v=No r.1/\AB g (Ha [.box ba1_c0 [No r.2.1.1,No r.2.1.2] 107,.box ba1_c1 [No r.2.2] 3] O) w'/\Le (fz w (Ha [.box ba1_c0 [No a1_c0.1,No a1_c0.2] 107,.box ba1_c1 [No a1_c1] 3] O)) (fz w' (Ha [.box ba1_c0 [No r.2.1.1,No r.2.1.2] 107,.box ba1_c1 [No r.2.2] 3] O))):=by
 refine Cx (n:=19) [(0,va0),(1,.func (.func 163) #[] #[SX ba1_c0,SX ba1_c1])] func213 Z Z Z Z ?_;have hT:=Le.refl (fz w (Ha [.box ba1_c0 [No a1_c0.1,No a1_c0.2] 107,.box ba1_c1 [No a1_c1] 3] O));refine Bx 1 Z<|AA (Int×Int×Int) (λ⟨k,l,m⟩=>[]) (λ⟨k,l,m⟩ wr=>Cd g (Ha [.box ba1_c0 [No k,No l] 107,.box ba1_c1 [No m] 3] O) wr λOz=>Le (fz w (Ha [.box ba1_c0 [No a1_c0.1,No a1_c0.2] 107,.box ba1_c1 [No a1_c1] 3] O)) (fz wr Oz)/\Dw k l m=TI r) ?_ ?_
 ·refine Af ?_;refine A4 ?_;obtain⟨o,h⟩:=Ax h;refine AF (Int×Int×Int×Int×Nat) (λ⟨c,d,e,a,n⟩=>[(0,va0),(1,.func (.func 163) #[] #[SX ba1_c0,SX ba1_c1]),(7,No (a0.length:Int)),(8,No a)]) (λ⟨c,d,e,a,n⟩ wr=>Cd g (Ha [.box ba1_c0 [No c,No d] 107,.box ba1_c1 [No e] 3] O) wr λOz=>As TD (gz H g wr Oz) va0 a0/\Le (fz w (Ha [.box ba1_c0 [No a1_c0.1,No a1_c0.2] 107,.box ba1_c1 [No a1_c1] 3] O)) (fz wr Oz)/\D6 (Bn a0) n (c,d,e,a)=TI r) (λ⟨c,d,e,a,n⟩=>n) (a1_c0.1,a1_c0.2,a1_c1,0,o) Z ⟨hL,aa,hT,h⟩ ?_;rintro⟨c,d,e,a,nn51⟩ ab ⟨i,b,hT,h⟩;obtain⟨o,ae,rfl,h,j⟩:=Aw h;refine AR ?_;refine Ar h ?_ ?_<;>intro t h
  ·refine AR ?_;refine Ag h λp h=>A1 b a.toNat (BP p) (An p) ?_;rintro af _ ⟨_,_,rfl,rfl,rfl⟩ u;refine AJ (AU u (Ae i))<|Ah h λq x h=>DR Z Z (Qza (a0:=((a0.getD a.toNat Qq7).1,(a0.getD a.toNat Qq7).2)) (a1:=(c,d)) (a2:=e) (O:=(Ha [] O)) hH i x) ?_;rintro _ ag ⟨rfl,s,f⟩;refine Ap<|AH h ?_ ?_<;>intro y h
   ·have h:=AX.out h j;refine Af ?_
    cases h
    refine AD Z ?_;have hT:=hT.trans f;exact⟨Z,s,hT⟩
   refine Ag h λac h=>Af ?_;have h:=AX.again h j;have b:=b.mono (Aa f);have hT:=hT.trans f;refine Ak (_,_,_,_,_) Z ⟨s,b,hT,h⟩
  have h:=AX.out h j;refine Af ?_;refine Am (_,_,_) ⟨i,hT,h⟩
 rintro⟨k,l,m⟩ ad ⟨z,hT,h⟩;refine Af ?_
 cases h
 refine AD Z ⟨Z,z,hT⟩
def BQ(a0:Wn)(a1_c0:Int×Int)(a1_c1:Int):Option (Bool×Zv×Int):=
 Xd (Eh a0 (a1_c0.1,a1_c0.2) a1_c1) (λa=>TI (decide (0<=a.1),(a.2.1.1,a.2.1.2),a.2.2))
def Adp{a w:World}{H:PH}(hH:Le H (hp a)){O:List Bv}{a0:Wn}{a1_c0:Int×Int}{a1_c1:Int}{va0:Value}{ba1_c0 ba1_c1:Nat}(hL:AB a (Ha [.box ba1_c0 [No a1_c0.1,No a1_c0.2] 107,.box ba1_c1 [No a1_c1] 3] O) w)(c:As TD (gz H a w (Ha [.box ba1_c0 [No a1_c0.1,No a1_c0.2] 107,.box ba1_c1 [No a1_c1] 3] O)) va0 a0){r:Bool×Zv×Int}(h:BQ a0 a1_c0 a1_c1=TI r):
  Ok prog 162 [va0,.func (.func 163) #[] #[SX ba1_c0,SX ba1_c1]] w (λv w'=>v=.bool r.1/\AB a (Ha [.box ba1_c0 [No r.2.1.1,No r.2.1.2] 107,.box ba1_c1 [No r.2.2] 3] O) w'/\Le (fz w (Ha [.box ba1_c0 [No a1_c0.1,No a1_c0.2] 107,.box ba1_c1 [No a1_c1] 3] O)) (fz w' (Ha [.box ba1_c0 [No r.2.1.1,No r.2.1.2] 107,.box ba1_c1 [No r.2.2] 3] O))):=by
 refine Cx (n:=9) [(0,va0),(1,.func (.func 163) #[] #[SX ba1_c0,SX ba1_c1])] func162 Z Z Z Z ?_;have hT:=Le.refl (fz w (Ha [.box ba1_c0 [No a1_c0.1,No a1_c0.2] 107,.box ba1_c1 [No a1_c1] 3] O));refine Af ?_;refine Ah h λf d h=>D5 (Qku (a0:=a0) (a1_c0:=(a1_c0.1,a1_c0.2)) (a1_c1:=a1_c1) (O:=(Ha [] O)) hH hL c d) ?_;rintro _ g ⟨rfl,e,b⟩;refine Af ?_
 cases h
 refine AD Z ?_;have hT:=hT.trans b;exact⟨Z,e,hT⟩
def JJ(a:SB)(_c100:Int):Option RX:=
 TI (a,(0,0))
def DO(a0:Int×Xg)(a2:Wl)(d:Wn):SB×Int×Int->Option (SU⊕RX):=λ⟨c,e,a⟩=>
 if a<(d.length:Int)then Ay (0<=a/\a<(d.length:Int)) (Xd (DL (a0.1,a0.2) a2) (λf=>Xd (BQ f ((d.getD a.toNat Qq7).1,(d.getD a.toNat Qq7).2) e) (λb=>if b.1 then Xd (By c b.2.1.1) (λg=>if !g then Ay (Go.E.Dx 8 (c.length+([b.2.1.1]).length)) (Ay (AL (a+1)) (TI (Sum.inl ((c++[b.2.1.1]),b.2.2,(a+1)))))else Ay (AL (a+1)) (TI (Sum.inl (c,b.2.2,(a+1)))))else Ay (AL (a+1)) (TI (Sum.inl (c,b.2.2,(a+1)))))))else Sh Sum.inr (JJ c e)
def Qjw(a0:Int×Xg)(a2:Wl)(a:Wn)(s:SU):Option RX:=Go.L.run (DO a0 a2 a) s
def F8(a0:Int×Xg)(a1:Wl)(a2:Wl)(a3:Int):Option RX:=
 Xd (Ho a1) (λb=>if b.1=0/\b.2=0 then Xd (Ho a2) (λa=>if a.1=0/\a.2=0 then(if a3<1 then Xd (DG (4:Int) (-3:Int)) (λc=>TI ([],(c.1,c.2)))else if 2048<a3 then Xd (DG (4:Int) (-3:Int)) (λd=>TI ([],(d.1,d.2)))else Xd (DL (a0.1,a0.2) a1) (λf=>(Qjw a0 a2 f) (([]:SB),a3,0)))else Xd (DG a.1 (-2:Int)) (λe=>TI ([],(e.1,e.2))))else TI ([],(b.1,b.2)))
section
variable(w:World)(H:PH)(hH:Le H (hp w)) include hH
theorem Qxe(hU:E1 H){a0:Int×Xg}{a1 a2:Wl}{a3:Int}{k:Value}(bt:As (.pair .st (.vec TD)) H k (a0.2)){r:RX}(h:F8 a0 a1 a2 a3=TI r):
  Pd 113 [.agg #[No a0.1,k],Pg a1,Pg a2,No a3] w (λv w'=>∃u0,v=.tuple #[u0,.agg #[No r.2.1,No r.2.2]]/\B2 3 (.int .i64) H w w' u0 (r.1)):=by
 refine Ai 66 [(0,.agg #[No a0.1,k]),(1,(Pg a1)),(2,(Pg a2)),(3,No a3)] func113 Z λhL=>A5<|B6 (t:=31) Z Z hL λw1 b1 dd d3 _=>Su (t:=3) Z Z dd λw2 b2 de d4 _=>AK 1 Z<|Aq Av.e Z de λw3 b3 cs d5 _=>AR ?_;refine Ah h λo df h=>Al cs (IS _ _ (Ae cs) (hU.mono  Ad) df) λw5 em dg d6=>Aq Av.e Z dg λw6 b6 dh d7 _=>Ac 0 Z dh Z λw7 bu d8=>Af ?_;refine AJ (A8 (λ_=>Bo _))<|AJ (I4 Ge (KO _ _ _ _))<|Ap<|Bt h ?_ ?_<;>intro di h
 ·refine BF (.q 0 (.q 1 (.tail 2))) mixed SF (λen ct=>?_);have bv:=bu.call ct;refine Bh Z (C6 0 Z Av.e bv Z) Z<|Br 1 Z<|AT (λeo cu=>?_);have cv:=bv.call cu;refine Ac 1 Z cv Z λep bw dk=>Af ?_
  cases h
  refine AP (.tmp Z) (.cell Z QW Z Av.e (box_pT 1 bw Z)) ⟨bw.ext,_,Z,B2.nil⟩
 refine AR ?_;refine Ah h λg cw h=>Al bu (IS _ _ (Ae bu) (hU.mono  Ad) cw) λeq d9 cx dl=>Aq Av.e Z cx λer aa cy dm _=>Ac 0 Z cy Z λes ab dn=>Af ?_;refine AJ (A8 (λ_=>Bo _))<|AJ (I4 Ge (KO _ _ _ _))<|Ap<|Bt h ?_ ?_<;>intro cz h
 ·refine Af ?_;refine Ah h λet c0 h=>Al ab (C7 _ _ (Ae ab) c0) λeu ea c2 dp=>AK 1 Z<|Ac 2 Z c2 Z λev bx dq=>Af ?_
  cases h
  refine AP (.tmp Z) (.cell Z QW Z Av.e (box_pT 2 bx Z)) ⟨bx.ext,_,Z,B2.nil⟩
 refine AR ?_;refine Bl 32 h ?_ ?_<;>intro c3 h
 ·refine Af ?_;refine Cm<|A5<|Ah h λew c4 h=>Al ab (C7 _ _ (Ae ab) c4) λex eb c5 dr=>AK 1 Z<|Ac 2 Z c5 Z λey bz ds=>Af ?_
  cases h
  refine AP (.tmp Z) (.cell Z QW Z Av.e (box_pT 2 bz Z)) ⟨bz.ext,_,Z,B2.nil⟩
 refine Af ?_;refine Ar h ?_ ?_<;>intro c6 h
 ·refine A5<|Ah h λez c7 h=>Al ab (C7 _ _ (Ae ab) c7) λe0 ec c8 dt=>AK 1 Z<|Ac 2 Z c8 Z λe1 b0 du=>Af ?_
  cases h
  refine AP (.tmp Z) (.cell Z QW Z Av.e (box_pT 2 b0 Z)) ⟨b0.ext,_,Z,B2.nil⟩
 obtain⟨bd,dv,be⟩:=B3 (.int .i64) H 3 ab;refine Af ?_;refine AA (SB×Int×Value×LR) (λ⟨a4,am,an,ag⟩=>[(9,(SX b3)),(12,an)]) (λ⟨a4,am,an,ag⟩ wr=>Cd w [.row an 3 1 (a4).length ag,.box aa [No g.1,No g.2] 39,.box b6 [No o.1,No o.2] 39,.box b3 [No 0,No 0] 39,.box b2 [No am] 3,.box b1 [No a0.1,k] 31] wr λOz=>Ao (.int .i64) (gz H w wr Oz) a4 ag/\JJ a4 am=TI r) ?_ ?_
 ·refine Af ?_;refine Ah h λac cb h=>A9 bd (Fs (a0:=(a0.1,a0.2)) _ _ (Ae bd) (bt.mono  Ad) cb) ?_;rintro a5 ed ⟨_,rfl,bq⟩ cc cd b4;have br:=bq.mono (Da bd cc);refine Af ?_;refine A4 ?_;obtain⟨aj,h⟩:=Ax h;have be:=be.mono (Aa b4);refine AF (SB×Int×Int×Value×LR×Nat) (λ⟨d,s,a,f,b,n⟩=>[(2,(Pg a2)),(4,(SX b1)),(7,(SX b2)),(9,(SX b3)),(12,f),(39,a5),(40,No (ac.length:Int)),(41,No a)]) (λ⟨d,s,a,f,b,n⟩ wr=>Cd w [.row f 3 1 (d).length b,.box aa [No g.1,No g.2] 39,.box b6 [No o.1,No o.2] 39,.box b3 [No 0,No 0] 39,.box b2 [No s] 3,.box b1 [No a0.1,k] 31] wr λOz=>As TD (gz H w wr Oz) a5 ac/\Ao (.int .i64) (gz H w wr Oz) d b/\D6 (DO a0 a2 ac) n (d,s,a)=TI r) (λ⟨d,s,a,f,b,n⟩=>n) (([]:SB),a3,0,TO,[],aj) Z ⟨cd,br,be,h⟩ ?_
  rintro⟨d,s,a,f,b,nn135⟩ dw ⟨ao,e,c,h⟩;obtain⟨aj,ee,rfl,h,ah⟩:=Aw h;refine AR ?_;refine Ar h ?_ ?_<;>intro ce h
  ·refine AR ?_;refine Ag h λbg h=>A1 e a.toNat (BP bg) (An bg) ?_;rintro ef _ ⟨_,_,rfl,rfl,rfl⟩ cf;refine AJ (AU cf (Ae ao))<|Aq F1.e Z ao λeg c9 cg u _=>Ac 0 Z cg Z λeh ap x=>Af ?_;refine Ah h λda ch h=>A9 ap (Fs (a0:=(a0.1,a0.2)) _ _ (Ae ap) (bt.mono  Ad) ch) ?_;rintro dj db ⟨_,rfl,bs⟩ ci bh y;have ae:=bs.mono (Da ap ci);refine AK 1 Z ?_;have bi:AB w [.box c9 [No ((ac.getD a.toNat Qq7).1),No ((ac.getD a.toNat Qq7).2)] 107,.box b2 [No s] 3,.row f 3 1 (d).length b,.box aa [No g.1,No g.2] 39,.box b6 [No o.1,No o.2] 39,.box b3 [No 0,No 0] 39,.box b1 [No a0.1,k] 31] db:=bh.BX [5,1] Z;have p:=Bb [5,1] bh bi Z;refine Ah h λj cj h=>?_;have ae:=ae.mono (Aa p)
   refine D5 (Adp (a0:=da) (a1_c0:=((ac.getD a.toNat Qq7).1,(ac.getD a.toNat Qq7).2)) (a1_c1:=s) (O:=[.row f 3 1 (d).length b,.box aa [No g.1,No g.2] 39,.box b6 [No o.1,No o.2] 39,.box b3 [No 0,No 0] 39,.box b1 [No a0.1,k] 31]) hH bi ae cj) ?_;rintro _ b5 ⟨rfl,aq,z⟩;refine Af ?_;refine Cf 51 h ?_ ?_<;>intro ck h
   ·refine Af ?_;refine Ah h λei cl h=>?_;have c:=c.mono (Aa (u.trans (x.trans (y.trans (p.trans z)))));refine Al aq (FI _ _ (Le.refl _) (aq.Jv hH (i:=2) Z c) cl) λb7 dx bj ad=>Af ?_;refine AH h ?_ ?_<;>intro cm h
    ·refine Af ?_;refine Bi [j.2.1.1] (r:=(.int .i64)) (λ_=>Fy _ _) bj (.c1 Z .nil) λej ek dy cn a6 co=>Ag h λcp h=>?_;have c:=c.mono (Aa (ad.trans a6));refine Bf (r:=(.int .i64)) 2 d [j.2.1.1] Z VV cn Z c co cp λbf b8 ar cq b9 au=>Ag h λdz h=>Af ?_;have bk:=cq.dT 0 Z;have av:AB w [.box b6 [No o.1,No o.2] 39,.box b3 [No 0,No 0] 39,.box b2 [No j.2.2] 3,.row bf 3 1 ((d++[j.2.1.1])).length ar,.box aa [No g.1,No g.2] 39,.box b1 [No a0.1,k] 31] b8:=bk.BX [4,4] Z;have a7:=Bb [4,4] bk av Z;have bl:AB w [.row bf 3 1 ((d++[j.2.1.1])).length ar,.box aa [No g.1,No g.2] 39,.box b6 [No o.1,No o.2] 39,.box b3 [No 0,No 0] 39,.box b2 [No j.2.2] 3,.box b1 [No a0.1,k] 31] b8:=av.BX [4,4] Z;have a8:=Bb [4,4] av bl Z;have h:=AX.again h ah
     have e:=e.mono (Aa (u.trans (x.trans (y.trans (p.trans (z.trans (ad.trans (a6.trans (b9.trans ((fz_dT 0 Z).trans (a7.trans a8)))))))))));have au:=au.mono (Aa ((fz_dT 0 Z).trans (a7.trans a8)));refine Ak ((d++[j.2.1.1]),j.2.2,(a+1),bf,ar,aj) Z ⟨bl,e,au,h⟩
    refine Ag h λd0 h=>Af ?_;have bm:=bj.dT 0 Z;have aw:AB w [.box b6 [No o.1,No o.2] 39,.box b3 [No 0,No 0] 39,.box b2 [No j.2.2] 3,.row f 3 1 (d).length b,.box aa [No g.1,No g.2] 39,.box b1 [No a0.1,k] 31] b7:=bm.BX [4,4] Z;have a9:=Bb [4,4] bm aw Z;have bn:AB w [.row f 3 1 (d).length b,.box aa [No g.1,No g.2] 39,.box b6 [No o.1,No o.2] 39,.box b3 [No 0,No 0] 39,.box b2 [No j.2.2] 3,.box b1 [No a0.1,k] 31] b7:=aw.BX [4,4] Z;have ba:=Bb [4,4] aw bn Z;have h:=AX.again h ah;have e:=e.mono (Aa (u.trans (x.trans (y.trans (p.trans (z.trans (ad.trans ((fz_dT 0 Z).trans (a9.trans ba)))))))));have c:=c.mono (Aa (ad.trans ((fz_dT 0 Z).trans (a9.trans ba))));refine Ak (d,j.2.2,(a+1),f,b,aj) Z ⟨bn,e,c,h⟩
   refine Af ?_;refine BO<|Ag h λd1 h=>Af ?_;have bo:=aq.dT 0 Z;have ax:AB w [.box b6 [No o.1,No o.2] 39,.box b3 [No 0,No 0] 39,.box b2 [No j.2.2] 3,.row f 3 1 (d).length b,.box aa [No g.1,No g.2] 39,.box b1 [No a0.1,k] 31] b5:=bo.BX [4,4] Z;have bb:=Bb [4,4] bo ax Z;have bp:AB w [.row f 3 1 (d).length b,.box aa [No g.1,No g.2] 39,.box b6 [No o.1,No o.2] 39,.box b3 [No 0,No 0] 39,.box b2 [No j.2.2] 3,.box b1 [No a0.1,k] 31] b5:=ax.BX [4,4] Z;have bc:=Bb [4,4] ax bp Z;have h:=AX.again h ah;have e:=e.mono (Aa (u.trans (x.trans (y.trans (p.trans (z.trans ((fz_dT 0 Z).trans (bb.trans bc))))))));have c:=c.mono (Aa (u.trans (x.trans (y.trans (p.trans (z.trans ((fz_dT 0 Z).trans (bb.trans bc))))))));refine Ak (d,j.2.2,(a+1),f,b,aj) Z ⟨bp,e,c,h⟩
  have h:=AX.out h ah;refine Af ?_;refine Am (_,_,_,_) ⟨ao,c,h⟩
 rintro⟨a4,am,an,ag⟩ d2 ⟨cr,ay,h⟩;refine FA 1 Z<|AJ (A8 (λ_=>Bo _))<|AK 1 Z<|Ac 3 Z cr Z λel az ca=>Af ?_
 cases h
 refine AP (.tmp Z) (.cell Z QW Z Av.e (box_pT 3 az Z)) ?_;have ay:=ay.mono (Aa ca);exact⟨az.ext,_,Z,(az.Ev hH (i:=0) Z ay)⟩
end
open Go.E Go.RowKit
section
variable(w:World)(H:PH)(hH:Le H (hp w)) include hH
theorem NI{a b c:Int}:Ok Tryz.prog 72 [.int .i64 a,.int .i64 b,.int .i64 c] w (λv w'=>Ext w w'/\v=.bool (decide (b<=a/\a<=c))):=by
 refine Db w H hH ?_
 first
  | rfl
  | (unfold Eb;congr 1;by_cases d:b<=a <;> by_cases h2:a<=c <;> simp[d,h2])
end
end Go.Proofs.YtgaljodghpgdmaaGreatDoor
end
