/- Texts of a claim, merged. -/
import Derived.Test.YtekmbcbgknmhiaaGreatDoorLa5
import Derived.KernelRfl
set_option linter.unusedVariables false
set_option linter.unusedSimpArgs false
open _root_.Go.Proofs.Tryz renaming underlying9→AaG,underlying23→AaQ,underlying28→AaR,underlying5→AaS,underlying26→AaY,underlying3→Aau,underlying86→Ab2,underlying84→Ab3,underlying82→Ab4,underlying167→Ab5,underlying20→Ab6,underlying21→Abl,underlying24→Abx
noncomputable section
namespace Go.L
open Go
def par(f:Qv→List UInt8)(ks:List Int)(s:Qv):List UInt8:=if s.f.1∈ks then([40]++f s)++[41] else f s
def tb(f:Qv→List UInt8)(q:Qv):List UInt8:=
 if q.f.1=1 then q.f.2.1.getD 0 default else if q.f.1=2 then([34]++Lib.join q.f.2.1 [32])++[34]
 else if q.f.1=3 then(((q.f.2.1.getD 0 default++[126])++Lib.itoa q.f.2.2.2.2.1)++[126])++q.f.2.1.getD 1 default
 else if q.f.1=4 then quo q.f.2.2.2.1 else if q.f.1=5 then[47]++q.f.2.2.1
 else if q.f.1=6 then(((([47]++q.f.2.2.1)++[61])++Lib.itoa q.f.2.2.2.2.1)++[46,46])++Lib.itoa q.f.2.2.2.2.2.1
 else if q.f.1=7 then(([47]++q.f.2.2.1)++[61])++quo q.f.2.2.2.1
 else if q.f.1=8 then Lib.join (q.f.2.2.2.2.2.2.map (par f [9])) [38] else if q.f.1=9 then Lib.join (q.f.2.2.2.2.2.2.map (par f [])) [124]
 else[33]++Lib.join (q.f.2.2.2.2.2.2.map (par f [8,9])) []
def tx:Nat→Qv→List UInt8
 | 0,_=>[]
 | n+1,q=>tb (tx n) q
theorem V1(sep:List UInt8)(x:List UInt8)(r:List (List UInt8)):Lib.joinTail sep (x::r)=sep++x++Lib.joinTail sep r:=by
 simp [Lib.joinTail]
theorem Sv(x:List UInt8)(r:List (List UInt8)):Lib.lens (x::r)=x.length+Lib.lens r:=by simp [Lib.lens]
theorem join_le(l:List (List UInt8))(sep:List UInt8):(Lib.join l sep).length≤sep.length * l.length+Lib.lens l:=by
 cases l with
 | nil=>simp [Lib.join_nil]
 | cons x r=>
  rw [Lib.join_length];have:=Nat.mul_le_mul_left sep.length (Nat.le_succ r.length);simp only [List.length_cons,Nat.succ_eq_add_one] at this ⊢;omega
theorem Zo(f:Qv→List UInt8)(ks:List Int)(s:Qv):(par f ks s).length≤(f s).length+2:=by
 unfold par
 split <;> simp
end Go.L
namespace Go.Proofs.YtekmbcbgknmhiaaGreatDoor
open Go Go.L
theorem XP:∀ {ws:List (List UInt8)},Un ws=0→∀ w∈ws,wf w=(0,0)
 | [],_=>by simp
 | w::l,h=>by
  unfold Un at h
  split at h
  ·rename_i a;intro x hx
   rcases List.mem_cons.1 hx with rfl | hx
   ·exact AaM a
   ·exact XP h x hx
  ·rename_i a;exact absurd h a
theorem XQ{w:List UInt8}(h:wf w=(0,0)):w.length≤64:=by
 unfold wf at h
 split at h
 ·cases h
 ·omega
theorem XR{w:List UInt8}(h:pf w=(0,0)):w.length≤64:=by
 unfold pf at h
 split at h
 ·cases h
 ·omega
theorem Q7{q:Qv}(h:nf q=0):(1≤q.f.1∧q.f.1≤10)∧Wn q=true∧(∀ w∈q.f.2.1,wf w=(0,0))∧pf q.f.2.2.1=(0,0)∧nt q=0:=by
 unfold nf at h
 split at h
 ·rename_i b
  split at h
  ·rename_i h2
   split at h
   ·rename_i h3
    split at h
    ·rename_i a;exact⟨b,h2,XP h3,AaN a,h⟩
    ·rename_i a;exact absurd h a
   ·rename_i h3;exact absurd h h3
  ·cases h
 ·cases h
theorem V2{q:Qv}(h:nt q=0):q.f.2.2.2.1.length≤64:=by
 unfold nt at h
 split at h
 ·cases h
 ·split at h
  ·cases h
  ·split at h
   ·cases h
   ·omega
theorem Ui{q:Qv}(h:Wn q=true):(q.f.1=1→q.f.2.1.length=1)∧(q.f.1=2→2≤q.f.2.1.length)∧(q.f.1=3→q.f.2.1.length=2)∧(q.f.1=10→q.f.2.2.2.2.2.2.length=1)∧(q.f.1=8∨q.f.1=9→2≤q.f.2.2.2.2.2.2.length):=by
 unfold Wn at h;simp only [Bool.and_eq_true] at h;obtain⟨⟨⟨⟨⟨a,_⟩,_⟩,_⟩,_⟩,b⟩:=h;refine⟨fun e=>?_,fun e=>?_,fun e=>?_,fun e=>?_,fun e=>?_⟩
 ·rw [e] at a;simpa using a
 ·rw [e] at a;simp at a;omega
 ·rw [e] at a;simpa using a
 ·rw [e] at b;simpa using b
 ·rw [if_pos e] at b;simp at b;exact b.1
theorem AaO{d:Nat}{q:Qv}(h:Vq d q):1≤nq d q:=by
 cases d with
 | zero=>exact h.elim
 | succ d=>unfold nq;omega
theorem Tm{l:List Qv}{g:Qv→Nat}{f:Qv→List UInt8}(h:∀ s∈l,(f s).length+1≤3000 * g s):Lib.lens (l.map f)+l.length≤3000 * (l.map g).sum:=by
 induction l with
 | nil=>simp [Lib.lens]
 | cons a l ih=>
  have b:=h a (List.mem_cons_self ..);have:=ih fun s hs=>h s (List.mem_cons_of_mem _ hs);simp only [List.length_cons,List.map_cons,List.sum_cons,Sv];omega
theorem XS{l:List (List UInt8)}(h:∀ w∈l,w.length≤64):Lib.lens l≤64 * l.length:=by
 induction l with
 | nil=>simp [Lib.lens]
 | cons a l ih=>
  have b:=h a (List.mem_cons_self ..);have:=ih fun s hs=>h s (List.mem_cons_of_mem _ hs);simp only [List.length_cons,Sv];omega
theorem PB{l:List (List UInt8)}(h:∀ w∈l,w.length≤64)(i:Nat):(l.getD i default).length≤64:=by
 rw [List.getD_eq_getElem?_getD]
 cases e:l[i]? with
 | none=>decide
 | some w=>exact h w (List.mem_of_getElem? e)
theorem UH:∀ (d:Nat) (q:Qv),Sq q→Vq d q→(tx d q).length+3≤3000 * nq d q
 | 0,_,_,h=>h.elim
 | d+1,q,hq,hv=>by
  obtain⟨hk,hF,hw,hp,ht⟩:=Q7 hv.1;have hw':∀ w∈q.f.2.1,w.length≤64:=fun w h=>XQ (hw w h);have hd:=V2 ht;have hp:=XR hp;have hwn:=NP hF
  have hs:∀ ks,∀ s∈q.f.2.2.2.2.2.2,(par (tx d) ks s).length+1≤3000 * nq d s:=fun ks s hs=>by
   have l:=UH d s (hq.sub hs) (hv.2 s hs);have h2:=Zo (tx d) ks s;omega
  have e:=Pb hq.open.2.2.2.2.2.1;have g:=Pb hq.open.2.2.2.2.2.2
  have hqu:(quo q.f.2.2.2.1).length≤3 * q.f.2.2.2.1.length+2:=by
   have:=R2 q.f.2.2.2.1;simp [quo]
   simpa using this
  have i:=PB hw' 0;have j:=PB hw' 1;have hwl:=XS hw';unfold tx tb nq;have b:=join_le (q.f.2.2.2.2.2.2.map (par (tx d) [9])) [38];have c:=join_le (q.f.2.2.2.2.2.2.map (par (tx d) [])) [124];have a:=join_le (q.f.2.2.2.2.2.2.map (par (tx d) [8,9])) [];have m:=Tm (hs [9]);have n:=Tm (hs []);have k:=Tm (hs [8,9]);have j2:=join_le q.f.2.1 [32];simp only [List.length_map,List.length_cons,List.length_nil] at b c a j2
  repeat' split
  all_goals first | omega | (simp only [List.length_append,List.length_cons,List.length_nil];omega)
end Go.Proofs.YtekmbcbgknmhiaaGreatDoor
end
noncomputable section
namespace Go.Proofs.YtekmbcbgknmhiaaGreatDoor
open Go Go.L
theorem Aao{l:List Int}(hl:l.length≤1000)(a:Int):Cg l a=some (decide (a∈l)):=by
 have key:∀ (d i:Nat),i+d=l.length→∃ r,Go.L.run (BH l a) (i:Int)=some r∧(0≤r↔a∈l.drop i):=by
  intro d
  induction d with
  | zero=>
   intro i hi;refine⟨-1,B2 (m:=some (-1)) ?_,by rw [List.drop_eq_nil_of_le (by omega)];simp⟩;unfold BH Dg;rw [if_neg (by omega)]
  | succ d ih=>
   intro i hi;have hil:i<l.length:=by omega
   rw [drop_cons hil]
   have hb:BH l a (i:Int)=if a=l.getD i default then some (.inr (i:Int)) else some (.inl ((i+1:Nat):Int)):=by
    unfold BH;rw [if_pos (by omega),Aw (by omega),Int.toNat_natCast,Aw (by constructor <;> omega)]
    rfl
   by_cases h:a=l.getD i default
   ·rw [if_pos h] at hb;exact⟨_,B2 (m:=some (i:Int)) hb,by rw [h];simp⟩
   ·rw [if_neg h] at hb;obtain⟨r,b,h2⟩:=ih (i+1) (by omega);refine⟨r,by rw [BK hb,b],h2.trans ?_⟩;rw [List.mem_cons];exact⟨.inr,fun hh=>hh.resolve_left h⟩
 unfold Cg El Ez;obtain⟨r,b,h2⟩:=key l.length 0 (by omega);rw [show((0:Nat):Int)=0 from rfl] at b;rw [b,Option.bind_some]
 congr 1
 simpa using h2
theorem XT{l:List Qv}(hl:l.length≤2000000){f:Qv→Option (List UInt8)}{f2:List Qv→List UInt8→List Int→Option (List UInt8)}{g:Qv→List UInt8}{sep:List UInt8}{ks:List Int}(hk:ks.length≤1000)
  (hf:∀ s∈l,f s=some (g s)) (hg:∀ s∈l,(g s).length≤1000000) (hj:(Lib.join (l.map (par g ks)) sep).length≤1000000):D8 f f2 l sep ks=some (Lib.join (l.map (par g ks)) sep):=by
 unfold D8 Ga
 have key:∀ (d i:Nat) (o:List (List UInt8)),o.length=i→i+d=l.length→Go.L.run (Cc l sep ks f) (o,(i:Int))=PU (o++(l.drop i).map (par g ks)) sep:=by
  intro d
  induction d with
  | zero=>
   intro i o ho hi;rw [List.drop_eq_nil_of_le (by omega)];refine B2 ?_;unfold Cc Et;simp only;rw [if_neg (by omega)];simp
  | succ d ih=>
   intro i o ho hi;have hil:i<l.length:=by omega
   have hm:=M4 hil;have hgl:=hg _ hm
   have hb:Cc l sep ks f (o,(i:Int))=some (.inl (o++[par g ks (l.getD i default)],((i+1:Nat):Int))):=by
    unfold Cc Dh par;simp only;rw [if_pos (by omega),Aw ⟨by omega,by omega⟩,Int.toNat_natCast,hf _ hm,Option.bind_some,Aao hk,Option.bind_some]
    by_cases h:(l.getD i default).f.1∈ks
    ·rw [decide_eq_true h,if_pos rfl,if_pos h,Aw (by simp [-List.getD_eq_getElem?_getD];omega),Aw (by simp [-List.getD_eq_getElem?_getD];omega),Aw (by constructor <;> simp [-List.getD_eq_getElem?_getD] <;> omega),Aw (by constructor <;> omega)]
     rfl
    ·rw [decide_eq_false h,if_neg (by decide),if_neg h,Aw (by constructor <;> simp [-List.getD_eq_getElem?_getD] <;> omega),Aw (by constructor <;> omega)]
     rfl
   rw [BK hb,ih (i+1) _ (by simp [ho]) (by omega),drop_cons hil];simp
 have:=key l.length 0 [] rfl (by omega);rw [show((0:Nat):Int)=0 from rfl] at this;rw [this];unfold PU;rw [List.nil_append,List.drop_zero,Aw ⟨by rw [List.length_map];omega,by omega⟩]
theorem UI{l:List Qv}(hl:l.length≤2000000){f:Qv→Option (List UInt8)}{f2:List Qv→List UInt8→Int→Int→Option (List UInt8)}{g:Qv→List UInt8}{sep:List UInt8}{ks:List Int}{c j:Int}(hk:∀ s∈l,(s.f.1=c∨s.f.1=j)↔s.f.1∈ks)
  (hf:∀ s∈l,f s=some (g s)) (hg:∀ s∈l,(g s).length≤1000000) (hsep:sep.length≤10) (hj:(Lib.join (l.map (par g ks)) sep).length≤1000000):HG f f2 l sep c j=some (Lib.join (l.map (par g ks)) sep):=by
 unfold HG Kk
 have k:∀ (i:Nat) (o:List UInt8),i<l.length→o.length≤10000000→Ev l c j (i:Int) f o=some (.inl (o++par g ks (l.getD i default),((i+1:Nat):Int))):=fun i o hil ho=>by
  have hm:=M4 hil;have hgl:=hg _ hm
  have n:∀ b:Bool,(b=true↔(l.getD i default).f.1∈ks)→Eu l (i:Int) o f b=some (.inl (o++par g ks (l.getD i default),((i+1:Nat):Int))):=fun b hb=>by
   unfold Eu par;rw [Int.toNat_natCast,hf _ hm]
   by_cases h:b=true
   ·rw [if_pos h,if_pos (hb.1 h),Aw (by simp [-List.getD_eq_getElem?_getD];omega),Aw ⟨by omega,by omega⟩,Option.bind_some,Aw (by simp [-List.getD_eq_getElem?_getD];omega),Aw (by simp [-List.getD_eq_getElem?_getD];omega),Aw (by constructor <;> omega)];simp
   ·rw [if_neg h,if_neg (fun e=>h (hb.2 e)),Aw ⟨by omega,by omega⟩,Option.bind_some,Aw (by omega),Aw (by constructor <;> omega)]
    rfl
  unfold Ev;rw [Aw ⟨by omega,by omega⟩,Aw ⟨by omega,by omega⟩,Int.toNat_natCast]
  by_cases h:(l.getD i default).f.1=c
  ·rw [if_pos h,n true (by simpa using (hk _ hm).1 (.inl h))]
  ·rw [if_neg h,n _ (by rw [decide_eq_true_eq,← hk _ hm];exact⟨.inr,fun e=>e.resolve_left h⟩)]
 have key:∀ (d i:Nat) (o:List UInt8),1≤i→i+d=l.length→o.length+(Lib.joinTail sep ((l.drop i).map (par g ks))).length≤1000000→Go.L.run (BP l sep c j f) (o,(i:Int))=some (o++Lib.joinTail sep ((l.drop i).map (par g ks))):=by
  intro d
  induction d with
  | zero=>
   intro i o ho hi _;rw [List.drop_eq_nil_of_le (by omega)];refine B2 (m:=some _) ?_;unfold BP Gd;simp only;rw [if_neg (by omega)];simp [Lib.joinTail]
  | succ d ih=>
   intro i o ho hi hlen;have hil:i<l.length:=by omega
   rw [drop_cons hil,List.map_cons,V1] at hlen ⊢;rw [List.length_append,List.length_append] at hlen
   have hb:BP l sep c j f (o,(i:Int))=some (.inl ((o++sep)++par g ks (l.getD i default),((i+1:Nat):Int))):=by
    unfold BP;simp only;rw [if_pos (by omega),if_pos (by omega),Aw (by omega),k i _ hil (by simp [-List.getD_eq_getElem?_getD];omega)]
   rw [BK hb,ih (i+1) _ (by omega) (by omega) (by simp;simp at hlen;omega)];simp
 cases l with
 | nil=>
  refine B2 (m:=some _) ?_;unfold BP Gd;simp only;rw [if_neg (by simp)]
  rfl
 | cons a r=>
  have hb:BP (a::r) sep c j f ([],0)=some (.inl (par g ks a,1)):=by
   unfold BP;simp only;rw [if_pos (by simp),if_neg (by omega)];exact k 0 [] (by simp) (by simp)
  rw [List.map_cons,Lib.join_cons] at hj ⊢;rw [List.length_append] at hj;rw [BK hb];exact key r.length 1 _ (by omega) (by simp [-List.getD_eq_getElem?_getD];omega) (by simpa using hj)
theorem UJ{q:Qv}(hw:∀ w∈q.f.2.1,w.length≤64)(hl:q.f.2.1.length≤16)(a:1≤q.f.2.1.length):Hf q (q.f.2.1.getD 0 default,1)=some (([34]++Lib.join q.f.2.1 [32])++[34]):=by
 unfold Hf
 have key:∀ (d i:Nat) (o:List UInt8),i+d=q.f.2.1.length→o.length≤65 * i→Go.L.run (Cx q) (o,(i:Int))=some (([34]++(o++Lib.joinTail [32] (q.f.2.1.drop i)))++[34]):=by
  intro d
  induction d with
  | zero=>
   intro i o hi ho;rw [List.drop_eq_nil_of_le (by omega)];refine B2 (m:=some _) ?_;unfold Cx He;simp only;rw [if_neg (by omega),Aw (by simp [-List.getD_eq_getElem?_getD];omega),Aw (by simp [-List.getD_eq_getElem?_getD];omega)];simp [Lib.joinTail]
  | succ d ih=>
   intro i o hi ho;have hil:i<q.f.2.1.length:=by omega
   have hwl:=PB hw i;rw [drop_cons hil,V1]
   have hb:Cx q (o,(i:Int))=some (.inl ((o++[32])++q.f.2.1.getD i default,((i+1:Nat):Int))):=by
    unfold Cx;simp only;rw [if_pos (by omega),Aw (by simp [-List.getD_eq_getElem?_getD];omega),Aw ⟨by omega,by omega⟩,Int.toNat_natCast,Aw (by simp [-List.getD_eq_getElem?_getD];omega),Aw (by constructor <;> omega)]
    rfl
   rw [BK hb,ih (i+1) _ (by omega) (by simp [-List.getD_eq_getElem?_getD];omega)];simp
 obtain⟨w,r,hwr⟩:=List.exists_cons_of_ne_nil (List.ne_nil_of_length_pos a);have hwl:=PB hw 0;have:=key (q.f.2.1.length - 1) 1 (q.f.2.1.getD 0 default) (by omega) (by omega);rw [show((1:Nat):Int)=1 from rfl] at this;rw [this,hwr,Lib.join_cons]
 rfl
theorem Zp{q:Qv}{f:Qv→List UInt8}(hq:Sq q)(hn:nf q=0)(ht:(tb f q).length≤1000000){s1:Qv→Option (List UInt8)}{b:List Qv→List UInt8→List Int→Option (List UInt8)}{r1:Qv→Option (List UInt8)}{r2:List Qv→List UInt8→Int→Int→Option (List UInt8)}
  (g:q.f.1=8→b q.f.2.2.2.2.2.2 [38] [9]=some (tb f q)∧r2 q.f.2.2.2.2.2.2 [38] 9 0=some (tb f q)) (i:q.f.1=9→b q.f.2.2.2.2.2.2 [124] []=some (tb f q)∧r2 q.f.2.2.2.2.2.2 [124] 0 0=some (tb f q))
  (d:q.f.1=10→b q.f.2.2.2.2.2.2 [] [8,9]=some (Lib.join (q.f.2.2.2.2.2.2.map (par f [8,9])) [])∧r2 q.f.2.2.2.2.2.2 [] 8 9=some (Lib.join (q.f.2.2.2.2.2.2.map (par f [8,9])) [])) :
  DT s1 b q=some (tb f q)∧Gz r1 r2 q=some (tb f q):=by
 obtain⟨hk,hF,hw,hp,hnt⟩:=Q7 hn;have hw':∀ w∈q.f.2.1,w.length≤64:=fun w h=>XQ (hw w h);have hd:=V2 hnt;have hp:=XR hp;have hwn:=NP hF;obtain⟨f1,f2,f3,_⟩:=Ui hF;have a:=hq.open.2.2.2.2.2.1;have c:=hq.open.2.2.2.2.2.2;have l:=Pb a;have m:=Pb c;have n:=PB hw' 0;have o:=PB hw' 1;have hwl:=XS hw';have j2:=join_le q.f.2.1 [32];simp only [List.length_cons,List.length_nil] at j2;have j:OO q.f.2.2.2.2.1=some (Lib.itoa q.f.2.2.2.2.1):=by unfold OO;rw [Aw ⟨a.1,a.2⟩]
 have k:OO q.f.2.2.2.2.2.1=some (Lib.itoa q.f.2.2.2.2.2.1):=by unfold OO;rw [Aw ⟨c.1,c.2⟩]
 have hqu:(quo q.f.2.2.2.1).length≤3 * q.f.2.2.2.1.length+2:=by
  have:=R2 q.f.2.2.2.1;simp [quo]
  simpa using this
 unfold DT Gz Hg;obtain e | e | e | e | e | e | e | e | e | e:q.f.1=1∨q.f.1=2∨q.f.1=3∨q.f.1=4∨q.f.1=5∨q.f.1=6∨q.f.1=7∨q.f.1=8∨q.f.1=9∨q.f.1=10:=by omega
 ·have:=f1 e;simp only [tb,e,if_true];rw [Aw ⟨by omega,by omega⟩];exact⟨rfl,rfl⟩
 ·have:=f2 e;simp only [tb,e,Int.reduceEq,if_true,if_false]
  constructor
  ·unfold PU;rw [Aw ⟨by omega,by omega⟩,Option.bind_some,Aw (by simp [-List.getD_eq_getElem?_getD];omega),Aw (by simp [-List.getD_eq_getElem?_getD];omega)]
  ·rw [Aw ⟨by omega,by omega⟩];exact UJ hw' hwn (by omega)
 ·have:=f3 e;simp only [tb,e,Int.reduceEq,if_true,if_false];rw [j,O8 a];simp only [Option.bind_some]
  constructor
  all_goals (rw [Aw ⟨by omega,by omega⟩,Aw (by simp [-List.getD_eq_getElem?_getD];omega),Aw (by simp [-List.getD_eq_getElem?_getD];omega),Aw (by simp [-List.getD_eq_getElem?_getD];omega),Aw ⟨by omega,by omega⟩,Aw (by simp [-List.getD_eq_getElem?_getD];omega)];rfl)
 ·simp only [tb,e,Int.reduceEq,if_true,if_false];rw [Su (by omega),St (by omega)];exact⟨rfl,rfl⟩
 ·simp only [tb,e,Int.reduceEq,if_true,if_false];rw [Aw (by simp [-List.getD_eq_getElem?_getD];omega)];exact⟨rfl,rfl⟩
 ·simp only [tb,e,Int.reduceEq,if_true,if_false];rw [j,k,O8 a,O8 c];simp only [Option.bind_some]
  constructor
  all_goals (rw [Aw (by simp [-List.getD_eq_getElem?_getD];omega),Aw (by simp [-List.getD_eq_getElem?_getD];omega),Aw (by simp [-List.getD_eq_getElem?_getD];omega),Aw (by simp [-List.getD_eq_getElem?_getD];omega),Aw (by simp [-List.getD_eq_getElem?_getD];omega)])
 ·simp only [tb,e,Int.reduceEq,if_true,if_false];rw [Su (by omega),St (by omega)];simp only [Option.bind_some]
  constructor
  all_goals (rw [Aw (by simp [-List.getD_eq_getElem?_getD];omega),Aw (by simp [-List.getD_eq_getElem?_getD];omega),Aw (by simp [-List.getD_eq_getElem?_getD];omega)])
 ·simp only [e,Int.reduceEq,if_true,if_false];rw [(g e).1,(g e).2];exact⟨rfl,rfl⟩
 ·simp only [e,Int.reduceEq,if_true,if_false];rw [(i e).1,(i e).2];exact⟨rfl,rfl⟩
 ·simp only [tb,e,Int.reduceEq,if_true,if_false,List.length_append] at ht ⊢;rw [(d e).1,(d e).2];simp only [Option.bind_some];rw [Aw (by omega)];exact⟨rfl,rfl⟩
theorem Tn{l:List Qv}{g:Qv→Nat}{s:Qv}(h:s∈l):g s≤(l.map g).sum:=by
 induction l with
 | nil=>cases h
 | cons a l ih=>
  rw [List.map_cons,List.sum_cons]
  rcases List.mem_cons.1 h with rfl | h
  ·omega
  ·have:=ih h;omega
theorem XU:∀ (d:Nat) (q:Qv),Sq q→Vq d q→nq d q≤200→∀ n,2 * d≤n→(B8 n).1 q=some (tx d q)∧(BA n).1 q=some (tx d q)
 | 0,_,_,h,_,_,_=>h.elim
 | d+1,q,hq,hv,hc,n,hn=>by
  obtain⟨n,rfl⟩:∃ m,n=m+2:=⟨n - 2,by omega⟩;have hlen:=UH (d+1) q hq hv;have hsl:=hq.open.2.2.2.1
  have hsum:∀ s∈q.f.2.2.2.2.2.2,nq d s≤200:=fun s hs=>by
   have:nq d s≤(q.f.2.2.2.2.2.2.map (nq d)).sum:=Tn hs;unfold nq at hc;omega
  have ih:∀ s∈q.f.2.2.2.2.2.2,(B8 n).1 s=some (tx d s)∧(BA n).1 s=some (tx d s):=fun s hs=>XU d s (hq.sub hs) (hv.2 s hs) (hsum s hs) n (by omega)
  have hgl:∀ s∈q.f.2.2.2.2.2.2,(tx d s).length≤1000000:=fun s hs=>by
   have:=UH d s (hq.sub hs) (hv.2 s hs);have:=hsum s hs;omega
  have a:∀ s∈q.f.2.2.2.2.2.2,1≤s.f.1:=fun s hs=>by
   have:=hv.2 s hs
   cases d with
   | zero=>exact this.elim
   | succ d=>exact(Q7 this.1).1.1
  have ht:(tb (tx d) q).length≤1000000:=by
   show(tx (d+1) q).length≤_
   omega
  have hT:∀ sep ks,ks.length≤1000→(Lib.join (q.f.2.2.2.2.2.2.map (par (tx d) ks)) sep).length≤1000000→(B8 (n+1)).2 q.f.2.2.2.2.2.2 sep ks=some (Lib.join (q.f.2.2.2.2.2.2.map (par (tx d) ks)) sep):=fun sep ks hk hj=>XT (f2:=(B8 n).2) (by omega) hk (fun s hs=>(ih s hs).1) hgl hj
  have hB:∀ sep ks b c,(∀ s∈q.f.2.2.2.2.2.2,(s.f.1=b∨s.f.1=c)↔s.f.1∈ks)→sep.length≤10→(Lib.join (q.f.2.2.2.2.2.2.map (par (tx d) ks)) sep).length≤1000000→(BA (n+1)).2 q.f.2.2.2.2.2.2 sep b c=some (Lib.join (q.f.2.2.2.2.2.2.map (par (tx d) ks)) sep):=
   fun sep ks b c hk hs hj=>UI (f2:=(BA n).2) (by omega) hk (fun s hs=>(ih s hs).2) hgl hs hj
  refine Zp (s1:=(B8 (n+1)).1) (r1:=(BA (n+1)).1) hq hv.1 ht (fun e=>?_) (fun e=>?_) (fun e=>?_)
  ·simp only [tb,e,Int.reduceEq,if_true,if_false] at ht ⊢;exact⟨hT _ _ (by simp) ht,hB _ [9] _ _ (fun s hs=>by have:=a s hs;simp;omega) (by simp) ht⟩
  ·simp only [tb,e,Int.reduceEq,if_true,if_false] at ht ⊢;exact⟨hT _ _ (by simp) ht,hB _ [] _ _ (fun s hs=>by have:=a s hs;simp;omega) (by simp) ht⟩
  ·simp only [tb,e,Int.reduceEq,if_true,if_false,List.length_append] at ht;exact⟨hT _ _ (by simp) (by omega),hB _ [8,9] _ _ (fun s hs=>by simp) (by simp) (by omega)⟩
def Uo(q:Qv):Int×Int:=if(ck 1000 q 0 1).2.1=0 then(if 200<(tx 8 q).length then(14,-1) else(0,0)) else(ck 1000 q 0 1).2
theorem To{q:Qv}(h:(ck 1000 q 0 1).2.1=0):Vq 8 q∧nq 8 q≤40:=by
 obtain⟨a,h2,h3⟩:=ZE 1000 q 0 1 (by omega) (by omega) 8 (by omega) h;exact⟨h3,by omega⟩
theorem XV{q:Qv}(hq:Sq q):EX q=some (if(Uo q).1=0 then tx 8 q else[],Uo q):=by
 unfold EX J7 Uo;obtain⟨a,_,h3⟩:=XN 1000 q 0 1 hq (by omega) (by omega) (by omega) (by omega);rw [a,Option.bind_some]
 by_cases h:(ck 1000 q 0 1).2.1=0
 ·obtain⟨hv,hc⟩:=To h;rw [if_pos (by rw [h3.2 h];exact⟨rfl,rfl⟩),if_pos h];unfold L4;rw [(XU 8 q hq hv (by omega) 1000 (by omega)).1,Option.bind_some]
  by_cases hl:200<(tx 8 q).length
  ·rw [if_pos (by omega),if_pos hl]
   rfl
  ·rw [if_neg (by omega),if_neg hl]
   rfl
 ·rw [if_neg (fun e=>h e.1),if_neg h,if_neg h]
theorem PX{q:Qv}(hq:Sq q):DL q=some (Uo q):=by
 unfold DL;rw [XV hq]
 rfl
theorem Oo{q:Qv}(hq:Sq q):Hq q=some (Uo q):=by
 unfold Hq Lc Uo;obtain⟨_,a,h3⟩:=XN 1000 q 0 1 hq (by omega) (by omega) (by omega) (by omega);rw [a,Option.bind_some]
 by_cases h:(ck 1000 q 0 1).2.1=0
 ·obtain⟨hv,hc⟩:=To h;rw [if_pos h,if_pos h];unfold Lg;rw [(XU 8 q hq hv (by omega) 1000 (by omega)).2,Option.bind_some]
  by_cases hl:200<(tx 8 q).length
  ·rw [if_pos (by omega),if_pos hl]
   rfl
  ·rw [if_neg (by omega),if_neg hl,h3.2 h]
 ·rw [if_neg h,if_neg h]
theorem Tp{q:Qv}(h:(Uo q).1=0):Vq 8 q∧nq 8 q≤40∧(tx 8 q).length≤200∧Uo q=(0,0):=by
 unfold Uo at h ⊢
 by_cases a:(ck 1000 q 0 1).2.1=0
 ·rw [if_pos a] at h ⊢
  by_cases h2:200<(tx 8 q).length
  ·rw [if_pos h2] at h
   cases h
  ·rw [if_neg h2];exact⟨(To a).1,(To a).2,by omega,rfl⟩
 ·rw [if_neg a] at h;exact absurd h a
end Go.Proofs.YtekmbcbgknmhiaaGreatDoor
end
noncomputable section
namespace Go.L
open Go
def Kl(f:Qv→Qv)(c:Int)(l:List Qv):List Qv:=l.flatMap fun s=>if(f s).f.1=c then(f s).f.2.2.2.2.2.2 else[f s]
def RR:Nat→Qv→Bool→Qv
 | 0,q,_=>q
 | n+1,q,b=>if q.f.1=10 then RR n (q.f.2.2.2.2.2.2.getD 0 default) (!b) else if q.f.1<8 then(if b then .mk 10 [] [] [] 0 0 [q] else q)
  else .mk (if b then 17 - q.f.1 else q.f.1) [] [] [] 0 0 (Kl (fun s=>RR n s b) (if b then 17 - q.f.1 else q.f.1) q.f.2.2.2.2.2.2)
def Dp:Nat→Qv→Prop
 | 0,_=>False
 | n+1,q=>∀ s∈q.f.2.2.2.2.2.2,Dp n s
end Go.L
namespace Go.Proofs.YtekmbcbgknmhiaaGreatDoor
open Go Go.L
theorem Vq.dp:∀ {n:Nat} {q:Qv},Vq n q→Dp n q
 | 0,_,h=>h.elim
 | _+1,_,h=>fun s hs=>Vq.dp (h.2 s hs)
theorem Sq.mk{k:Int}{ss:List Qv}(hl:ss.length≤1048576)(h:∀ s∈ss,Sq s):Sq (.mk k [] [] [] 0 0 ss):=fun d=>by
 cases d with
 | zero=>exact trivial
 | succ d=>exact⟨by simp [Qf],by simp [Qf],by simp [Qf],hl,by simp [Qf],(show BJ 0 from⟨by decide,by decide⟩),(show BJ 0 from⟨by decide,by decide⟩),fun s hs=>h s hs d⟩
theorem XW{q:Qv}(h:Wn q=true)(hk:q.f.1<8):q.f.2.2.2.2.2.2=[]:=by
 unfold Wn at h;simp only [Bool.and_eq_true] at h;have:=h.2;rw [if_neg (by omega),if_neg (by omega)] at this
 simpa using this
theorem UK{q:Qv}(hq:Sq q)(h:q.f.2.2.2.2.2.2=[]):Ix q=some q:=by
 obtain⟨a,_,b,_⟩:=hq.open
 show D7 _ q=_
 unfold D7 C0 CC;rw [Aw (by constructor <;> simp <;> omega),Option.bind_some,Aw (by constructor <;> simp <;> omega),Option.bind_some];refine B2 (m:=some q) ?_;unfold DQ Es;simp only;rw [h,if_neg (by simp)];simp only [List.nil_append,Option.map_some];obtain⟨k,ws,p,d,l,hh,ss⟩:=q;rw [Qf] at h;subst h
 rfl
theorem Sw{l:List Qv}(hl:l.length≤2000000){g:Qv→Qv}{c:Int}{N:Nat}(hN:∀ o:List Qv,(o++Kl g c l).length≤N+o.length)(hN':N≤1000000){b:List Qv×Int→Option ((List Qv×Int) ⊕ Qv)}{m:List Qv→Option Qv}
  (a:∀ (i:Nat) (o:List Qv),i<l.length→o.length+(if(g (l.getD i default)).f.1=c then(g (l.getD i default)).f.2.2.2.2.2.2 else[g (l.getD i default)]).length≤1000000→
   b (o,(i:Int))=some (.inl (o++(if(g (l.getD i default)).f.1=c then(g (l.getD i default)).f.2.2.2.2.2.2 else[g (l.getD i default)]),(i:Int)+1)))
  (h2:∀ o:List Qv,b (o,(l.length:Int))=(m o).map Sum.inr):Go.L.run b ([],0)=m (Kl g c l):=by
 have hlen:=hN []
 have key:∀ (d i:Nat) (o:List Qv),i+d=l.length→o++Kl g c (l.drop i)=Kl g c l→Go.L.run b (o,(i:Int))=m (Kl g c l):=by
  intro d
  induction d with
  | zero=>
   intro i o hi ho;rw [List.drop_eq_nil_of_le (by omega)] at ho;rw [show i=l.length by omega,B2 (h2 o),← ho];simp [Kl]
  | succ d ih=>
   intro i o hi ho;have hil:i<l.length:=by omega
   rw [drop_cons hil,Kl,List.flatMap_cons] at ho
   have hb:=a i o hil (by
    have:=congrArg List.length ho;simp only [List.nil_append,List.length_append,List.length_nil] at this hlen;omega)
   rw [BK hb];exact ih (i+1) _ (by omega) (by rw [List.append_assoc];exact ho)
 exact key l.length 0 [] (by omega) rfl
theorem Sx{g:Qv→Qv}{c:Int}{h:Qv→Nat}:∀ {l:List Qv},(∀ s∈l,(g s).f.2.2.2.2.2.2.length≤h s∧1≤h s)→(Kl g c l).length≤(l.map h).sum
 | [],_=>by simp [Kl]
 | s::l,hs=>by
  have a:=hs s (List.mem_cons_self ..);have:=Sx (g:=g) (c:=c) fun x hx=>hs x (List.mem_cons_of_mem _ hx);unfold Kl at this ⊢;rw [List.flatMap_cons,List.length_append,List.map_cons,List.sum_cons]
  split
  ·omega
  ·simp only [List.length_cons,List.length_nil];omega
theorem UL:∀ (n:Nat) (q:Qv) (b:Bool),Sq q→Vq n q→nq n q≤200→(∀ m,n≤m→DK m q b=some (RR n q b)∧Hy m q b=some (RR n q b))∧Sq (RR n q b)∧(RR n q b).f.2.2.2.2.2.2.length≤nq n q
 | 0,_,_,_,h,_=>h.elim
 | n+1,q,b,hq,hv,hc=>by
  obtain⟨hk,hF,_⟩:=Q7 hv.1;have hsl:=hq.open.2.2.2.1
  have hsum:∀ s∈q.f.2.2.2.2.2.2,nq n s≤200:=fun s hs=>by
   have:=Tn (g:=nq n) hs;unfold nq at hc;omega
  have ih:∀ s∈q.f.2.2.2.2.2.2,∀ b,_:=fun s hs b=>UL n s b (hq.sub hs) (hv.2 s hs) (hsum s hs)
  by_cases a:q.f.1=10
  ·have r:=(Ui hF).2.2.2.1 a;have hm:=M4 (l:=q.f.2.2.2.2.2.2) (i:=0) (by omega);obtain⟨j,p,t⟩:=ih _ hm (!b);have hnn:=Tn (g:=nq n) hm;refine⟨fun m hm=>?_,?_⟩
   ·obtain⟨m,rfl⟩:∃ k,m=k+1:=⟨m - 1,by omega⟩;obtain⟨j1,j2⟩:=j m (by omega)
    show BO _ q b=_∧Di _ q b=_
    unfold BO Di RR;rw [if_pos a,if_pos a,if_pos a,Aw ⟨by omega,by omega⟩,Aw ⟨by omega,by omega⟩];rw [show((0:Int).toNat)=0 from rfl,j1,j2];exact⟨rfl,rfl⟩
   ·unfold RR nq;rw [if_pos a];exact⟨p,by omega⟩
  by_cases d:q.f.1<8
  ·have hs:=XW hF d;refine⟨fun m hm=>?_,?_⟩
   ·obtain⟨m,rfl⟩:∃ k,m=k+1:=⟨m - 1,by omega⟩
    show BO _ q b=_∧Di _ q b=_
    unfold BO Di RR Fq;rw [if_neg a,if_neg a,if_neg a,if_pos d,if_pos d,UK hq hs];simp only [Option.bind_some,decide_eq_true (show 1≤q.f.1∧q.f.1≤7 by omega),cond_true,if_true]
    cases b <;> exact⟨rfl,rfl⟩
   ·unfold RR nq;rw [if_neg a,if_pos d]
    cases b with
    | false=>exact⟨hq,by rw [if_neg (by decide),hs];simp⟩
    | true=>exact⟨Sq.mk (by simp) (fun s hs=>by rw [List.mem_singleton.1 hs];exact hq),by rw [if_pos rfl,Qf];simp⟩
  ·have hnl:(Kl (fun s=>RR n s b) (if b then 17 - q.f.1 else q.f.1) q.f.2.2.2.2.2.2).length≤(q.f.2.2.2.2.2.2.map (nq n)).sum:=Sx fun s hs=>⟨(ih s hs b).2.2,AaO (hv.2 s hs)⟩;have hcc:=hc;unfold nq at hcc;refine⟨fun m hm=>?_,?_⟩
   ·obtain⟨m,rfl⟩:∃ k,m=k+1:=⟨m - 1,by omega⟩
    show BO _ q b=_∧Di _ q b=_
    have kA:∀ c,(Kl (fun s=>RR n s b) c q.f.2.2.2.2.2.2).length≤(q.f.2.2.2.2.2.2.map (nq n)).sum→CW q b (DK m) c=some (.mk c [] [] [] 0 0 (Kl (fun s=>RR n s b) c q.f.2.2.2.2.2.2)):=fun c hc=>by
     refine Sw (N:=200) (by omega) (fun o=>by rw [List.length_append];omega) (by omega) (m:=fun o=>some (.mk c [] [] [] 0 0 o)) (fun i o hi ho=>?_) (fun o=>?_)
     ·obtain⟨e,_⟩:=(ih _ (M4 hi) b).1 m (by omega);unfold CF;simp only;rw [if_pos (by omega),Aw ⟨by omega,by omega⟩,Int.toNat_natCast,e,Option.bind_some]
      split
      ·rename_i hx;rw [if_pos hx] at ho;rw [Aw (by constructor <;> omega),Aw (by constructor <;> omega)]
      ·rename_i hx;rw [if_neg hx] at ho;rw [Aw (by constructor <;> omega),Aw (by constructor <;> omega)]
     ·unfold CF;simp only;rw [if_neg (by omega)]
      rfl
    have kB:∀ c,(Kl (fun s=>RR n s b) c q.f.2.2.2.2.2.2).length≤(q.f.2.2.2.2.2.2.map (nq n)).sum→Gy q b (Hy m) c=some (.mk c [] [] [] 0 0 (Kl (fun s=>RR n s b) c q.f.2.2.2.2.2.2)):=fun c hc=>by
     refine Sw (N:=200) (by omega) (fun o=>by rw [List.length_append];omega) (by omega) (m:=fun o=>some (.mk c [] [] [] 0 0 o)) (fun i o hi ho=>?_) (fun o=>?_)
     ·obtain⟨_,e⟩:=(ih _ (M4 hi) b).1 m (by omega);unfold Gc;simp only;rw [if_pos (by omega),Aw ⟨by omega,by omega⟩,Int.toNat_natCast,e,Option.bind_some]
      split
      ·rename_i hx;rw [if_pos hx] at ho;rw [Aw (by constructor <;> omega),Aw (by constructor <;> omega)]
      ·rename_i hx;rw [if_neg hx] at ho;rw [Aw (by constructor <;> omega),Aw (by constructor <;> omega)]
     ·unfold Gc;simp only;rw [if_neg (by omega)]
      rfl
    unfold BO Di RR Fq;rw [if_neg a,if_neg a,if_neg a,if_neg d,if_neg d];simp only [Option.bind_some,decide_eq_false (show ¬ (1≤q.f.1∧q.f.1≤7) by omega),cond_false,Bool.false_eq_true,if_false]
    cases b with
    | false=>
     simp only [Bool.false_eq_true,if_false] at hnl ⊢;exact⟨kA _ hnl,kB _ hnl⟩
    | true=>
     simp only [if_true] at hnl ⊢;rw [Aw (by constructor <;> omega),Aw (by constructor <;> omega)];exact⟨kA _ hnl,kB _ hnl⟩
   ·unfold RR nq;rw [if_neg a,if_neg d];refine⟨Sq.mk (by omega) fun s hs=>?_,by rw [Qf];simp only;omega⟩;unfold Kl at hs;generalize (if b=true then 17 - q.f.1 else q.f.1)=c at hs;obtain⟨x,hx,hs⟩:=List.mem_flatMap.1 hs
    split at hs
    ·exact(ih x hx b).2.1.sub hs
    ·rw [List.mem_singleton.1 hs];exact(ih x hx b).2.1
theorem UM(l:List (List UInt8))(hl:l.length≤1000000000):JL l l=some true:=by
 unfold JL JV;rw [if_pos rfl];refine Pq (fun i=>(i:Int)) l.length (fun i hi=>?_) ?_ 0 (by omega)
 ·unfold G7;rw [if_pos (by omega),Aw ⟨by omega,by omega⟩,Aw ⟨by omega,by omega⟩,if_pos rfl,Aw (by constructor <;> omega)]
  rfl
 ·unfold G7 ID;rw [if_neg (by omega)]
theorem XX:∀ (n:Nat) (q:Qv),Sq q→Dp n q→∀ m,n≤m→DX m q q=some true
 | 0,_,_,h,_,_=>h.elim
 | n+1,q,hq,hd,m,hm=>by
  obtain⟨m,rfl⟩:∃ k,m=k+1:=⟨m - 1,by omega⟩;have hl:=hq.len
  show CM _ q q=_
  unfold CM G6;rw [if_neg (by simp),Option.bind_some,if_neg (by simp),UM _ (by have:=hq.open.1;omega),Option.bind_some,if_neg (by simp)];refine Pq (fun i=>(i:Int)) q.f.2.2.2.2.2.2.length (fun i hi=>?_) ?_ 0 (by omega)
  ·unfold Cw;rw [if_pos (by omega),Aw ⟨by omega,by omega⟩,Aw ⟨by omega,by omega⟩,Int.toNat_natCast,XX n _ (hq.sub (M4 hi)) (hd _ (M4 hi)) m (by omega),Option.bind_some,if_neg (by decide),Aw (by constructor <;> omega)]
   rfl
  ·unfold Cw D9;rw [if_neg (by omega)]
theorem XY{n:Nat}{q:Qv}(hq:Sq q)(hd:Dp n q)(hn:n≤1000):CZ q q=some true:=XX n q hq hd 1000 hn
theorem XZ:CZ (.mk 0 [] [] [] 0 0 []) (.mk 0 [] [] [] 0 0 [])=some true:=XY (n:=1) (Sq.mk (by simp) (fun s hs=>by cases hs)) (fun s hs=>by cases hs) (by omega)
theorem Wp{q:Qv}(hq:Sq q):Gk q=some (if(Uo q).1=0 then(if(Uo (RR 8 q false)).1=0 then(RR 8 q false,(0,0)) else(.mk 0 [] [] [] 0 0 [],(14,-1))) else(.mk 0 [] [] [] 0 0 [],Uo q)):=by
 unfold Gk;rw [PX hq,Option.bind_some]
 by_cases h:(Uo q).1=0
 ·obtain⟨hv,hc,_,a⟩:=Tp h;obtain⟨b,c,_⟩:=UL 8 q false hq hv (by omega);rw [if_pos (by rw [a];exact⟨rfl,rfl⟩),if_pos h];unfold II;rw [(b 1000 (by omega)).1,Option.bind_some,PX c,Option.bind_some]
  by_cases h2:(Uo (RR 8 q false)).1=0
  ·rw [if_pos (by rw [(Tp h2).2.2.2];exact⟨rfl,rfl⟩),if_pos h2]
  ·rw [if_neg (fun e=>h2 e.1),if_neg h2]
   rfl
 ·rw [if_neg (fun e=>h e.1),if_neg h]
  rfl
end Go.Proofs.YtekmbcbgknmhiaaGreatDoor
end
noncomputable section
namespace Go.Proofs.YtekmbcbgknmhiaaGreatDoor
open Go Go.E Go.RowKit Go.L
set_option maxHeartbeats 1000000
set_option maxRecDepth 10000
open _root_.Go.Proofs.Tryz
def EM(a0:Aas)(a:Int):Option (Int):=
 Option.bind (CO a0 a) (fun b=>some (b))
def G0:Option (Int):=
 some ((-1:Int))
def Ge(a0:Aas)(a1:Aas):Nat→Option ((Nat) ⊕ (Int)):=fun a=>
 if a<a0.length then Option.bind (CO a1 ((P0 a0 a).1:Int)) (fun b=>if(0:Int)≤b then Option.map Sum.inr (some ((a:Int))) else some (Sum.inl (a+(P0 a0 a).2))) else Option.map Sum.inr (G0)
def I8(a0:Aas)(a1:Aas)(s:Nat):Option (Int):=Go.L.run (Ge a0 a1) s
def G1(a0:Aas)(a1:Aas):Option (Int):=
 (I8 a0 a1) (0:Nat)
def strings_IndexAny(a0:Aas)(a1:Aas):Option (Int):=
 if a1=([]:Aas) then some ((-1:Int)) else(if(a1.length:Int)=(1:Int) then AY (0≤(0:Int)∧(0:Int)<(a1.length:Int)) (if(128:Int)≤(IntKind.i32.wrap ((a1.getD (0:Int).toNat default).toNat:Int)) then(EM a0) (65533:Int) else(EM a0) (IntKind.i32.wrap ((a1.getD (0:Int).toNat default).toNat:Int))) else(if(8:Int)<(a0.length:Int) then none else(G1 a0 a1)))
theorem Oa(w:World)(H:PH)(hH:Le H (hp w)){a0:Aas}{a1:Aas}{r:Int}(h:strings_IndexAny a0 a1=some r):
  Ok Tryz.prog 167 [Aar a0,Aar a1] w (fun v w'=>Ext w w'∧v=No r):=by
 refine A5 (n:=55) [(0,(Aar a0)),(1,(Aar a1))] func167 rfl rfl rfl rfl rfl ?_;have hL:=AR.start w;refine AD 1 rfl<|A8<|Bl 1 rfl<|Af (LP rfl rfl) rfl<|Ad<|Bg rfl (fun j=>?_) (fun j=>?_)
 ·have h:=A1 j h;refine AD 1 rfl<|Az<|Au ?_;obtain rfl:=Option.some.inj h;refine An rfl rfl ?_;exact⟨hL.ext,rfl⟩
 have h:=A2 j h;refine Av<|Ao<|A8<|Bl 1 rfl<|Af (CL rfl AaG) rfl<|AB 1 rfl<|Bg rfl (fun k=>?_) (fun k=>?_)
 ·have h:=A1 k h;refine Bl 1 rfl ?_;obtain⟨af,h⟩:=Ac h;refine Af (G3 rfl rfl AaG af) rfl<|Af (ES AaS Abl rfl rfl) rfl<|AB 1 rfl<|Bm (σ:=Int) (fun b=>[(0,(Aar a0)),(5,.int .i32 b)]) (fun b wr=>AR w [] wr∧(EM a0) b=some r) ?_ ?_
  ·refine AD 2 rfl<|Bg rfl (fun c=>?_) (fun c=>?_)
   ·have h:=A1 c h;refine Aq<|Ar 1 rfl<|AL<|A9 (65533:Int) (.cons rfl (.cons rfl (Sub.nil _))) ⟨hL,h⟩
   have h:=A2 c h;refine Av<|A9 (IntKind.i32.wrap ((a1.getD (0:Int).toNat default).toNat:Int)) (.cons rfl (.cons rfl (Sub.nil _))) ⟨hL,h⟩
  rintro b al ⟨m,h⟩;refine Bl 2 rfl ?_;obtain⟨au,x,h⟩:=Go.L.bind_some h;refine Ax rfl rfl m (HU _ _ (As hH m) x) ?_;rintro _ av rfl am y ag;refine AB 1 rfl<|Az<|Au ?_;obtain rfl:=Option.some.inj h;refine An rfl rfl ?_;exact⟨y.ext,rfl⟩
 have h:=A2 k h;refine Av<|Ao<|Bm (σ:=Unit) (fun(_:Unit)=>[(0,(Aar a0)),(1,(Aar a1))]) (fun(_:Unit) wr=>AR w [] wr∧(G1 a0 a1)=some r) ?_ ?_
 ·refine Bl 1 rfl<|Af (CL rfl AaG) rfl<|Ax rfl rfl hL (XB _ _ (As hH hL)) ?_;rintro _ aw rfl an z ah;refine Ad<|Bg rfl (fun d=>?_) (fun d=>?_)
  ·have h:=A1 d h;refine Al ?_
   cases h
  have h:=A2 d h;refine Av<|A9 () (.cons rfl (.cons rfl (Sub.nil _))) ⟨z,h⟩
 rintro _ ao ⟨aa,h⟩;refine Bm (σ:=Unit) (fun(_:Unit)=>[]) (fun(_:Unit) wr=>AR w [] wr∧G0=some r) ?_ ?_
 ·refine Bl 1 rfl<|TN rfl AaG rfl aa fun ax u ab ai=>Ad<|A4 ?_;obtain⟨o,h⟩:=Bb h;refine Bu (σ:=Nat×Nat) (fun⟨a,n⟩=>[(1,(Aar a1)),(45,(Aam u))]) (fun⟨a,n⟩ wr=>AR w [.obj u (.stringIter ⟨(a0).toArray⟩ a)] wr∧FM (Ge a0 a1) n a=some r) (fun⟨a,n⟩=>n) ((0:Nat),o) (.cons rfl (.cons rfl (Sub.nil _))) ⟨ab,h⟩ ?_;rintro⟨a,nn67⟩ ap ⟨q,h⟩;obtain⟨o,ay,rfl,h,e⟩:=Ba h;refine Al<|Vs (l:=a0) (p:=a) 0 rfl rfl q rfl (fun f=>?_) (fun f=>?_)
  ·have h:=A1 f h;intro az s aj;refine AB 1 rfl<|A8<|Ce rfl<|Av<|Ao<|A4<|AD 4 rfl<|Bl 2 rfl ?_;obtain⟨a2,ac,h⟩:=Go.L.bind_some h;refine Ax rfl rfl s (HU _ _ (As hH s) ac) ?_;rintro _ a3 rfl aq t ak;refine AB 1 rfl<|Bg rfl (fun g=>?_) (fun g=>?_)
   ·have h:=A1 g h;refine AD 2 rfl<|Az<|Ay<|BB ?_;have h:=BF.out h e;refine Ay<|Bs ?_;obtain rfl:=Option.some.inj h;refine An rfl rfl ?_;exact⟨t.ext,rfl⟩
   have h:=A2 g h;refine Av<|AA ?_;have h:=BF.again h e;refine AO ((a+(P0 a0 a).2),o) (.cons rfl (.cons rfl (Sub.nil _))) ⟨t,h⟩ (Nat.lt_succ_self _)
  have h:=A2 f h;refine AB 1 rfl<|A8<|Ch rfl<|Bq<|AH<|A6 ?_;have h:=BF.out h e;refine Bf ?_;have ad:=q.AP (i:=0) rfl;refine A9 () (Sub.nil _) ⟨ad,h⟩
 rintro _ ar ⟨ae,h⟩;refine AD 1 rfl<|Az ?_;obtain rfl:=Option.some.inj h;refine An rfl rfl ?_;exact⟨ae.ext,rfl⟩
def CG(a0:Aas)(a1:Aas):Option (Bool):=
 if(a1.length:Int)≤(a0.length:Int) then AY (0≤(a1.length:Int)∧(a1.length:Int)≤(a0.length:Int)) (some (decide ((a0.take (a1.length:Int).toNat)=a1))) else some (false)
theorem Jq(w:World)(H:PH)(_hH:Le H (hp w)){a0:Aas}{a1:Aas}{r:Bool}(h:CG a0 a1=some r):
  Ok Tryz.prog 262 [Aar a0,Aar a1] w (fun v w'=>Ext w w'∧v=.bool r):=by
 refine A5 (n:=18) [(0,(Aar a0)),(1,(Aar a1))] func262 rfl rfl rfl rfl rfl ?_;have hL:=AR.start w;refine AD 1 rfl<|Bl 1 rfl<|Af (CL rfl AaG) rfl<|Ar 1 rfl<|Af (CL rfl AaG) rfl<|Ar 2 rfl<|AQ (s:=10) rfl (fun a=>?_) (fun a=>?_)
 ·have h:=A1 (of_decide_eq_true a) h;refine Aa rfl rfl a<|Af (Ae rfl) rfl<|Aa rfl rfl a<|Af (Ae rfl) rfl<|Aa rfl rfl a<|Af (CL rfl AaG) rfl<|Aa rfl rfl a ?_;obtain⟨b,h⟩:=Ac h;refine Af (U0 rfl rfl AaG b) rfl<|Aa rfl rfl a<|Af (Ae rfl) rfl<|Aa rfl rfl a<|Af (LP rfl rfl) rfl<|Af (A3 rfl a rfl) rfl<|AB 1 rfl<|Az ?_;obtain rfl:=Option.some.inj h;refine An rfl rfl ?_;exact⟨hL.ext,rfl⟩
 have h:=A2 (of_decide_eq_false a) h
 iterate 6 refine Aj rfl rfl a rfl ?_
 refine Af (A7 rfl a rfl) rfl<|AB 1 rfl<|Az ?_;obtain rfl:=Option.some.inj h;refine An rfl rfl ?_;exact⟨hL.ext,rfl⟩
def CH(a0:Aas)(a1:Aas):Option (Aas×Bool):=
 Option.bind (CG a0 a1) (fun a=>if !a then some (a0,false) else AY (0≤(a1.length:Int)∧(a1.length:Int)≤(a0.length:Int)) (some ((a0.drop (a1.length:Int).toNat),true)))
theorem Jr(w:World)(H:PH)(hH:Le H (hp w)){a0:Aas}{a1:Aas}{r:Aas×Bool}(h:CH a0 a1=some r):
  Ok Tryz.prog 215 [Aar a0,Aar a1] w (fun v w'=>Ext w w'∧v=.tuple #[Aar r.1,.bool r.2]):=by
 refine A5 (n:=15) [(0,(Aar a0)),(1,(Aar a1))] func215 rfl rfl rfl rfl rfl ?_;have hL:=AR.start w;refine AD 2 rfl<|A8<|Bl 2 rfl ?_;obtain⟨g,c,h⟩:=Go.L.bind_some h;refine Ax rfl rfl hL (Jq _ _ (As hH hL) c) ?_;rintro _ i rfl f b e;refine AB 1 rfl<|By rfl (fun a=>?_) (fun a=>?_)
 ·have h:=Bv a h;refine AD 3 rfl<|Az<|Au ?_;obtain rfl:=Option.some.inj h;refine An rfl rfl ?_;exact⟨b.ext,rfl⟩
 have h:=Bw a h;refine Av<|Ao<|Bl 2 rfl<|Af (CL rfl AaG) rfl ?_;obtain⟨d,h⟩:=Ac h;refine Af (Py rfl rfl AaG d) rfl<|AB 2 rfl<|Az ?_;obtain rfl:=Option.some.inj h;refine An rfl rfl ?_;exact⟨b.ext,rfl⟩
def HH(a0:Aas)(a1:Aas):Option (Aas×Bool):=
 Option.bind (CH a0 a1) (fun a=>some (a.1,a.2))
theorem N4(w:World)(H:PH)(hH:Le H (hp w)){a0:Aas}{a1:Aas}{r:Aas×Bool}(h:HH a0 a1=some r):
  Ok Tryz.prog 165 [Aar a0,Aar a1] w (fun v w'=>Ext w w'∧v=.tuple #[Aar r.1,.bool r.2]):=by
 refine A5 (n:=11) [(0,(Aar a0)),(1,(Aar a1))] func165 rfl rfl rfl rfl rfl ?_;have hL:=AR.start w;refine AD 2 rfl<|Bl 2 rfl ?_;obtain⟨e,a,h⟩:=Go.L.bind_some h;refine Ax rfl rfl hL (Jr _ _ (As hH hL) a) ?_;rintro _ f rfl d b c;refine AB 4 rfl<|Az ?_;obtain rfl:=Option.some.inj h;refine An rfl rfl ?_;exact⟨b.ext,rfl⟩
end Go.Proofs.YtekmbcbgknmhiaaGreatDoor
end
noncomputable section
namespace Go.Proofs.YtekmbcbgknmhiaaGreatDoor
open Go Go.E Go.RowKit Go.Shelf
def Pc(s c:List UInt8):Option Int:=if 8<s.length∨c.length=1 then Go.L.AY (s.length<4294967281∧1≤c.length∧c.length<4294967281∧∀ b∈c,b.toNat<128) (some (Lib.indexAny s c)) else strings_IndexAny s c
theorem Wq(w:World)(H:PH)(hH:Le H (hp w)){a0 a1:List UInt8}{r:Int}(h:Pc a0 a1=some r):Ok Tryz.prog 167 [.string ⟨a0.toArray⟩,.string ⟨a1.toArray⟩] w (fun v w'=>Ext w w'∧v=.int .i64 r):=by
 unfold Pc at h;have hs:(ByteArray.mk a0.toArray).size=a0.length:=by simp [ByteArray.size]
 have hc:(ByteArray.mk a1.toArray).size=a1.length:=by simp [ByteArray.size]
 split at h
 ·rename_i hor;obtain⟨⟨c,k,d,f⟩,h⟩:=Go.L.Ac h;obtain rfl:=Option.some.inj h
  have hac:∀ (j:Nat) b,(ByteArray.mk a1.toArray).data.toList[j]? = some b→b.toNat<128:=fun j b hj=>f b (by
   have:=List.mem_of_getElem? hj
   simpa using this)
  refine⟨⟨Tryz.f167,_,Tryz.func167,rfl,rfl⟩,?_⟩
  by_cases g:a1.length=1
  ·refine(Any.strings_IndexAny_one (P:=Tryz.prog) Tryz.Xw ⟨a0.toArray⟩ ⟨a1.toArray⟩ w (by rw [hc];exact g) hac).mono fun e w' he=>?_;obtain⟨rfl,rfl⟩:=he;exact⟨_,rfl,Ext.refl _,by simp⟩
  ·have a:(Tryz.prog.info? (Tryz.P3.t 116)).map (fun i=>(i.zero,i.size))=some (some (.agg (Array.replicate 256 (.bool false))),256):=by kernel_rfl
   refine(Any.strings_IndexAny_long (P:=Tryz.prog) Tryz.Xw (zero_of_info a).1 (zero_of_info a).2 ⟨a0.toArray⟩ ⟨a1.toArray⟩ w (by rw [hc];omega) (by rw [hs];omega) (by rw [hs];exact c) (by rw [hc];exact d) hac).mono fun e w' he=>?_;obtain⟨rfl,rfl⟩:=he;exact⟨_,rfl,(Cl _ _).trans (Cl _ _),by simp⟩
 ·exact Oa w H hH h
end Go.Proofs.YtekmbcbgknmhiaaGreatDoor
end
noncomputable section
namespace Go.Proofs.YtekmbcbgknmhiaaGreatDoor
open Go Go.E Go.RowKit Go.L
set_option maxHeartbeats 1000000
set_option maxRecDepth 10000
open _root_.Go.Proofs.Tryz
def Bx(a0:Aas×Int)(a1:Aas):Option (Bool×(Aas×Int)):=
 Option.bind (HH a0.1 a1) (fun a=>if a.2 then some (a.2,(a.1,a0.2)) else some (a.2,(a0.1,a0.2)))
theorem B1{d w:World}{H:PH}(hH:Le H (hp d)){O:List AN}{a0:Aas×Int}{a1:Aas}{ba0:Nat}(hL:AR d (HAppend.hAppend ([.box ba0 [Aar a0.1,No a0.2] 86]:List AN) O) w){r:Bool×(Aas×Int)}(h:Bx a0 a1=some r):
  Ok Tryz.prog 111 [Aam ba0,Aar a1] w (fun v w'=>v=.bool r.1∧AR d (HAppend.hAppend ([.box ba0 [Aar r.2.1,No r.2.2] 86]:List AN) O) w'∧Le (fz w (HAppend.hAppend ([.box ba0 [Aar a0.1,No a0.2] 86]:List AN) O)) (fz w' (HAppend.hAppend ([.box ba0 [Aar r.2.1,No r.2.2] 86]:List AN) O))):=by
 refine A5 (n:=22) [(0,(Aam ba0)),(1,(Aar a1))] func111 rfl rfl rfl rfl rfl ?_;have hT:=Le.refl (fz w (HAppend.hAppend ([.box ba0 [Aar a0.1,No a0.2] 86]:List AN) O));refine AD 1 rfl<|Bl 1 rfl<|Af (Cp rfl) rfl<|Af (Ag rfl Ab2 rfl Fo (by decide)) rfl<|Af (Ah 0 rfl AaG rfl hL rfl rfl) rfl<|Ar 1 rfl ?_;obtain⟨j,f,h⟩:=Go.L.bind_some h;refine Ax rfl rfl hL (N4 _ _ (As hH hL) f) ?_;rintro _ k rfl i c a;refine AB 5 rfl<|A8<|AD 1 rfl<|By rfl (fun b=>?_) (fun b=>?_)
 ·have h:=Bv b h;refine Aq<|Ar 2 rfl<|Af (Cp rfl) rfl<|Af (Ag rfl Ab2 rfl Fo (by decide)) rfl<|Bi 0 rfl rfl rfl Fo c rfl rfl fun l g e=>AL<|Ao<|AD 2 rfl<|Az ?_;obtain rfl:=Option.some.inj h;refine An rfl rfl ?_;have hT:=hT.trans (a.trans e);exact⟨rfl,g,hT⟩
 have h:=Bw b h;refine Av<|Ao<|AD 2 rfl<|Az ?_;obtain rfl:=Option.some.inj h;refine An rfl rfl ?_;have hT:=hT.trans a;exact⟨rfl,c,hT⟩
def DA(a1:Int)(y8:Go.L.Qv×(Aas×Int))(a:List Go.L.Qv)(b:Aas)(c:Int):Option (Option (Go.L.Qv×(Aas×Int))):=
 if(a.length:Int)=(1:Int) then some (some (y8.1,(b,c))) else some (some ((Go.L.Qv.mk a1 ([]) ([]:Aas) ([]) (0:Int) (0:Int) a),(b,c)))
def Dn(a1:Int)(a2:Aas)(self:(Aas×Int)→Option (Option (Go.L.Qv×(Aas×Int))))(y8:Go.L.Qv×(Aas×Int)):(List Go.L.Qv)×Aas×Int→Option (((List Go.L.Qv)×Aas×Int) ⊕ (Option (Go.L.Qv×(Aas×Int)))):=fun⟨b,c,d⟩=>
 Option.bind (Bx (c,d) a2) (fun a=>if a.1 then Option.bind (self (a.2.1,a.2.2)) (fun e=>Qc e (Option.map Sum.inr (some none)) (fun y86=>AY (Go.E.JE 112 (b.length+([y86.1]).length)) (some (Sum.inl ((b++[y86.1]),y86.2.1,y86.2.2))))) else Option.map Sum.inr ((DA a1 y8) b a.2.1 a.2.2))
def F9(a1:Int)(a2:Aas)(self:(Aas×Int)→Option (Option (Go.L.Qv×(Aas×Int))))(y8:Go.L.Qv×(Aas×Int))(s:(List Go.L.Qv)×Aas×Int):Option (Option (Go.L.Qv×(Aas×Int))):=Go.L.run (Dn a1 a2 self y8) s
def E9(self:(Aas×Int)→Option (Option (Go.L.Qv×(Aas×Int))))(a0:Aas×Int)(a1:Int)(a2:Aas):Option (Option (Go.L.Qv×(Aas×Int))):=
 Option.bind (self (a0.1,a0.2)) (fun a=>Qc a (some none) (fun y8=>(F9 a1 a2 self y8) ([y8.1],y8.2.1,y8.2.2)))
theorem Li{self:(Aas×Int)→Option (Option (Go.L.Qv×(Aas×Int)))}(hself:∀ {a w:World} {H:PH} (hH:Le H (hp a)) (hU:Dt H) {O:List AN} {a0:Aas×Int} {ba0:Nat} (hL:AR a (HAppend.hAppend ([.box ba0 [Aar a0.1,No a0.2] 86]:List AN) O) w) {r:Option (Go.L.Qv×(Aas×Int))} (h:self a0=some r),QP Tryz.prog 70 [Aam ba0] w (.iface 82 (.agg #[])) (fun v w'=>RX r v (fun r v=>∃ (u1:Value) (u3:Value) (u6:Value),v=.agg #[No r.1.f.1,u1,Aar r.1.f.2.2.1,u3,No r.1.f.2.2.2.2.1,No r.1.f.2.2.2.2.2.1,u6]∧AR a (HAppend.hAppend ([.box ba0 [Aar r.2.1,No r.2.2] 86]:List AN) O) w'∧Le (fz w (HAppend.hAppend ([.box ba0 [Aar a0.1,No a0.2] 86]:List AN) O)) (fz w' (HAppend.hAppend ([.box ba0 [Aar r.2.1,No r.2.2] 86]:List AN) O))∧AI .st (gz H a w' (HAppend.hAppend ([.box ba0 [Aar r.2.1,No r.2.2] 86]:List AN) O)) u1 (r.1.f.2.1)∧AI .byte (gz H a w' (HAppend.hAppend ([.box ba0 [Aar r.2.1,No r.2.2] 86]:List AN) O)) u3 (r.1.f.2.2.2.1)∧AI .AV (gz H a w' (HAppend.hAppend ([.box ba0 [Aar r.2.1,No r.2.2] 86]:List AN) O)) u6 (r.1.f.2.2.2.2.2.2)) (AR a O w'∧Le (fz w (HAppend.hAppend ([.box ba0 [Aar a0.1,No a0.2] 86]:List AN) O)) (fz w' O)))){a w:World}{H:PH}(hH:Le H (hp a))(hU:Dt H){O:List AN}{a0:Aas×Int}{a1:Int}{a2:Aas}{ba0:Nat}(hL:AR a (HAppend.hAppend ([.box ba0 [Aar a0.1,No a0.2] 86]:List AN) O) w){r:Option (Go.L.Qv×(Aas×Int))}(h:E9 self a0 a1 a2=some r):
  QP Tryz.prog 69 [Aam ba0,No a1,Aar a2,.func (.func 70) #[Aam ba0] #[]] w (.iface 82 (.agg #[])) (fun v w'=>RX r v (fun r v=>∃ (u1:Value) (u3:Value) (u6:Value),v=.agg #[No r.1.f.1,u1,Aar r.1.f.2.2.1,u3,No r.1.f.2.2.2.2.1,No r.1.f.2.2.2.2.2.1,u6]∧AR a (HAppend.hAppend ([.box ba0 [Aar r.2.1,No r.2.2] 86]:List AN) O) w'∧Le (fz w (HAppend.hAppend ([.box ba0 [Aar a0.1,No a0.2] 86]:List AN) O)) (fz w' (HAppend.hAppend ([.box ba0 [Aar r.2.1,No r.2.2] 86]:List AN) O))∧AI .st (gz H a w' (HAppend.hAppend ([.box ba0 [Aar r.2.1,No r.2.2] 86]:List AN) O)) u1 (r.1.f.2.1)∧AI .byte (gz H a w' (HAppend.hAppend ([.box ba0 [Aar r.2.1,No r.2.2] 86]:List AN) O)) u3 (r.1.f.2.2.2.1)∧AI .AV (gz H a w' (HAppend.hAppend ([.box ba0 [Aar r.2.1,No r.2.2] 86]:List AN) O)) u6 (r.1.f.2.2.2.2.2.2)) (AR a O w'∧Le (fz w (HAppend.hAppend ([.box ba0 [Aar a0.1,No a0.2] 86]:List AN) O)) (fz w' O))):=by
 refine Ia (n:=30) [(0,(Aam ba0)),(1,No a1),(2,(Aar a2)),(3,.func (.func 70) #[Aam ba0] #[])] func69 rfl rfl rfl rfl rfl ?_;have hT:=Le.refl (fz w (HAppend.hAppend ([.box ba0 [Aar a0.1,No a0.2] 86]:List AN) O));refine Al<|AJ Bc rfl rfl hL fun w1 b1 b2 aw _=>Ad<|Bl 1 rfl ?_;have b3:AR a (HAppend.hAppend ([.box ba0 [Aar a0.1,No a0.2] 86,.box b1 [No (0:Int),Aak,.string ⟨(([]:Aas)).toArray⟩,Aak,No (0:Int),No (0:Int),Aak] 26]:List AN) O) w1:=b2.Cq [1] rfl;have ax:=B5 [1] b2 b3 rfl;obtain⟨x3,cn,h⟩:=Go.L.bind_some h;refine OK [Aam ba0] [] rfl rfl rfl (hself (a0:=(a0.1,a0.2)) (O:=(HAppend.hAppend ([.box b1 [No (0:Int),Aak,.string ⟨(([]:Aas)).toArray⟩,Aak,No (0:Int),No (0:Int),Aak] 26]:List AN) O)) hH hU b3 cn) ?_ ?_
 ·rintro rfl w5 ⟨co,b5⟩;have h:=Dv h;refine B3 ?_;obtain rfl:=Option.some.inj h;refine Dy ?_;have cp:=co.AP (i:=0) rfl;have hT:=hT.trans (aw.trans (ax.trans (b5.trans (Am (i:=0) rfl))));exact Cz ⟨cp,hT⟩
 rintro y8 rfl _ w4 ⟨g,j,k,rfl,cq,bj,s,t,u⟩;have h:=Dw h;refine AJ Bc rfl rfl cq fun w9 b9 cr ac _=>Ak 0 rfl rfl rfl Bc cr rfl rfl (AF rfl (AF s.one (AF rfl (AF t.one (AF rfl (AF rfl (AF u.one BM))))))) fun c2 ay x=>Ad ?_;have p:=ay.rG H;refine Al<|Af (AE 0 rfl AaY rfl Bc ay rfl) rfl ?_;have s:=s.mono (Ab hH (ac.trans x));have t:=t.mono (Ab hH (ac.trans x));have u:=u.mono (Ab hH (ac.trans x));refine JJ (r:=.AV) (l:=[y8.1]) rfl (fun _=>Jw _ _ _ _ _ _ _ _) rfl (show 1≤9223372036854775807 by decide) hH ay (.c7 (Go.E.Rp.DH ⟨_,_,rfl,rfl,⟨_,_,rfl,⟨_,rfl,(s.mono p)⟩,⟨_,_,rfl,rfl,⟨_,_,rfl,⟨_,rfl,(t.mono p)⟩,⟨_,_,rfl,rfl,⟨_,_,rfl,rfl,⟨_,rfl,(u.mono p)⟩⟩⟩⟩⟩⟩⟩) .nil) fun cs c3 b6 b7 ai b8=>AB 1 rfl ?_
 refine Bm (σ:=(List Go.L.Qv)×Aas×Int×Value×(List Value)) (fun⟨am,a8,a9,ad,aa⟩=>[(1,No a1),(8,(Aam b1)),(9,(Aam b9)),(10,ad)]) (fun⟨am,a8,a9,ad,aa⟩ wr=>DM a (HAppend.hAppend ([.row (ad) 26 7 (am).length (aa),.box b9 [No y8.1.f.1,g,Aar y8.1.f.2.2.1,j,No y8.1.f.2.2.2.2.1,No y8.1.f.2.2.2.2.2.1,k] 26,.box ba0 [Aar a8,No a9] 86,.box b1 [No (0:Int),Aak,.string ⟨(([]:Aas)).toArray⟩,Aak,No (0:Int),No (0:Int),Aak] 26]:List AN) O) wr fun Oz=>AM .AV (gz H a wr Oz) (am) (aa)∧AI .st (gz H a wr Oz) (g) (y8.1.f.2.1)∧AI .byte (gz H a wr Oz) (j) (y8.1.f.2.2.2.1)∧AI .AV (gz H a wr Oz) (k) (y8.1.f.2.2.2.2.2.2)∧Le (fz w (HAppend.hAppend ([.box ba0 [Aar a0.1,No a0.2] 86]:List AN) O)) (fz wr Oz)∧(DA a1 y8) am a8 a9=some r) ?_ ?_
 ·refine A4 ?_;obtain⟨bk,h⟩:=Bb h;have hT:=hT.trans (aw.trans (ax.trans (bj.trans (ac.trans (x.trans ai)))));have p:=p.trans (Ab hH ai)
  refine Bu (σ:=(List Go.L.Qv)×Aas×Int×Value×(List Value)×Nat) (fun⟨e,ae,af,o,c,n⟩=>[(0,(Aam ba0)),(1,No a1),(2,(Aar a2)),(3,.func (.func 70) #[Aam ba0] #[]),(8,(Aam b1)),(9,(Aam b9)),(10,o)]) (fun⟨e,ae,af,o,c,n⟩ wr=>DM a (HAppend.hAppend ([.row (o) 26 7 (e).length (c),.box b9 [No y8.1.f.1,g,Aar y8.1.f.2.2.1,j,No y8.1.f.2.2.2.2.1,No y8.1.f.2.2.2.2.2.1,k] 26,.box ba0 [Aar ae,No af] 86,.box b1 [No (0:Int),Aak,.string ⟨(([]:Aas)).toArray⟩,Aak,No (0:Int),No (0:Int),Aak] 26]:List AN) O) wr fun Oz=>AM .AV (gz H a wr Oz) (e) (c)∧AI .st (gz H a wr Oz) (g) (y8.1.f.2.1)∧AI .byte (gz H a wr Oz) (j) (y8.1.f.2.2.2.1)∧AI .AV (gz H a wr Oz) (k) (y8.1.f.2.2.2.2.2.2)∧Le (fz w (HAppend.hAppend ([.box ba0 [Aar a0.1,No a0.2] 86]:List AN) O)) (fz wr Oz)∧FM (Dn a1 a2 self y8) n (e,ae,af)=some r) (fun⟨e,ae,af,o,c,n⟩=>n) ([y8.1],y8.2.1,y8.2.2,cs,b6,bk) (.cons rfl (.cons rfl (.cons rfl (.cons rfl (.cons rfl (.cons rfl (.cons rfl (Sub.nil _)))))))) ⟨b7,b8,(s.mono p),(t.mono p),(u.mono p),hT,h⟩ ?_
  rintro⟨e,ae,af,o,c,nn71⟩ ca ⟨az,ba,an,ao,ap,hT,h⟩;obtain⟨bk,c4,rfl,h,a3⟩:=Ba h;refine A8 ?_;have b:=az.rG H;refine Bl 2 rfl ?_;have bl:AR a (HAppend.hAppend ([.box ba0 [Aar ae,No af] 86,.row (o) 26 7 (e).length (c),.box b9 [No y8.1.f.1,g,Aar y8.1.f.2.2.1,j,No y8.1.f.2.2.2.2.1,No y8.1.f.2.2.2.2.2.1,k] 26,.box b1 [No (0:Int),Aak,.string ⟨(([]:Aas)).toArray⟩,Aak,No (0:Int),No (0:Int),Aak] 26]:List AN) O) ca:=az.Cq [2] rfl;have y:=B5 [2] az bl rfl;obtain⟨ag,cb,h⟩:=Go.L.bind_some h;refine Du rfl rfl (B1 (a0:=(ae,af)) (a1:=a2) (O:=(HAppend.hAppend ([.row (o) 26 7 (e).length (c),.box b9 [No y8.1.f.1,g,Aar y8.1.f.2.2.1,j,No y8.1.f.2.2.2.2.1,No y8.1.f.2.2.2.2.2.1,k] 26,.box b1 [No (0:Int),Aak,.string ⟨(([]:Aas)).toArray⟩,Aak,No (0:Int),No (0:Int),Aak] 26]:List AN) O)) hH bl cb) ?_;rintro _ ct ⟨rfl,a4,z⟩;refine Ad<|By rfl (fun a5=>?_) (fun a5=>?_)
  ·have h:=Bv a5 h;refine Av<|Ao<|A4<|Aq<|Ar 2 rfl ?_;obtain⟨c5,cc,h⟩:=Go.L.bind_some h;refine OK [Aam ba0] [] rfl rfl rfl (hself (a0:=(ag.2.1,ag.2.2)) (O:=(HAppend.hAppend ([.row (o) 26 7 (e).length (c),.box b9 [No y8.1.f.1,g,Aar y8.1.f.2.2.1,j,No y8.1.f.2.2.2.2.1,No y8.1.f.2.2.2.2.2.1,k] 26,.box b1 [No (0:Int),Aak,.string ⟨(([]:Aas)).toArray⟩,Aak,No (0:Int),No (0:Int),Aak] 26]:List AN) O)) hH hU a4 cc) ?_ ?_
   ·rintro rfl c6 ⟨cd,bu⟩;have h:=Dv h;refine B6<|IA ?_;have h:=BF.out h a3;refine B6<|ET ?_;obtain rfl:=Option.some.inj h;refine Dy ?_;have ce:=cd.AP (i:=0) rfl;have cf:=ce.AP (i:=0) rfl;have cg:=cf.AP (i:=0) rfl;have hT:=hT.trans (y.trans (z.trans (bu.trans ((Am (i:=0) rfl).trans ((Am (i:=0) rfl).trans (Am (i:=0) rfl))))));exact Cz ⟨cg,hT⟩
   rintro y86 rfl _ c8 ⟨cv,cw,cx,rfl,ch,bb,bm,bn,bo⟩;have h:=Dw h;refine Br (r:=.AV) (l:=[y86.1]) rfl (fun _=>Jw _ _ _ _ _ _ _ _) rfl (show 1≤9223372036854775807 by decide) hH ch (.c7 (Go.E.Rp.DH ⟨_,_,rfl,rfl,⟨_,_,rfl,⟨_,rfl,bm⟩,⟨_,_,rfl,rfl,⟨_,_,rfl,⟨_,rfl,bn⟩,⟨_,_,rfl,rfl,⟨_,_,rfl,rfl,⟨_,rfl,bo⟩⟩⟩⟩⟩⟩⟩) .nil) ?_;intro c9 da cz ci bc cj;obtain⟨ck,h⟩:=Ac h;have b:=b.trans (Ab hH (y.trans (z.trans (bb.trans bc))));refine Bo (r:=.AV) (l:=e) (m:=[y86.1]) 1 rfl rfl Abx Bc rfl (by decide) rfl hH ci rfl (ba.mono b) cj ck fun b4 cu bp bq bd a6=>Ar 1 rfl<|AL<|AA ?_;have br:AR a (HAppend.hAppend ([.row (b4) 26 7 ((e++[y86.1])).length (bp),.box b9 [No y8.1.f.1,g,Aar y8.1.f.2.2.1,j,No y8.1.f.2.2.2.2.1,No y8.1.f.2.2.2.2.2.1,k] 26,.box ba0 [Aar y86.2.1,No y86.2.2] 86,.box b1 [No (0:Int),Aak,.string ⟨(([]:Aas)).toArray⟩,Aak,No (0:Int),No (0:Int),Aak] 26]:List AN) O) cu:=bq.Cq [2,2] rfl;have aj:=B5 [2,2] bq br rfl;have h:=BF.again h a3
   have hT:=hT.trans (y.trans (z.trans (bb.trans (bc.trans (bd.trans aj)))));have b:=b.trans (Ab hH (bd.trans aj));have a6:=a6.mono (Ab hH aj);refine AO ((e++[y86.1]),y86.2.1,y86.2.2,b4,bp,bk) (.cons rfl (.cons rfl (.cons rfl (.cons rfl (.cons rfl (.cons rfl (.cons rfl (Sub.nil _)))))))) ⟨br,a6,(an.mono b),(ao.mono b),(ap.mono b),hT,h⟩ (Nat.lt_succ_self _)
  have h:=Bw a5 h;refine Bq<|AH<|A6 ?_;have h:=BF.out h a3;refine Bf ?_;have bs:AR a (HAppend.hAppend ([.row (o) 26 7 (e).length (c),.box b9 [No y8.1.f.1,g,Aar y8.1.f.2.2.1,j,No y8.1.f.2.2.2.2.1,No y8.1.f.2.2.2.2.2.1,k] 26,.box ba0 [Aar ag.2.1,No ag.2.2] 86,.box b1 [No (0:Int),Aak,.string ⟨(([]:Aas)).toArray⟩,Aak,No (0:Int),No (0:Int),Aak] 26]:List AN) O) ct:=a4.Cq [2,2] rfl;have be:=B5 [2,2] a4 bs rfl;have b:=b.trans (Ab hH (y.trans (z.trans be)));have hT:=hT.trans (y.trans (z.trans be));refine A9 (e,ag.2.1,ag.2.2,o,c) (.cons rfl (.cons rfl (.cons rfl (.cons rfl (Sub.nil _))))) ⟨bs,(ba.mono b),(an.mono b),(ao.mono b),(ap.mono b),hT,h⟩
 have hT:=hT.trans (aw.trans (ax.trans (bj.trans (ac.trans (x.trans ai)))));rintro⟨am,a8,a9,ad,aa⟩ c0 ⟨q,bv,aq,ar,au,hT,h⟩;refine A8 ?_;have d:=q.rG H;refine Bl 1 rfl<|Af (Po (i:=0) rfl Abx q rfl) rfl<|AB 1 rfl<|Bg rfl (fun a7=>?_) (fun a7=>?_)
 ·have h:=A1 a7 h;refine Al<|Af (AE 1 rfl AaY rfl Bc q rfl) rfl<|Ak 3 rfl rfl rfl Bc q rfl rfl (AF rfl (AF (aq.mono d).one (AF rfl (AF (ar.mono d).one (AF rfl (AF rfl (AF (au.mono d).one BM))))))) fun db bt bf=>Ad<|Az<|Au ?_;obtain rfl:=Option.some.inj h;refine FB<|B7 rfl (.cell rfl AaY rfl Bc (AS (i:=3) bt rfl)) ?_;have cl:=bt.AP (i:=0) rfl;have cm:=cl.AP (i:=0) rfl;have bw:=cm.AP (i:=1) rfl;have d:=d.trans (Ab hH (bf.trans ((Am (i:=0) rfl).trans ((Am (i:=0) rfl).trans (Am (i:=1) rfl)))));have hT:=hT.trans (bf.trans ((Am (i:=0) rfl).trans ((Am (i:=0) rfl).trans (Am (i:=1) rfl))));exact Dx ⟨g,j,k,rfl,bw,hT,(aq.mono d),(ar.mono d),(au.mono d)⟩
 have h:=A2 a7 h;refine Av<|Ao<|Bl 2 rfl<|Af (AW rfl (fun _=>KC _ _ (row_one (q.at (i:=0) rfl)) _)) rfl<|Ak 3 rfl rfl rfl Bc q rfl rfl (AF rfl (AF rfl (AF rfl (AF rfl (AF rfl (AF rfl (AF (row_one (q.at (i:=0) rfl)) BM))))))) fun c1 ak av=>Ad<|Az ?_;obtain rfl:=Option.some.inj h;refine FB<|B7 rfl (.cell rfl AaY rfl Bc (AS (i:=3) ak rfl)) ?_;have d:=d.trans (Ab hH av);have al:=ak.Ct hH (i:=0) rfl (bv.mono d);have bx:=ak.AP (i:=0) rfl;have bz:=bx.AP (i:=0) rfl;have b0:=bz.AP (i:=1) rfl;have hT:=hT.trans (av.trans ((Am (i:=0) rfl).trans ((Am (i:=0) rfl).trans (Am (i:=1) rfl))));have al:=al.mono (Ab hH ((Am (i:=0) rfl).trans (Am (i:=1) rfl)));exact Dx ⟨Aak,Aak,ad,rfl,b0,hT,(AI.nil _ _),(AI.nil _ _),al⟩
def DR(self:(Aas×Int)→Option (Option (Go.L.Qv×(Aas×Int))))(a0_0:Aas×Int):Option (Option (Go.L.Qv×(Aas×Int))):=
 Option.bind (E9 self (a0_0.1,a0_0.2) (8:Int) ([38]:Aas)) (fun a=>Qc a (some none) (fun y9=>some (some (y9.1,(y9.2.1,y9.2.2)))))
theorem IJ{self:(Aas×Int)→Option (Option (Go.L.Qv×(Aas×Int)))}(hself:∀ {a w:World} {H:PH} (hH:Le H (hp a)) (hU:Dt H) {O:List AN} {a0:Aas×Int} {ba0:Nat} (hL:AR a (HAppend.hAppend ([.box ba0 [Aar a0.1,No a0.2] 86]:List AN) O) w) {r:Option (Go.L.Qv×(Aas×Int))} (h:self a0=some r),QP Tryz.prog 70 [Aam ba0] w (.iface 82 (.agg #[])) (fun v w'=>RX r v (fun r v=>∃ (j:Value) (k:Value) (l:Value),v=.agg #[No r.1.f.1,j,Aar r.1.f.2.2.1,k,No r.1.f.2.2.2.2.1,No r.1.f.2.2.2.2.2.1,l]∧AR a (HAppend.hAppend ([.box ba0 [Aar r.2.1,No r.2.2] 86]:List AN) O) w'∧Le (fz w (HAppend.hAppend ([.box ba0 [Aar a0.1,No a0.2] 86]:List AN) O)) (fz w' (HAppend.hAppend ([.box ba0 [Aar r.2.1,No r.2.2] 86]:List AN) O))∧AI .st (gz H a w' (HAppend.hAppend ([.box ba0 [Aar r.2.1,No r.2.2] 86]:List AN) O)) j (r.1.f.2.1)∧AI .byte (gz H a w' (HAppend.hAppend ([.box ba0 [Aar r.2.1,No r.2.2] 86]:List AN) O)) k (r.1.f.2.2.2.1)∧AI .AV (gz H a w' (HAppend.hAppend ([.box ba0 [Aar r.2.1,No r.2.2] 86]:List AN) O)) l (r.1.f.2.2.2.2.2.2)) (AR a O w'∧Le (fz w (HAppend.hAppend ([.box ba0 [Aar a0.1,No a0.2] 86]:List AN) O)) (fz w' O)))){a w:World}{H:PH}(hH:Le H (hp a))(hU:Dt H){O:List AN}{a0_0:Aas×Int}{ba0:Nat}{ba0_0:Nat}(hL:AR a (HAppend.hAppend ([.box ba0 [Aam ba0_0] 84,.box ba0_0 [Aar a0_0.1,No a0_0.2] 86]:List AN) O) w){r:Option (Go.L.Qv×(Aas×Int))}(h:DR self a0_0=some r):
  QP Tryz.prog 68 [Aam ba0] w (.iface 82 (.agg #[])) (fun v w'=>RX r v (fun r v=>∃ (j:Value) (k:Value) (l:Value),v=.agg #[No r.1.f.1,j,Aar r.1.f.2.2.1,k,No r.1.f.2.2.2.2.1,No r.1.f.2.2.2.2.2.1,l]∧AR a (HAppend.hAppend ([.box ba0 [Aam ba0_0] 84,.box ba0_0 [Aar r.2.1,No r.2.2] 86]:List AN) O) w'∧Le (fz w (HAppend.hAppend ([.box ba0 [Aam ba0_0] 84,.box ba0_0 [Aar a0_0.1,No a0_0.2] 86]:List AN) O)) (fz w' (HAppend.hAppend ([.box ba0 [Aam ba0_0] 84,.box ba0_0 [Aar r.2.1,No r.2.2] 86]:List AN) O))∧AI .st (gz H a w' (HAppend.hAppend ([.box ba0 [Aam ba0_0] 84,.box ba0_0 [Aar r.2.1,No r.2.2] 86]:List AN) O)) j (r.1.f.2.1)∧AI .byte (gz H a w' (HAppend.hAppend ([.box ba0 [Aam ba0_0] 84,.box ba0_0 [Aar r.2.1,No r.2.2] 86]:List AN) O)) k (r.1.f.2.2.2.1)∧AI .AV (gz H a w' (HAppend.hAppend ([.box ba0 [Aam ba0_0] 84,.box ba0_0 [Aar r.2.1,No r.2.2] 86]:List AN) O)) l (r.1.f.2.2.2.2.2.2)) (AR a O w'∧Le (fz w (HAppend.hAppend ([.box ba0 [Aam ba0_0] 84,.box ba0_0 [Aar a0_0.1,No a0_0.2] 86]:List AN) O)) (fz w' O))):=by
 refine Ia (n:=6) [(0,(Aam ba0))] func68 rfl rfl rfl rfl rfl ?_;have hT:=Le.refl (fz w (HAppend.hAppend ([.box ba0 [Aam ba0_0] 84,.box ba0_0 [Aar a0_0.1,No a0_0.2] 86]:List AN) O));refine Al<|AJ Bc rfl rfl hL fun w1 b1 m o _=>Ad<|Al ?_
 iterate 2 refine Af (Ah 1 rfl Ab3 rfl m rfl rfl) rfl ?_
 refine Ar 1 rfl ?_;have u:AR a (HAppend.hAppend ([.box ba0_0 [Aar a0_0.1,No a0_0.2] 86,.box b1 [No (0:Int),Aak,.string ⟨(([]:Aas)).toArray⟩,Aak,No (0:Int),No (0:Int),Aak] 26,.box ba0 [Aam ba0_0] 84]:List AN) O) w1:=m.Cq [2] rfl;have p:=B5 [2] m u rfl;obtain⟨x3,ad,h⟩:=Go.L.bind_some h;refine Fv rfl rfl (Li (hself:=hself) (a0:=(a0_0.1,a0_0.2)) (a1:=(8:Int)) (a2:=([38]:Aas)) (O:=(HAppend.hAppend ([.box b1 [No (0:Int),Aak,.string ⟨(([]:Aas)).toArray⟩,Aak,No (0:Int),No (0:Int),Aak] 26,.box ba0 [Aam ba0_0] 84]:List AN) O)) hH hU u ad) ?_ ?_
 ·rintro rfl w5 ⟨ae,x⟩;have h:=Dv h;refine B3 ?_;obtain rfl:=Option.some.inj h;refine Dy ?_;have af:=ae.AP (i:=0) rfl;have ag:=af.AP (i:=0) rfl;have hT:=hT.trans (o.trans (p.trans (x.trans ((Am (i:=0) rfl).trans (Am (i:=0) rfl)))));exact Cz ⟨ag,hT⟩
 rintro y9 rfl _ w4 ⟨y,z,aa,rfl,ah,ab,b,c,d⟩;have h:=Dw h;refine Ak 1 rfl rfl rfl Bc ah rfl rfl (AF rfl (AF b.one (AF rfl (AF c.one (AF rfl (AF rfl (AF d.one BM))))))) fun ai q e=>Ad<|Az ?_;obtain rfl:=Option.some.inj h;refine FB<|B7 rfl (.cell rfl AaY rfl Bc (AS (i:=1) q rfl)) ?_;have s:=q.AP (i:=1) rfl;have t:AR a (HAppend.hAppend ([.box ba0 [Aam ba0_0] 84,.box ba0_0 [Aar y9.2.1,No y9.2.2] 86]:List AN) O) ai:=s.Cq [1] rfl;have g:=B5 [1] s t rfl;have hT:=hT.trans (o.trans (p.trans (ab.trans (e.trans ((Am (i:=1) rfl).trans g)))));have b:=b.mono (Ab hH (e.trans ((Am (i:=1) rfl).trans g)));have c:=c.mono (Ab hH (e.trans ((Am (i:=1) rfl).trans g)));have d:=d.mono (Ab hH (e.trans ((Am (i:=1) rfl).trans g)));exact Dx ⟨y,z,aa,rfl,t,hT,b,c,d⟩
def EA(a1:Int)(y8:Go.L.Qv×(Aas×Int))(a:List Go.L.Qv)(b:Aas)(c:Int):Option (Option (Go.L.Qv×(Aas×Int))):=
 if(a.length:Int)=(1:Int) then some (some (y8.1,(b,c))) else some (some ((Go.L.Qv.mk a1 ([]) ([]:Aas) ([]) (0:Int) (0:Int) a),(b,c)))
def Ef(a1:Int)(a2:Aas)(self:(Aas×Int)→Option (Option (Go.L.Qv×(Aas×Int))))(y8:Go.L.Qv×(Aas×Int)):(List Go.L.Qv)×Aas×Int→Option (((List Go.L.Qv)×Aas×Int) ⊕ (Option (Go.L.Qv×(Aas×Int)))):=fun⟨b,c,d⟩=>
 Option.bind (Bx (c,d) a2) (fun a=>if a.1 then Option.bind (DR self (a.2.1,a.2.2)) (fun e=>Qc e (Option.map Sum.inr (some none)) (fun y90=>AY (Go.E.JE 112 (b.length+([y90.1]).length)) (some (Sum.inl ((b++[y90.1]),y90.2.1,y90.2.2))))) else Option.map Sum.inr ((EA a1 y8) b a.2.1 a.2.2))
def GH(a1:Int)(a2:Aas)(self:(Aas×Int)→Option (Option (Go.L.Qv×(Aas×Int))))(y8:Go.L.Qv×(Aas×Int))(s:(List Go.L.Qv)×Aas×Int):Option (Option (Go.L.Qv×(Aas×Int))):=Go.L.run (Ef a1 a2 self y8) s
def Gf(self:(Aas×Int)→Option (Option (Go.L.Qv×(Aas×Int))))(a0:Aas×Int)(a1:Int)(a2:Aas):Option (Option (Go.L.Qv×(Aas×Int))):=
 Option.bind (DR self (a0.1,a0.2)) (fun a=>Qc a (some none) (fun y8=>(GH a1 a2 self y8) ([y8.1],y8.2.1,y8.2.2)))
theorem Md{self:(Aas×Int)→Option (Option (Go.L.Qv×(Aas×Int)))}(hself:∀ {a w:World} {H:PH} (hH:Le H (hp a)) (hU:Dt H) {O:List AN} {a0:Aas×Int} {ba0:Nat} (hL:AR a (HAppend.hAppend ([.box ba0 [Aar a0.1,No a0.2] 86]:List AN) O) w) {r:Option (Go.L.Qv×(Aas×Int))} (h:self a0=some r),QP Tryz.prog 70 [Aam ba0] w (.iface 82 (.agg #[])) (fun v w'=>RX r v (fun r v=>∃ (u1:Value) (u3:Value) (u6:Value),v=.agg #[No r.1.f.1,u1,Aar r.1.f.2.2.1,u3,No r.1.f.2.2.2.2.1,No r.1.f.2.2.2.2.2.1,u6]∧AR a (HAppend.hAppend ([.box ba0 [Aar r.2.1,No r.2.2] 86]:List AN) O) w'∧Le (fz w (HAppend.hAppend ([.box ba0 [Aar a0.1,No a0.2] 86]:List AN) O)) (fz w' (HAppend.hAppend ([.box ba0 [Aar r.2.1,No r.2.2] 86]:List AN) O))∧AI .st (gz H a w' (HAppend.hAppend ([.box ba0 [Aar r.2.1,No r.2.2] 86]:List AN) O)) u1 (r.1.f.2.1)∧AI .byte (gz H a w' (HAppend.hAppend ([.box ba0 [Aar r.2.1,No r.2.2] 86]:List AN) O)) u3 (r.1.f.2.2.2.1)∧AI .AV (gz H a w' (HAppend.hAppend ([.box ba0 [Aar r.2.1,No r.2.2] 86]:List AN) O)) u6 (r.1.f.2.2.2.2.2.2)) (AR a O w'∧Le (fz w (HAppend.hAppend ([.box ba0 [Aar a0.1,No a0.2] 86]:List AN) O)) (fz w' O)))){a w:World}{H:PH}(hH:Le H (hp a))(hU:Dt H){O:List AN}{a0:Aas×Int}{a1:Int}{a2:Aas}{ba0:Nat}{ba3_c0:Nat}(hL:AR a (HAppend.hAppend ([.box ba0 [Aar a0.1,No a0.2] 86,.box ba3_c0 [Aam ba0] 84]:List AN) O) w){r:Option (Go.L.Qv×(Aas×Int))}(h:Gf self a0 a1 a2=some r):
  QP Tryz.prog 69 [Aam ba0,No a1,Aar a2,.func (.func 68) #[] #[Aam ba3_c0]] w (.iface 82 (.agg #[])) (fun v w'=>RX r v (fun r v=>∃ (u1:Value) (u3:Value) (u6:Value),v=.agg #[No r.1.f.1,u1,Aar r.1.f.2.2.1,u3,No r.1.f.2.2.2.2.1,No r.1.f.2.2.2.2.2.1,u6]∧AR a (HAppend.hAppend ([.box ba0 [Aar r.2.1,No r.2.2] 86,.box ba3_c0 [Aam ba0] 84]:List AN) O) w'∧Le (fz w (HAppend.hAppend ([.box ba0 [Aar a0.1,No a0.2] 86,.box ba3_c0 [Aam ba0] 84]:List AN) O)) (fz w' (HAppend.hAppend ([.box ba0 [Aar r.2.1,No r.2.2] 86,.box ba3_c0 [Aam ba0] 84]:List AN) O))∧AI .st (gz H a w' (HAppend.hAppend ([.box ba0 [Aar r.2.1,No r.2.2] 86,.box ba3_c0 [Aam ba0] 84]:List AN) O)) u1 (r.1.f.2.1)∧AI .byte (gz H a w' (HAppend.hAppend ([.box ba0 [Aar r.2.1,No r.2.2] 86,.box ba3_c0 [Aam ba0] 84]:List AN) O)) u3 (r.1.f.2.2.2.1)∧AI .AV (gz H a w' (HAppend.hAppend ([.box ba0 [Aar r.2.1,No r.2.2] 86,.box ba3_c0 [Aam ba0] 84]:List AN) O)) u6 (r.1.f.2.2.2.2.2.2)) (AR a O w'∧Le (fz w (HAppend.hAppend ([.box ba0 [Aar a0.1,No a0.2] 86,.box ba3_c0 [Aam ba0] 84]:List AN) O)) (fz w' O))):=by
 refine Ia (n:=30) [(0,(Aam ba0)),(1,No a1),(2,(Aar a2)),(3,.func (.func 68) #[] #[Aam ba3_c0])] func69 rfl rfl rfl rfl rfl ?_;have hT:=Le.refl (fz w (HAppend.hAppend ([.box ba0 [Aar a0.1,No a0.2] 86,.box ba3_c0 [Aam ba0] 84]:List AN) O));refine Al<|AJ Bc rfl rfl hL fun w1 b1 ce a7 _=>Ad<|Bl 1 rfl ?_;have cf:AR a (HAppend.hAppend ([.box ba3_c0 [Aam ba0] 84,.box ba0 [Aar a0.1,No a0.2] 86,.box b1 [No (0:Int),Aak,.string ⟨(([]:Aas)).toArray⟩,Aak,No (0:Int),No (0:Int),Aak] 26]:List AN) O) w1:=ce.Cq [1,2] rfl;have a8:=B5 [1,2] ce cf rfl;obtain⟨x3,cy,h⟩:=Go.L.bind_some h;refine OK [] [Aam ba3_c0] rfl rfl rfl (IJ (hself:=hself) (a0_0:=(a0.1,a0.2)) (O:=(HAppend.hAppend ([.box b1 [No (0:Int),Aak,.string ⟨(([]:Aas)).toArray⟩,Aak,No (0:Int),No (0:Int),Aak] 26]:List AN) O)) hH hU cf cy) ?_ ?_
 ·rintro rfl w5 ⟨cz,ch⟩;have h:=Dv h;refine B3 ?_;obtain rfl:=Option.some.inj h;refine Dy ?_;have c0:=cz.AP (i:=0) rfl;have hT:=hT.trans (a7.trans (a8.trans (ch.trans (Am (i:=0) rfl))));exact Cz ⟨c0,hT⟩
 rintro y8 rfl _ w4 ⟨d,e,g,rfl,c1,bt,t,u,x⟩;have h:=Dw h;refine AJ Bc rfl rfl c1 fun w9 b9 c2 ae _=>Ak 0 rfl rfl rfl Bc c2 rfl rfl (AF rfl (AF t.one (AF rfl (AF u.one (AF rfl (AF rfl (AF x.one BM))))))) fun dc a9 y=>Ad ?_;have p:=a9.rG H;refine Al<|Af (AE 0 rfl AaY rfl Bc a9 rfl) rfl ?_;have t:=t.mono (Ab hH (ae.trans y));have u:=u.mono (Ab hH (ae.trans y));have x:=x.mono (Ab hH (ae.trans y));refine JJ (r:=.AV) (l:=[y8.1]) rfl (fun _=>Jw _ _ _ _ _ _ _ _) rfl (show 1≤9223372036854775807 by decide) hH a9 (.c7 (Go.E.Rp.DH ⟨_,_,rfl,rfl,⟨_,_,rfl,⟨_,rfl,(t.mono p)⟩,⟨_,_,rfl,rfl,⟨_,_,rfl,⟨_,rfl,(u.mono p)⟩,⟨_,_,rfl,rfl,⟨_,_,rfl,rfl,⟨_,rfl,(x.mono p)⟩⟩⟩⟩⟩⟩⟩) .nil) fun c3 dd ci cj ak ck=>AB 1 rfl ?_
 refine Bm (σ:=(List Go.L.Qv)×Aas×Int×Value×(List Value)) (fun⟨ar,ai,aj,af,ac⟩=>[(1,No a1),(8,(Aam b1)),(9,(Aam b9)),(10,af)]) (fun⟨ar,ai,aj,af,ac⟩ wr=>DM a (HAppend.hAppend ([.row (af) 26 7 (ar).length (ac),.box b9 [No y8.1.f.1,d,Aar y8.1.f.2.2.1,e,No y8.1.f.2.2.2.2.1,No y8.1.f.2.2.2.2.2.1,g] 26,.box ba3_c0 [Aam ba0] 84,.box ba0 [Aar ai,No aj] 86,.box b1 [No (0:Int),Aak,.string ⟨(([]:Aas)).toArray⟩,Aak,No (0:Int),No (0:Int),Aak] 26]:List AN) O) wr fun Oz=>AM .AV (gz H a wr Oz) (ar) (ac)∧AI .st (gz H a wr Oz) (d) (y8.1.f.2.1)∧AI .byte (gz H a wr Oz) (e) (y8.1.f.2.2.2.1)∧AI .AV (gz H a wr Oz) (g) (y8.1.f.2.2.2.2.2.2)∧Le (fz w (HAppend.hAppend ([.box ba0 [Aar a0.1,No a0.2] 86,.box ba3_c0 [Aam ba0] 84]:List AN) O)) (fz wr Oz)∧(EA a1 y8) ar ai aj=some r) ?_ ?_
 ·refine A4 ?_;obtain⟨bu,h⟩:=Bb h;have hT:=hT.trans (a7.trans (a8.trans (bt.trans (ae.trans (y.trans ak)))));have p:=p.trans (Ab hH ak)
  refine Bu (σ:=(List Go.L.Qv)×Aas×Int×Value×(List Value)×Nat) (fun⟨k,ag,ah,j,b,n⟩=>[(0,(Aam ba0)),(1,No a1),(2,(Aar a2)),(3,.func (.func 68) #[] #[Aam ba3_c0]),(8,(Aam b1)),(9,(Aam b9)),(10,j)]) (fun⟨k,ag,ah,j,b,n⟩ wr=>DM a (HAppend.hAppend ([.row (j) 26 7 (k).length (b),.box b9 [No y8.1.f.1,d,Aar y8.1.f.2.2.1,e,No y8.1.f.2.2.2.2.1,No y8.1.f.2.2.2.2.2.1,g] 26,.box ba3_c0 [Aam ba0] 84,.box ba0 [Aar ag,No ah] 86,.box b1 [No (0:Int),Aak,.string ⟨(([]:Aas)).toArray⟩,Aak,No (0:Int),No (0:Int),Aak] 26]:List AN) O) wr fun Oz=>AM .AV (gz H a wr Oz) (k) (b)∧AI .st (gz H a wr Oz) (d) (y8.1.f.2.1)∧AI .byte (gz H a wr Oz) (e) (y8.1.f.2.2.2.1)∧AI .AV (gz H a wr Oz) (g) (y8.1.f.2.2.2.2.2.2)∧Le (fz w (HAppend.hAppend ([.box ba0 [Aar a0.1,No a0.2] 86,.box ba3_c0 [Aam ba0] 84]:List AN) O)) (fz wr Oz)∧FM (Ef a1 a2 self y8) n (k,ag,ah)=some r) (fun⟨k,ag,ah,j,b,n⟩=>n) ([y8.1],y8.2.1,y8.2.2,c3,ci,bu) (.cons rfl (.cons rfl (.cons rfl (.cons rfl (.cons rfl (.cons rfl (.cons rfl (Sub.nil _)))))))) ⟨cj,ck,(t.mono p),(u.mono p),(x.mono p),hT,h⟩ ?_
  rintro⟨k,ag,ah,j,b,nn74⟩ cl ⟨ba,bf,au,av,aw,hT,h⟩;obtain⟨bu,de,rfl,h,bb⟩:=Ba h;refine A8 ?_;have c:=ba.rG H;refine Bl 2 rfl ?_;have bv:AR a (HAppend.hAppend ([.box ba0 [Aar ag,No ah] 86,.row (j) 26 7 (k).length (b),.box b9 [No y8.1.f.1,d,Aar y8.1.f.2.2.1,e,No y8.1.f.2.2.2.2.1,No y8.1.f.2.2.2.2.2.1,g] 26,.box ba3_c0 [Aam ba0] 84,.box b1 [No (0:Int),Aak,.string ⟨(([]:Aas)).toArray⟩,Aak,No (0:Int),No (0:Int),Aak] 26]:List AN) O) cl:=ba.Cq [3] rfl;have z:=B5 [3] ba bv rfl;obtain⟨q,cm,h⟩:=Go.L.bind_some h;refine Du rfl rfl (B1 (a0:=(ag,ah)) (a1:=a2) (O:=(HAppend.hAppend ([.row (j) 26 7 (k).length (b),.box b9 [No y8.1.f.1,d,Aar y8.1.f.2.2.1,e,No y8.1.f.2.2.2.2.1,No y8.1.f.2.2.2.2.2.1,g] 26,.box ba3_c0 [Aam ba0] 84,.box b1 [No (0:Int),Aak,.string ⟨(([]:Aas)).toArray⟩,Aak,No (0:Int),No (0:Int),Aak] 26]:List AN) O)) hH bv cm) ?_;rintro _ bw ⟨rfl,al,aa⟩;refine Ad<|By rfl (fun bc=>?_) (fun bc=>?_)
  ·have h:=Bv bc h;refine Av<|Ao<|A4<|Aq<|Ar 2 rfl ?_;have bx:AR a (HAppend.hAppend ([.box ba3_c0 [Aam ba0] 84,.box ba0 [Aar q.2.1,No q.2.2] 86,.row (j) 26 7 (k).length (b),.box b9 [No y8.1.f.1,d,Aar y8.1.f.2.2.1,e,No y8.1.f.2.2.2.2.1,No y8.1.f.2.2.2.2.2.1,g] 26,.box b1 [No (0:Int),Aak,.string ⟨(([]:Aas)).toArray⟩,Aak,No (0:Int),No (0:Int),Aak] 26]:List AN) O) bw:=al.Cq [3] rfl;have am:=B5 [3] al bx rfl;obtain⟨df,cn,h⟩:=Go.L.bind_some h;refine OK [] [Aam ba3_c0] rfl rfl rfl (IJ (hself:=hself) (a0_0:=(q.2.1,q.2.2)) (O:=(HAppend.hAppend ([.row (j) 26 7 (k).length (b),.box b9 [No y8.1.f.1,d,Aar y8.1.f.2.2.1,e,No y8.1.f.2.2.2.2.1,No y8.1.f.2.2.2.2.2.1,g] 26,.box b1 [No (0:Int),Aak,.string ⟨(([]:Aas)).toArray⟩,Aak,No (0:Int),No (0:Int),Aak] 26]:List AN) O)) hH hU bx cn) ?_ ?_
   ·rintro rfl dg ⟨co,b7⟩;have h:=Dv h;refine B6<|IA ?_;have h:=BF.out h bb;refine B6<|ET ?_;obtain rfl:=Option.some.inj h;refine Dy ?_;have cp:=co.AP (i:=0) rfl;have cq:=cp.AP (i:=0) rfl;have cr:=cq.AP (i:=0) rfl;have hT:=hT.trans (z.trans (aa.trans (am.trans (b7.trans ((Am (i:=0) rfl).trans ((Am (i:=0) rfl).trans (Am (i:=0) rfl)))))));exact Cz ⟨cr,hT⟩
   rintro y90 rfl _ dh ⟨c5,c6,c8,rfl,cs,bg,bz,b0,b2⟩;have h:=Dw h;refine Br (r:=.AV) (l:=[y90.1]) rfl (fun _=>Jw _ _ _ _ _ _ _ _) rfl (show 1≤9223372036854775807 by decide) hH cs (.c7 (Go.E.Rp.DH ⟨_,_,rfl,rfl,⟨_,_,rfl,⟨_,rfl,bz⟩,⟨_,_,rfl,rfl,⟨_,_,rfl,⟨_,rfl,b0⟩,⟨_,_,rfl,rfl,⟨_,_,rfl,rfl,⟨_,rfl,b2⟩⟩⟩⟩⟩⟩⟩) .nil) ?_;intro di dj da ct bh cu;obtain⟨cv,h⟩:=Ac h;have c:=c.trans (Ab hH (z.trans (aa.trans (am.trans (bg.trans bh)))));refine Bo (r:=.AV) (l:=k) (m:=[y90.1]) 2 rfl rfl Abx Bc rfl (by decide) rfl hH ct rfl (bf.mono c) cu cv fun cg c4 b3 b4 bi bd=>Ar 1 rfl<|AL<|AA ?_;have b5:AR a (HAppend.hAppend ([.row (cg) 26 7 ((k++[y90.1])).length (b3),.box b9 [No y8.1.f.1,d,Aar y8.1.f.2.2.1,e,No y8.1.f.2.2.2.2.1,No y8.1.f.2.2.2.2.2.1,g] 26,.box ba3_c0 [Aam ba0] 84,.box ba0 [Aar y90.2.1,No y90.2.2] 86,.box b1 [No (0:Int),Aak,.string ⟨(([]:Aas)).toArray⟩,Aak,No (0:Int),No (0:Int),Aak] 26]:List AN) O) c4:=b4.Cq [3,3] rfl;have an:=B5 [3,3] b4 b5 rfl;have h:=BF.again h bb
   have hT:=hT.trans (z.trans (aa.trans (am.trans (bg.trans (bh.trans (bi.trans an))))));have c:=c.trans (Ab hH (bi.trans an));have bd:=bd.mono (Ab hH an);refine AO ((k++[y90.1]),y90.2.1,y90.2.2,cg,b3,bu) (.cons rfl (.cons rfl (.cons rfl (.cons rfl (.cons rfl (.cons rfl (.cons rfl (Sub.nil _)))))))) ⟨b5,bd,(au.mono c),(av.mono c),(aw.mono c),hT,h⟩ (Nat.lt_succ_self _)
  have h:=Bw bc h;refine Bq<|AH<|A6 ?_;have h:=BF.out h bb;refine Bf ?_;have be:AR a (HAppend.hAppend ([.box b9 [No y8.1.f.1,d,Aar y8.1.f.2.2.1,e,No y8.1.f.2.2.2.2.1,No y8.1.f.2.2.2.2.2.1,g] 26,.box ba3_c0 [Aam ba0] 84,.box ba0 [Aar q.2.1,No q.2.2] 86,.row (j) 26 7 (k).length (b),.box b1 [No (0:Int),Aak,.string ⟨(([]:Aas)).toArray⟩,Aak,No (0:Int),No (0:Int),Aak] 26]:List AN) O) bw:=al.Cq [3,3] rfl;have bj:=B5 [3,3] al be rfl;have b6:AR a (HAppend.hAppend ([.row (j) 26 7 (k).length (b),.box b9 [No y8.1.f.1,d,Aar y8.1.f.2.2.1,e,No y8.1.f.2.2.2.2.1,No y8.1.f.2.2.2.2.2.1,g] 26,.box ba3_c0 [Aam ba0] 84,.box ba0 [Aar q.2.1,No q.2.2] 86,.box b1 [No (0:Int),Aak,.string ⟨(([]:Aas)).toArray⟩,Aak,No (0:Int),No (0:Int),Aak] 26]:List AN) O) bw:=be.Cq [3] rfl;have bk:=B5 [3] be b6 rfl;have c:=c.trans (Ab hH (z.trans (aa.trans (bj.trans bk))));have hT:=hT.trans (z.trans (aa.trans (bj.trans bk)))
  refine A9 (k,q.2.1,q.2.2,j,b) (.cons rfl (.cons rfl (.cons rfl (.cons rfl (Sub.nil _))))) ⟨b6,(bf.mono c),(au.mono c),(av.mono c),(aw.mono c),hT,h⟩
 have hT:=hT.trans (a7.trans (a8.trans (bt.trans (ae.trans (y.trans ak)))));rintro⟨ar,ai,aj,af,ac⟩ db ⟨s,b8,ax,ay,az,hT,h⟩;refine A8 ?_;have o:=s.rG H;refine Bl 1 rfl<|Af (Po (i:=0) rfl Abx s rfl) rfl<|AB 1 rfl<|Bg rfl (fun ao=>?_) (fun ao=>?_)
 ·have h:=A1 ao h;refine Al<|Af (AE 1 rfl AaY rfl Bc s rfl) rfl<|Ak 4 rfl rfl rfl Bc s rfl rfl (AF rfl (AF (ax.mono o).one (AF rfl (AF (ay.mono o).one (AF rfl (AF rfl (AF (az.mono o).one BM))))))) fun cw bl a3=>Ad<|Az<|Au ?_;obtain rfl:=Option.some.inj h;refine FB<|B7 rfl (.cell rfl AaY rfl Bc (AS (i:=4) bl rfl)) ?_;have ca:=bl.AP (i:=0) rfl;have cb:=ca.AP (i:=0) rfl;have bm:=cb.AP (i:=2) rfl;have bn:AR a (HAppend.hAppend ([.box ba0 [Aar ai,No aj] 86,.box ba3_c0 [Aam ba0] 84]:List AN) O) cw:=bm.Cq [1] rfl;have a4:=B5 [1] bm bn rfl;have o:=o.trans (Ab hH (a3.trans ((Am (i:=0) rfl).trans ((Am (i:=0) rfl).trans ((Am (i:=2) rfl).trans a4)))));have hT:=hT.trans (a3.trans ((Am (i:=0) rfl).trans ((Am (i:=0) rfl).trans ((Am (i:=2) rfl).trans a4))));exact Dx ⟨d,e,g,rfl,bn,hT,(ax.mono o),(ay.mono o),(az.mono o)⟩
 have h:=A2 ao h;refine Av<|Ao<|Bl 2 rfl<|Af (AW rfl (fun _=>KC _ _ (row_one (s.at (i:=0) rfl)) _)) rfl<|Ak 4 rfl rfl rfl Bc s rfl rfl (AF rfl (AF rfl (AF rfl (AF rfl (AF rfl (AF rfl (AF (row_one (s.at (i:=0) rfl)) BM))))))) fun cx ap a5=>Ad<|Az ?_;obtain rfl:=Option.some.inj h;refine FB<|B7 rfl (.cell rfl AaY rfl Bc (AS (i:=4) ap rfl)) ?_;have o:=o.trans (Ab hH a5);have aq:=ap.Ct hH (i:=0) rfl (b8.mono o);have cc:=ap.AP (i:=0) rfl;have cd:=cc.AP (i:=0) rfl;have bo:=cd.AP (i:=2) rfl;have bp:AR a (HAppend.hAppend ([.box ba0 [Aar ai,No aj] 86,.box ba3_c0 [Aam ba0] 84]:List AN) O) cx:=bo.Cq [1] rfl;have a6:=B5 [1] bo bp rfl;have hT:=hT.trans (a5.trans ((Am (i:=0) rfl).trans ((Am (i:=0) rfl).trans ((Am (i:=2) rfl).trans a6))));have aq:=aq.mono (Ab hH ((Am (i:=0) rfl).trans ((Am (i:=2) rfl).trans a6)));exact Dx ⟨Aak,Aak,af,rfl,bp,hT,(AI.nil _ _),(AI.nil _ _),aq⟩
def EN(self:(Aas×Int)→Option (Option (Go.L.Qv×(Aas×Int))))(a0:Aas×Int):Option (Option (Go.L.Qv×(Aas×Int))):=
 Option.bind (Gf self (a0.1,a0.2) (9:Int) ([124]:Aas)) (fun a=>Qc a (some none) (fun y9=>some (some (y9.1,(y9.2.1,y9.2.2)))))
theorem JB{self:(Aas×Int)→Option (Option (Go.L.Qv×(Aas×Int)))}(hself:∀ {a w:World} {H:PH} (hH:Le H (hp a)) (hU:Dt H) {O:List AN} {a0:Aas×Int} {ba0:Nat} (hL:AR a (HAppend.hAppend ([.box ba0 [Aar a0.1,No a0.2] 86]:List AN) O) w) {r:Option (Go.L.Qv×(Aas×Int))} (h:self a0=some r),QP Tryz.prog 70 [Aam ba0] w (.iface 82 (.agg #[])) (fun v w'=>RX r v (fun r v=>∃ (g:Value) (j:Value) (k:Value),v=.agg #[No r.1.f.1,g,Aar r.1.f.2.2.1,j,No r.1.f.2.2.2.2.1,No r.1.f.2.2.2.2.2.1,k]∧AR a (HAppend.hAppend ([.box ba0 [Aar r.2.1,No r.2.2] 86]:List AN) O) w'∧Le (fz w (HAppend.hAppend ([.box ba0 [Aar a0.1,No a0.2] 86]:List AN) O)) (fz w' (HAppend.hAppend ([.box ba0 [Aar r.2.1,No r.2.2] 86]:List AN) O))∧AI .st (gz H a w' (HAppend.hAppend ([.box ba0 [Aar r.2.1,No r.2.2] 86]:List AN) O)) g (r.1.f.2.1)∧AI .byte (gz H a w' (HAppend.hAppend ([.box ba0 [Aar r.2.1,No r.2.2] 86]:List AN) O)) j (r.1.f.2.2.2.1)∧AI .AV (gz H a w' (HAppend.hAppend ([.box ba0 [Aar r.2.1,No r.2.2] 86]:List AN) O)) k (r.1.f.2.2.2.2.2.2)) (AR a O w'∧Le (fz w (HAppend.hAppend ([.box ba0 [Aar a0.1,No a0.2] 86]:List AN) O)) (fz w' O)))){a w:World}{H:PH}(hH:Le H (hp a))(hU:Dt H){O:List AN}{a0:Aas×Int}{ba0:Nat}(hL:AR a (HAppend.hAppend ([.box ba0 [Aar a0.1,No a0.2] 86]:List AN) O) w){r:Option (Go.L.Qv×(Aas×Int))}(h:EN self a0=some r):
  QP Tryz.prog 39 [Aam ba0] w (.iface 82 (.agg #[])) (fun v w'=>RX r v (fun r v=>∃ (g:Value) (j:Value) (k:Value),v=.agg #[No r.1.f.1,g,Aar r.1.f.2.2.1,j,No r.1.f.2.2.2.2.1,No r.1.f.2.2.2.2.2.1,k]∧AR a (HAppend.hAppend ([.box ba0 [Aar r.2.1,No r.2.2] 86]:List AN) O) w'∧Le (fz w (HAppend.hAppend ([.box ba0 [Aar a0.1,No a0.2] 86]:List AN) O)) (fz w' (HAppend.hAppend ([.box ba0 [Aar r.2.1,No r.2.2] 86]:List AN) O))∧AI .st (gz H a w' (HAppend.hAppend ([.box ba0 [Aar r.2.1,No r.2.2] 86]:List AN) O)) g (r.1.f.2.1)∧AI .byte (gz H a w' (HAppend.hAppend ([.box ba0 [Aar r.2.1,No r.2.2] 86]:List AN) O)) j (r.1.f.2.2.2.1)∧AI .AV (gz H a w' (HAppend.hAppend ([.box ba0 [Aar r.2.1,No r.2.2] 86]:List AN) O)) k (r.1.f.2.2.2.2.2.2)) (AR a O w'∧Le (fz w (HAppend.hAppend ([.box ba0 [Aar a0.1,No a0.2] 86]:List AN) O)) (fz w' O))):=by
 refine Ia (n:=8) [(0,(Aam ba0))] func39 rfl rfl rfl rfl rfl ?_;have hT:=Le.refl (fz w (HAppend.hAppend ([.box ba0 [Aar a0.1,No a0.2] 86]:List AN) O));refine Al<|SC (t:=84) rfl rfl rfl hL fun w1 b1 ad l _=>AJ Bc rfl rfl ad fun w2 b2 m o _=>Ad<|AD 2 rfl<|Al<|Af (Ah 1 rfl Ab3 rfl m rfl rfl) rfl<|Ar 1 rfl ?_;have s:AR a (HAppend.hAppend ([.box ba0 [Aar a0.1,No a0.2] 86,.box b1 [Aam ba0] 84,.box b2 [No (0:Int),Aak,.string ⟨(([]:Aas)).toArray⟩,Aak,No (0:Int),No (0:Int),Aak] 26]:List AN) O) w2:=m.Cq [1,2] rfl;have p:=B5 [1,2] m s rfl;obtain⟨x4,af,h⟩:=Go.L.bind_some h;refine Fv rfl rfl (Md (hself:=hself) (a0:=(a0.1,a0.2)) (a1:=(9:Int)) (a2:=([124]:Aas)) (O:=(HAppend.hAppend ([.box b2 [No (0:Int),Aak,.string ⟨(([]:Aas)).toArray⟩,Aak,No (0:Int),No (0:Int),Aak] 26]:List AN) O)) hH hU s af) ?_ ?_
 ·rintro rfl w6 ⟨ag,u⟩;have h:=Dv h;refine B3 ?_;obtain rfl:=Option.some.inj h;refine Dy ?_;have ah:=ag.AP (i:=0) rfl;have hT:=hT.trans (l.trans (o.trans (p.trans (u.trans (Am (i:=0) rfl)))));exact Cz ⟨ah,hT⟩
 rintro y9 rfl _ w5 ⟨x,y,z,rfl,ai,aa,b,c,d⟩;have h:=Dw h;refine Ak 2 rfl rfl rfl Bc ai rfl rfl (AF rfl (AF b.one (AF rfl (AF c.one (AF rfl (AF rfl (AF d.one BM))))))) fun al q e=>Ad<|Az ?_;obtain rfl:=Option.some.inj h;refine FB<|B7 rfl (.cell rfl AaY rfl Bc (AS (i:=2) q rfl)) ?_;have ab:=q.AP (i:=1) rfl;have ac:=ab.AP (i:=1) rfl;have hT:=hT.trans (l.trans (o.trans (p.trans (aa.trans (e.trans ((Am (i:=1) rfl).trans (Am (i:=1) rfl)))))));have b:=b.mono (Ab hH (e.trans ((Am (i:=1) rfl).trans (Am (i:=1) rfl))));have c:=c.mono (Ab hH (e.trans ((Am (i:=1) rfl).trans (Am (i:=1) rfl))));have d:=d.mono (Ab hH (e.trans ((Am (i:=1) rfl).trans (Am (i:=1) rfl))));exact Dx ⟨x,y,z,rfl,ac,hT,b,c,d⟩
def C5(a0:Aas×Int)(a1:Aas):Option (Option ((Aas×Int))):=
 Option.bind (Bx (a0.1,a0.2) a1) (fun a=>if !a.1 then some none else some (some ((a.2.1,a.2.2))))
theorem EB{c w:World}{H:PH}(hH:Le H (hp c)){O:List AN}{a0:Aas×Int}{a1:Aas}{ba0:Nat}(hL:AR c (HAppend.hAppend ([.box ba0 [Aar a0.1,No a0.2] 86]:List AN) O) w){r:Option ((Aas×Int))}(h:C5 a0 a1=some r):
  QP Tryz.prog 112 [Aam ba0,Aar a1] w (.iface 82 (.agg #[])) (fun v w'=>RX r v (fun r v=>v=.tuple #[]∧AR c (HAppend.hAppend ([.box ba0 [Aar r.1,No r.2] 86]:List AN) O) w'∧Le (fz w (HAppend.hAppend ([.box ba0 [Aar a0.1,No a0.2] 86]:List AN) O)) (fz w' (HAppend.hAppend ([.box ba0 [Aar r.1,No r.2] 86]:List AN) O))) (AR c O w'∧Le (fz w (HAppend.hAppend ([.box ba0 [Aar a0.1,No a0.2] 86]:List AN) O)) (fz w' O))):=by
 refine Ia (n:=10) [(0,(Aam ba0)),(1,(Aar a1))] func112 rfl rfl rfl rfl rfl ?_;have hT:=Le.refl (fz w (HAppend.hAppend ([.box ba0 [Aar a0.1,No a0.2] 86]:List AN) O));refine Bl 2 rfl ?_;obtain⟨g,e,h⟩:=Go.L.bind_some h;refine Du rfl rfl (B1 (a0:=(a0.1,a0.2)) (a1:=a1) (O:=(HAppend.hAppend ([]:List AN) O)) hH hL e) ?_;rintro _ j ⟨rfl,d,a⟩;refine AB 1 rfl<|By rfl (fun b=>?_) (fun b=>?_)
 ·have h:=Bv b h;refine Aq<|Af (AW rfl (fun _=>NH _)) rfl<|Af (RY rfl Ab4 rfl) rfl<|NB rfl rfl ?_;obtain rfl:=Option.some.inj h;refine Dy ?_;have f:=d.AP (i:=0) rfl;have hT:=hT.trans (a.trans (Am (i:=0) rfl));exact Cz ⟨f,hT⟩
 have h:=Bw b h;refine Av ?_;obtain rfl:=Option.some.inj h;refine Y3<|Ju rfl ?_;have hT:=hT.trans a;exact Dx ⟨rfl,d,hT⟩
def DB(a0:Aas×Int)(a:Int):Option (Aas×(Aas×Int)):=
 AY (0≤a∧a≤(a0.1.length:Int)) (AY (0≤a∧a≤(a0.1.length:Int)) (some ((a0.1.take a.toNat),((a0.1.drop a.toNat),a0.2))))
def CN(a0:Aas×Int)(a1:Aas):Option (Aas×(Aas×Int)):=
 Option.bind (Pc a0.1 a1) (fun a=>if a<(0:Int) then(DB a0) (a0.1.length:Int) else(DB a0) a)
theorem Fi{f w:World}{H:PH}(hH:Le H (hp f)){O:List AN}{a0:Aas×Int}{a1:Aas}{ba0:Nat}(hL:AR f (HAppend.hAppend ([.box ba0 [Aar a0.1,No a0.2] 86]:List AN) O) w){r:Aas×(Aas×Int)}(h:CN a0 a1=some r):
  Ok Tryz.prog 114 [Aam ba0,Aar a1] w (fun v w'=>v=(Aar r.1)∧AR f (HAppend.hAppend ([.box ba0 [Aar r.2.1,No r.2.2] 86]:List AN) O) w'∧Le (fz w (HAppend.hAppend ([.box ba0 [Aar a0.1,No a0.2] 86]:List AN) O)) (fz w' (HAppend.hAppend ([.box ba0 [Aar r.2.1,No r.2.2] 86]:List AN) O))):=by
 refine A5 (n:=36) [(0,(Aam ba0)),(1,(Aar a1))] func114 rfl rfl rfl rfl rfl ?_;have hT:=Le.refl (fz w (HAppend.hAppend ([.box ba0 [Aar a0.1,No a0.2] 86]:List AN) O));refine AD 1 rfl<|Bl 1 rfl<|Af (Cp rfl) rfl<|Af (Ag rfl Ab2 rfl Fo (by decide)) rfl<|Af (Ah 0 rfl AaG rfl hL rfl rfl) rfl<|Ar 1 rfl ?_;obtain⟨m,l,h⟩:=Go.L.bind_some h;refine Ax rfl rfl hL (Wq _ _ (As hH hL) l) ?_;rintro _ s rfl o d b;refine AB 1 rfl<|Bm (σ:=Int) (fun a=>[(0,(Aam ba0)),(5,No a)]) (fun a wr=>DM f (HAppend.hAppend ([.box ba0 [Aar a0.1,No a0.2] 86]:List AN) O) wr fun Oz=>Le (fz w (HAppend.hAppend ([.box ba0 [Aar a0.1,No a0.2] 86]:List AN) O)) (fz wr Oz)∧(DB a0) a=some r) ?_ ?_
 ·refine AD 2 rfl<|Bg rfl (fun c=>?_) (fun c=>?_)
  ·have h:=A1 c h;refine Aq<|Ar 1 rfl<|Af (Cp rfl) rfl<|Af (Ag rfl Ab2 rfl Fo (by decide)) rfl<|Af (Ah 0 rfl AaG rfl d rfl rfl) rfl<|Af (CL rfl AaG) rfl<|Ar 1 rfl<|AL ?_;have hT:=hT.trans b;refine A9 (a0.1.length:Int) (.cons rfl (.cons rfl (Sub.nil _))) ⟨d,hT,h⟩
  have h:=A2 c h;refine Av ?_;have hT:=hT.trans b;refine A9 m (.cons rfl (.cons rfl (Sub.nil _))) ⟨d,hT,h⟩
 have hT:=hT.trans b;rintro a p ⟨e,hT,h⟩;refine Bl 1 rfl<|Af (Cp rfl) rfl<|Af (Ag rfl Ab2 rfl Fo (by decide)) rfl<|Af (Ah 0 rfl AaG rfl e rfl rfl) rfl<|Ar 1 rfl ?_;obtain⟨i,h⟩:=Ac h;refine Af (U0 rfl rfl AaG i) rfl<|AB 1 rfl<|Bl 2 rfl<|Af (Cp rfl) rfl<|Af (Ag rfl Ab2 rfl Fo (by decide)) rfl<|Af (Ah 0 rfl AaG rfl e rfl rfl) rfl<|Ar 1 rfl ?_;obtain⟨j,h⟩:=Ac h;refine Af (Py rfl rfl AaG j) rfl<|Af (Cp rfl) rfl<|Af (Ag rfl Ab2 rfl Fo (by decide)) rfl<|Bi 0 rfl rfl rfl Fo e rfl rfl fun q k g=>Ad<|AD 2 rfl<|Az ?_;obtain rfl:=Option.some.inj h;refine An rfl rfl ?_;have hT:=hT.trans g;exact⟨rfl,k,hT⟩
def Dj(b:Aas)(c:Bool×(Aas×Int))(d:Aas)(a:UInt8):Option ((Aas×Aas×Int) ⊕ (Option (Aas×(Aas×Int)))):=
 AY (Go.E.JE 1 (b.length+([a]).length)) (some (Sum.inl ((b++[a]),d,c.2.2)))
def EC(d:Aas)(b:Bool×(Aas×Int))(a:Int)(c:Int):Option ((Aas×Aas×Int) ⊕ (Option (Aas×(Aas×Int)))):=
 AY (BJ (a * 16)) (AY ((0≤(a * 16)∧(a * 16)<2 ^ 63)∧(0≤c∧c<2 ^ 63)) (AY (0≤(2:Int)∧(2:Int)≤((b.2.1.drop (1:Int).toNat).length:Int)) ((Dj d b) ((b.2.1.drop (1:Int).toNat).drop (2:Int).toNat) (Go.L.u8 (((a * 16).toNat ||| c.toNat:Nat):Int)))))
def ED(d:Aas)(a:Bool×(Aas×Int)):Option ((Aas×Aas×Int) ⊕ (Option (Aas×(Aas×Int)))):=
 AY (0≤(0:Int)∧(0:Int)<((a.2.1.drop (1:Int).toNat).length:Int)) (Option.bind (PT ([48,49,50,51,52,53,54,55,56,57,97,98,99,100,101,102]:Aas) ((a.2.1.drop (1:Int).toNat).getD (0:Int).toNat default)) (fun b=>AY (0≤(1:Int)∧(1:Int)<((a.2.1.drop (1:Int).toNat).length:Int)) (Option.bind (PT ([48,49,50,51,52,53,54,55,56,57,97,98,99,100,101,102]:Aas) ((a.2.1.drop (1:Int).toNat).getD (1:Int).toNat default)) (fun c=>if(b<(0:Int))∨(c<(0:Int)) then Option.map Sum.inr (some none) else(EC d a b c)))))
def EE(b:Aas)(a:Bool×(Aas×Int)):Option ((Aas×Aas×Int) ⊕ (Option (Aas×(Aas×Int)))):=
 AY (0≤(0:Int)∧(0:Int)<(a.2.1.length:Int)) (AY (0≤(1:Int)∧(1:Int)≤(a.2.1.length:Int)) (if((a.2.1.getD (0:Int).toNat default).toNat:Int)=92 then(if((a.2.1.drop (1:Int).toNat).length:Int)<(2:Int) then Option.map Sum.inr (some none) else(ED b a)) else(Dj b a) (a.2.1.drop (1:Int).toNat) (a.2.1.getD (0:Int).toNat default)))
def EF(a:Aas)(b:Aas)(c:Int):Option (Option (Aas×(Aas×Int))):=
 some (some (a,(b,c)))
def Eg:Aas×Aas×Int→Option ((Aas×Aas×Int) ⊕ (Option (Aas×(Aas×Int)))):=fun⟨b,c,d⟩=>
 Option.bind (Bx (c,d) ([39]:Aas)) (fun a=>if !a.1 then(if a.2.1=([]:Aas) then Option.map Sum.inr (some none) else(EE b a)) else Option.map Sum.inr (EF b a.2.1 a.2.2))
def GI(s:Aas×Aas×Int):Option (Option (Aas×(Aas×Int))):=Go.L.run (Eg) s
def Ew(a0:Aas×Int):Option (Option (Aas×(Aas×Int))):=
 GI (([]:Aas),a0.1,a0.2)
theorem Jl{p w:World}{H:PH}(hH:Le H (hp p)){O:List AN}{a0:Aas×Int}{ba0:Nat}(hL:AR p (HAppend.hAppend ([.box ba0 [Aar a0.1,No a0.2] 86]:List AN) O) w){r:Option (Aas×(Aas×Int))}(h:Ew a0=some r):
  QP Tryz.prog 115 [Aam ba0] w (.iface 82 (.agg #[])) (fun v w'=>RX r v (fun r v=>∃ (u0:Value) (y0:List Value),v=u0∧AR p (HAppend.hAppend ([.row u0 5 1 (r.1).length y0,.box ba0 [Aar r.2.1,No r.2.2] 86]:List AN) O) w'∧Le (fz w (HAppend.hAppend ([.box ba0 [Aar a0.1,No a0.2] 86]:List AN) O)) (fz w' (HAppend.hAppend ([.row u0 5 1 (r.1).length y0,.box ba0 [Aar r.2.1,No r.2.2] 86]:List AN) O))∧AM .byte (gz H p w' (HAppend.hAppend ([.row u0 5 1 (r.1).length y0,.box ba0 [Aar r.2.1,No r.2.2] 86]:List AN) O)) (r.1) y0) (AR p O w'∧Le (fz w (HAppend.hAppend ([.box ba0 [Aar a0.1,No a0.2] 86]:List AN) O)) (fz w' O))):=by
 refine Ia (n:=78) [(0,(Aam ba0))] func115 rfl rfl rfl rfl rfl ?_;have hT:=Le.refl (fz w (HAppend.hAppend ([.box ba0 [Aar a0.1,No a0.2] 86]:List AN) O));refine AD 1 rfl<|Bl 1 rfl ?_;obtain⟨b7,bd,b8⟩:=Ck .byte H 5 hL;refine Ad<|Bm (σ:=Aas×Aas×Int×Value×(List Value)) (fun⟨af,ag,ah,z,s⟩=>[(3,z)]) (fun⟨af,ag,ah,z,s⟩ wr=>DM p (HAppend.hAppend ([.row (z) 5 1 (af).length (s),.box ba0 [Aar ag,No ah] 86]:List AN) O) wr fun Oz=>AM .byte (gz H p wr Oz) (af) (s)∧Le (fz w (HAppend.hAppend ([.box ba0 [Aar a0.1,No a0.2] 86]:List AN) O)) (fz wr Oz)∧EF af ag ah=some r) ?_ ?_
 ·refine A4 ?_;obtain⟨aw,h⟩:=Bb h;have hT:=hT.trans bd;refine Bu (σ:=Aas×Aas×Int×Value×(List Value)×Nat) (fun⟨d,x,y,e,b,n⟩=>[(0,(Aam ba0)),(3,e)]) (fun⟨d,x,y,e,b,n⟩ wr=>DM p (HAppend.hAppend ([.row (e) 5 1 (d).length (b),.box ba0 [Aar x,No y] 86]:List AN) O) wr fun Oz=>AM .byte (gz H p wr Oz) (d) (b)∧Le (fz w (HAppend.hAppend ([.box ba0 [Aar a0.1,No a0.2] 86]:List AN) O)) (fz wr Oz)∧FM Eg n (d,x,y)=some r) (fun⟨d,x,y,e,b,n⟩=>n) (([]:Aas),a0.1,a0.2,Aak,[],aw) (.cons rfl (.cons rfl (Sub.nil _))) ⟨b7,b8,hT,h⟩ ?_;rintro⟨d,x,y,e,b,nn155⟩ bi ⟨az,a,hT,h⟩;obtain⟨aw,ai,rfl,h,aa⟩:=Ba h;refine A8<|Bl 1 rfl ?_;have a2:AR p (HAppend.hAppend ([.box ba0 [Aar x,No y] 86,.row (e) 5 1 (d).length (b)]:List AN) O) bi:=az.Cq [1] rfl;have k:=B5 [1] az a2 rfl;obtain⟨f,bj,h⟩:=Go.L.bind_some h;refine Du rfl rfl (B1 (a0:=(x,y)) (a1:=([39]:Aas)) (O:=(HAppend.hAppend ([.row (e) 5 1 (d).length (b)]:List AN) O)) hH a2 bj) ?_
  rintro _ b5 ⟨rfl,ab,o⟩;refine AB 1 rfl<|By rfl (fun aj=>?_) (fun aj=>?_)
  ·have h:=Bv aj h;refine Av<|Ao<|A4<|Bm (σ:=Unit) (fun(_:Unit)=>[(0,(Aam ba0)),(3,e)]) (fun(_:Unit) wr=>DM p (HAppend.hAppend ([.box ba0 [Aar f.2.1,No f.2.2] 86,.row (e) 5 1 (d).length (b)]:List AN) O) wr fun Oz=>AM .byte (gz H p wr Oz) (d) (b)∧Le (fz w (HAppend.hAppend ([.box ba0 [Aar a0.1,No a0.2] 86]:List AN) O)) (fz wr Oz)∧(EE d f)=some ai) ?_ ?_
   ·refine Bl 1 rfl<|Af (Cp rfl) rfl<|Af (Ag rfl Ab2 rfl Fo (by decide)) rfl<|Af (Ah 0 rfl AaG rfl ab rfl rfl) rfl<|Af (LP rfl rfl) rfl<|Ad<|Bg rfl (fun ak=>?_) (fun ak=>?_)
    ·have h:=A1 ak h;refine Aq<|Af (AW rfl (fun _=>NH _)) rfl<|Af (RY rfl Ab4 rfl) rfl<|NB rfl rfl<|ET<|B6<|IA ?_;have h:=BF.out h aa;refine B6<|ET ?_;obtain rfl:=Option.some.inj h;refine Dy ?_;have bk:=ab.AP (i:=0) rfl;have bl:=bk.AP (i:=0) rfl;have hT:=hT.trans (k.trans (o.trans ((Am (i:=0) rfl).trans (Am (i:=0) rfl))));exact Cz ⟨bl,hT⟩
    have h:=A2 ak h;refine Av ?_;have a:=a.mono (Ab hH (k.trans o));have hT:=hT.trans (k.trans o);refine A9 () (.cons rfl (.cons rfl (Sub.nil _))) ⟨ab,a,hT,h⟩
   have a:=a.mono (Ab hH (k.trans o));have hT:=hT.trans (k.trans o);rintro _ b9 ⟨al,a,hT,h⟩;refine Bl 1 rfl<|Af (Cp rfl) rfl<|Af (Ag rfl Ab2 rfl Fo (by decide)) rfl<|Af (Ah 0 rfl AaG rfl al rfl rfl) rfl ?_;obtain⟨bm,h⟩:=Ac h;refine Af (G3 rfl rfl AaG bm) rfl<|AB 1 rfl<|Bl 2 rfl<|Af (Cp rfl) rfl<|Af (Ag rfl Ab2 rfl Fo (by decide)) rfl<|Af (Ah 0 rfl AaG rfl al rfl rfl) rfl ?_;obtain⟨bn,h⟩:=Ac h;refine Af (Py rfl rfl AaG bn) rfl<|Af (Cp rfl) rfl<|Af (Ag rfl Ab2 rfl Fo (by decide)) rfl<|Bi 0 rfl rfl rfl Fo al rfl rfl fun ch ad g=>Ad<|Bm (σ:=Aas×UInt8) (fun⟨ac,j⟩=>[(0,(Aam ba0)),(3,e),(4,.int .u8 (j.toNat:Int))]) (fun⟨ac,j⟩ wr=>DM p (HAppend.hAppend ([.box ba0 [Aar ac,No f.2.2] 86,.row (e) 5 1 (d).length (b)]:List AN) O) wr fun Oz=>AM .byte (gz H p wr Oz) (d) (b)∧Le (fz w (HAppend.hAppend ([.box ba0 [Aar a0.1,No a0.2] 86]:List AN) O)) (fz wr Oz)∧(Dj d f) ac j=some ai) ?_ ?_
   ·refine AD 2 rfl<|Bg rfl (fun am=>?_) (fun am=>?_)
    ·have h:=A1 am h;refine Bm (σ:=Unit) (fun(_:Unit)=>[(0,(Aam ba0)),(3,e)]) (fun(_:Unit) wr=>DM p (HAppend.hAppend ([.box ba0 [.string ⟨((f.2.1.drop (1:Int).toNat)).toArray⟩,No f.2.2] 86,.row (e) 5 1 (d).length (b)]:List AN) O) wr fun Oz=>AM .byte (gz H p wr Oz) (d) (b)∧Le (fz w (HAppend.hAppend ([.box ba0 [Aar a0.1,No a0.2] 86]:List AN) O)) (fz wr Oz)∧(ED d f)=some ai) ?_ ?_
     ·refine Bl 1 rfl<|Af (Cp rfl) rfl<|Af (Ag rfl Ab2 rfl Fo (by decide)) rfl<|Af (Ah 0 rfl AaG rfl ad rfl rfl) rfl<|Af (CL rfl AaG) rfl<|AB 1 rfl<|Bg rfl (fun an=>?_) (fun an=>?_)
      ·have h:=A1 an h;refine Aq<|Af (AW rfl (fun _=>NH _)) rfl<|Af (RY rfl Ab4 rfl) rfl<|NB rfl rfl ?_
       iterate 2 refine ET ?_
       refine B6<|IA ?_;have h:=BF.out h aa;refine B6<|ET ?_;obtain rfl:=Option.some.inj h;refine Dy ?_;have bo:=ad.AP (i:=0) rfl;have bp:=bo.AP (i:=0) rfl;have hT:=hT.trans (g.trans ((Am (i:=0) rfl).trans (Am (i:=0) rfl)));exact Cz ⟨bp,hT⟩
      have h:=A2 an h;refine Av ?_;have a:=a.mono (Ab hH g);have hT:=hT.trans g;refine A9 () (.cons rfl (.cons rfl (Sub.nil _))) ⟨ad,a,hT,h⟩
     have a:=a.mono (Ab hH g);have hT:=hT.trans g;rintro _ ca ⟨a3,a,hT,h⟩;refine EI (.q 0 (.q 1 (.q 2 (.q 3 (.q 4 (.q 5 (.q 6 (.q 7 (.q 8 (.q 9 (.q 10 (.q 11 (.q 12 (.q 13 (.tail 14))))))))))))))) mixed (by kernel_rfl) (fun ci a4=>?_);have ae:=a3.call a4;have t:=AX a3 a4;refine Ds 1 rfl<|BE (Cp rfl) rfl rfl<|BE (Ag rfl Ab2 rfl Fo (by decide)) rfl rfl<|BE (Ah 0 rfl AaG rfl ae rfl rfl) rfl rfl ?_;obtain⟨bq,h⟩:=Ac h;refine BE (G3 rfl rfl AaG bq) rfl rfl ?_;obtain⟨ax,br,h⟩:=Go.L.bind_some h;refine ER rfl rfl rfl (fun cj cb=>Q5 _ _ (Le.refl _) br)<|Ds 1 rfl<|BE (Cp rfl) rfl rfl<|BE (Ag rfl Ab2 rfl Fo (by decide)) rfl rfl<|BE (Ah 0 rfl AaG rfl ae rfl rfl) rfl rfl ?_;obtain⟨bs,h⟩:=Ac h;refine BE (G3 rfl rfl AaG bs) rfl rfl ?_;obtain⟨ay,bt,h⟩:=Go.L.bind_some h;refine ER rfl rfl rfl (fun ck cc=>Q5 _ _ (Le.refl _) bt)<|Ds 2 rfl<|BW (fun cl a5=>?_);have a6:=ae.call a5;have u:=AX ae a5;refine Ad ?_
     refine Bm (σ:=Unit) (fun(_:Unit)=>[(0,(Aam ba0)),(3,e),(5,No ax),(6,No ay)]) (fun(_:Unit) wr=>DM p (HAppend.hAppend ([.box ba0 [.string ⟨((f.2.1.drop (1:Int).toNat)).toArray⟩,No f.2.2] 86,.row (e) 5 1 (d).length (b)]:List AN) O) wr fun Oz=>AM .byte (gz H p wr Oz) (d) (b)∧Le (fz w (HAppend.hAppend ([.box ba0 [Aar a0.1,No a0.2] 86]:List AN) O)) (fz wr Oz)∧(EC d f ax ay)=some ai) ?_ ?_
     ·refine Bl 3 rfl<|R6 2 2 rfl rfl rfl rfl rfl rfl<|Ad<|Bg rfl (fun ao=>?_) (fun ao=>?_)
      ·have h:=A1 ao h;refine Aq<|Af (AW rfl (fun _=>NH _)) rfl<|Af (RY rfl Ab4 rfl) rfl<|NB rfl rfl ?_
       iterate 2 refine ET ?_
       refine B6<|IA ?_;have h:=BF.out h aa;refine B6<|ET ?_;obtain rfl:=Option.some.inj h;refine Dy ?_;have bu:=a6.AP (i:=0) rfl;have bv:=bu.AP (i:=0) rfl;have hT:=hT.trans (t.trans (u.trans ((Am (i:=0) rfl).trans (Am (i:=0) rfl))));exact Cz ⟨bv,hT⟩
      have h:=A2 ao h;refine Av ?_;have a:=a.mono (Ab hH (t.trans u));have hT:=hT.trans (t.trans u);refine A9 () (.cons rfl (.cons rfl (.cons rfl (.cons rfl (Sub.nil _))))) ⟨a6,a,hT,h⟩
     have a:=a.mono (Ab hH (t.trans u));have hT:=hT.trans (t.trans u);rintro _ cd ⟨a7,a,hT,h⟩;refine Bl 1 rfl ?_;obtain⟨a8,h⟩:=Ac h;refine Af (Zz (c:=4) (m:=16) rfl rfl rfl (by decide) (wrap64 a8.1 a8.2)) rfl<|Ar 1 rfl ?_;obtain⟨bw,h⟩:=Ac h;refine Af (ZP rfl rfl rfl bw) rfl<|Af (ES Aau AaS rfl (HO _)) rfl<|AB 1 rfl<|Aq<|Ar 2 rfl<|Af (Cp rfl) rfl<|Af (Ag rfl Ab2 rfl Fo (by decide)) rfl<|Af (Ah 0 rfl AaG rfl a7 rfl rfl) rfl ?_;obtain⟨bx,h⟩:=Ac h;refine Af (Py rfl rfl AaG bx) rfl<|Af (Cp rfl) rfl<|Af (Ag rfl Ab2 rfl Fo (by decide)) rfl<|Bi 0 rfl rfl rfl Fo a7 rfl rfl fun cm bz aq=>AL ?_;have a:=a.mono (Ab hH aq);have hT:=hT.trans aq;refine A9 (((f.2.1.drop (1:Int).toNat).drop (2:Int).toNat),(Go.L.u8 (((ax * 16).toNat ||| ay.toNat:Nat):Int))) (.cons rfl (.cons rfl (.cons rfl (Sub.nil _)))) ⟨bz,a,hT,h⟩
    have h:=A2 am h;refine Av ?_;have a:=a.mono (Ab hH g);have hT:=hT.trans g;refine A9 ((f.2.1.drop (1:Int).toNat),(f.2.1.getD (0:Int).toNat default)) (.cons rfl (.cons rfl (.cons rfl (Sub.nil _)))) ⟨ad,a,hT,h⟩
   have a:=a.mono (Ab hH g);have hT:=hT.trans g;rintro⟨ac,j⟩ ce ⟨b0,a,hT,h⟩;refine Aq<|Ar 2 rfl<|Br (r:=.byte) (l:=[j]) rfl (fun _=>Ie _ _) rfl (show 1≤9223372036854775807 by decide) hH b0 (.c1 rfl .nil) ?_;intro cn co cf b1 ar b2;obtain⟨b3,h⟩:=Ac h;have a:=a.mono (Ab hH ar);refine Bo (r:=.byte) (l:=d) (m:=[j]) 1 rfl rfl AaQ Lj rfl (by decide) rfl hH b1 rfl a b2 b3 fun be b6 a9 ba bf ap=>Ar 1 rfl<|AL<|AA ?_;have bb:AR p (HAppend.hAppend ([.row (be) 5 1 ((d++[j])).length (a9),.box ba0 [Aar ac,No f.2.2] 86]:List AN) O) b6:=ba.Cq [1] rfl;have au:=B5 [1] ba bb rfl;have h:=BF.again h aa;have hT:=hT.trans (ar.trans (bf.trans au));have ap:=ap.mono (Ab hH au);refine AO ((d++[j]),ac,f.2.2,be,a9,aw) (.cons rfl (.cons rfl (Sub.nil _))) ⟨bb,ap,hT,h⟩ (Nat.lt_succ_self _)
  have h:=Bw aj h;refine Bq<|AH<|A6 ?_;have h:=BF.out h aa;refine Bf ?_;have bc:AR p (HAppend.hAppend ([.row (e) 5 1 (d).length (b),.box ba0 [Aar f.2.1,No f.2.2] 86]:List AN) O) b5:=ab.Cq [1] rfl;have av:=B5 [1] ab bc rfl;have a:=a.mono (Ab hH (k.trans (o.trans av)));have hT:=hT.trans (k.trans (o.trans av));refine A9 (d,f.2.1,f.2.2,e,b) (.cons rfl (Sub.nil _)) ⟨bc,a,hT,h⟩
 have hT:=hT.trans bd;rintro⟨af,ag,ah,z,s⟩ cg ⟨b4,bg,hT,h⟩;refine AD 2 rfl<|Az ?_;obtain rfl:=Option.some.inj h;refine FB<|An rfl rfl<|Dx ⟨z,s,rfl,b4,hT,bg⟩
def EG(a0:Aas×Int)(a:Int)(b:Int×Bool):Option (Option (Int×(Aas×Int))):=
 AY (0≤a∧a≤(a0.1.length:Int)) (some (some (b.1,((a0.1.drop a.toNat),a0.2))))
def BR(a0:Aas×Int)(a:Int):Option (Option (Int×(Aas×Int))):=
 AY (0≤a∧a≤(a0.1.length:Int)) (Option.bind (XC (a0.1.take a.toNat)) (fun b=>if b.2 then(EG a0 a b) else some none))
def Eh(a0:Aas×Int):Int→Option ((Int) ⊕ (Option (Int×(Aas×Int)))):=fun a=>
 if a<(a0.1.length:Int) then AY (0≤a∧a<(a0.1.length:Int)) (if 48≤((a0.1.getD a.toNat default).toNat:Int) then AY (0≤a∧a<(a0.1.length:Int)) (if((a0.1.getD a.toNat default).toNat:Int)≤57 then AY (BJ (a+(1:Int))) (some (Sum.inl (a+(1:Int)))) else if a=(0:Int) then AY (0≤a∧a<(a0.1.length:Int)) (if((a0.1.getD a.toNat default).toNat:Int)=45 then AY (BJ (a+(1:Int))) (some (Sum.inl (a+(1:Int)))) else Option.map Sum.inr ((BR a0) a)) else Option.map Sum.inr ((BR a0) a)) else if a=(0:Int) then AY (0≤a∧a<(a0.1.length:Int)) (if((a0.1.getD a.toNat default).toNat:Int)=45 then AY (BJ (a+(1:Int))) (some (Sum.inl (a+(1:Int)))) else Option.map Sum.inr ((BR a0) a)) else Option.map Sum.inr ((BR a0) a)) else Option.map Sum.inr ((BR a0) a)
def GJ(a0:Aas×Int)(s:Int):Option (Option (Int×(Aas×Int))):=Go.L.run (Eh a0) s
def Dk(a0:Aas×Int):Option (Option (Int×(Aas×Int))):=
 (GJ a0) (0:Int)
theorem GK{t w:World}{H:PH}(hH:Le H (hp t))(hU:Dt H){O:List AN}{a0:Aas×Int}{ba0:Nat}(hL:AR t (HAppend.hAppend ([.box ba0 [Aar a0.1,No a0.2] 86]:List AN) O) w){r:Option (Int×(Aas×Int))}(h:Dk a0=some r):
  QP Tryz.prog 117 [Aam ba0] w (.iface 82 (.agg #[])) (fun v w'=>RX r v (fun r v=>v=No r.1∧AR t (HAppend.hAppend ([.box ba0 [Aar r.2.1,No r.2.2] 86]:List AN) O) w'∧Le (fz w (HAppend.hAppend ([.box ba0 [Aar a0.1,No a0.2] 86]:List AN) O)) (fz w' (HAppend.hAppend ([.box ba0 [Aar r.2.1,No r.2.2] 86]:List AN) O))) (AR t O w'∧Le (fz w (HAppend.hAppend ([.box ba0 [Aar a0.1,No a0.2] 86]:List AN) O)) (fz w' O))):=by
 refine Ia (n:=70) [(0,(Aam ba0))] func117 rfl rfl rfl rfl rfl ?_;have hT:=Le.refl (fz w (HAppend.hAppend ([.box ba0 [Aar a0.1,No a0.2] 86]:List AN) O));refine AD 1 rfl<|AD 1 rfl<|Bm (σ:=Int) (fun k=>[(0,(Aam ba0)),(3,No k)]) (fun k wr=>DM t (HAppend.hAppend ([.box ba0 [Aar a0.1,No a0.2] 86]:List AN) O) wr fun Oz=>Le (fz w (HAppend.hAppend ([.box ba0 [Aar a0.1,No a0.2] 86]:List AN) O)) (fz wr Oz)∧(BR a0) k=some r) ?_ ?_
 ·refine A4 ?_;obtain⟨q,h⟩:=Bb h;refine Bu (σ:=Int×Nat) (fun⟨b,n⟩=>[(0,(Aam ba0)),(3,No b)]) (fun⟨b,n⟩ wr=>DM t (HAppend.hAppend ([.box ba0 [Aar a0.1,No a0.2] 86]:List AN) O) wr fun Oz=>Le (fz w (HAppend.hAppend ([.box ba0 [Aar a0.1,No a0.2] 86]:List AN) O)) (fz wr Oz)∧FM (Eh a0) n b=some r) (fun⟨b,n⟩=>n) ((0:Int),q) (.cons rfl (.cons rfl (Sub.nil _))) ⟨hL,hT,h⟩ ?_;rintro⟨b,nn94⟩ ar ⟨f,hT,h⟩;obtain⟨q,a1,rfl,h,j⟩:=Ba h;refine A8<|Bl 2 rfl<|Af (Cp rfl) rfl<|Af (Ag rfl Ab2 rfl Fo (by decide)) rfl<|Af (Ah 0 rfl AaG rfl f rfl rfl) rfl<|Af (CL rfl AaG) rfl<|Ar 2 rfl<|AQ (s:=13) rfl (fun a=>?_) (fun a=>?_)
  ·have h:=A1 (of_decide_eq_true a) h;refine Aa rfl rfl a<|Af (Ae rfl) rfl<|Aa rfl rfl a<|Af (Cp rfl) rfl<|Aa rfl rfl a<|Af (Ag rfl Ab2 rfl Fo (by decide)) rfl<|Aa rfl rfl a<|Af (Ah 0 rfl AaG rfl f rfl rfl) rfl<|Aa rfl rfl a<|Af (Ae rfl) rfl<|Aa rfl rfl a ?_;obtain⟨ao,h⟩:=Ac h;refine Af (G3 rfl rfl AaG ao) rfl<|Aa rfl rfl a<|Af (Ae rfl) rfl<|Aa rfl rfl a<|Af (Ae rfl) rfl<|AQ (s:=21) rfl (fun g=>?_) (fun g=>?_)
   ·have h:=A1 (of_decide_eq_true g) h;refine Aa rfl rfl g<|Af (Ae rfl) rfl<|Aa rfl rfl g<|Af (Cp rfl) rfl<|Aa rfl rfl g<|Af (Ag rfl Ab2 rfl Fo (by decide)) rfl<|Aa rfl rfl g<|Af (Ah 0 rfl AaG rfl f rfl rfl) rfl<|Aa rfl rfl g<|Af (Ae rfl) rfl<|Aa rfl rfl g ?_;obtain⟨ab,h⟩:=Ac h;refine Af (G3 rfl rfl AaG ab) rfl<|Aa rfl rfl g<|Af (Ae rfl) rfl<|Aa rfl rfl a<|Af (A3 rfl g rfl) rfl<|Aa rfl rfl a<|Af (Ae rfl) rfl<|AQ (s:=30) rfl (fun c=>?_) (fun c=>?_)
    ·have h:=A1 (of_decide_eq_true c) h
     iterate 3 refine Aj rfl rfl c rfl ?_
     iterate 7 refine BQ rfl rfl rfl ?_
     refine Aj rfl rfl c rfl<|Aa rfl rfl a<|Af (A3 rfl c rfl) rfl<|Af (A3 rfl a rfl) rfl<|Ad<|Ce rfl<|Av<|Ao<|A4<|Aq<|Ar 1 rfl ?_;obtain⟨ac,h⟩:=Ac h;refine Af (AK rfl rfl rfl ac) rfl<|Ar 1 rfl<|AL<|AA ?_;have h:=BF.again h j;refine AO ((b+(1:Int)),q) (.cons rfl (.cons rfl (Sub.nil _))) ⟨f,hT,h⟩ (Nat.lt_succ_self _)
    have h:=A2 (of_decide_eq_false c) h;refine Aa rfl rfl c<|Af (Ae rfl) rfl<|Aa rfl rfl c<|Af (Ae rfl) rfl<|Aa rfl rfl c<|Af (Ae rfl) rfl<|AQ (s:=33) rfl (fun d=>?_) (fun d=>?_)
    ·have h:=A1 (of_decide_eq_true d) h;refine Aa rfl rfl d<|Af (Ae rfl) rfl<|Aa rfl rfl d<|Af (Cp rfl) rfl<|Aa rfl rfl d<|Af (Ag rfl Ab2 rfl Fo (by decide)) rfl<|Aa rfl rfl d<|Af (Ah 0 rfl AaG rfl f rfl rfl) rfl<|Aa rfl rfl d<|Af (Ae rfl) rfl<|Aa rfl rfl d ?_;obtain⟨ad,h⟩:=Ac h;refine Af (G3 rfl rfl AaG ad) rfl<|Aa rfl rfl d<|Af (Ae rfl) rfl<|Aa rfl rfl c<|Af (A3 rfl d rfl) rfl<|Aa rfl rfl a<|Af (A7 rfl c rfl) rfl<|Af (A3 rfl a rfl) rfl<|Ad<|Bg rfl (fun o=>?_) (fun o=>?_)
     ·have h:=A1 o h;refine Av<|Ao<|A4<|Aq<|Ar 1 rfl ?_;obtain⟨ae,h⟩:=Ac h;refine Af (AK rfl rfl rfl ae) rfl<|Ar 1 rfl<|AL<|AA ?_;have h:=BF.again h j;refine AO ((b+(1:Int)),q) (.cons rfl (.cons rfl (Sub.nil _))) ⟨f,hT,h⟩ (Nat.lt_succ_self _)
     have h:=A2 o h;refine Bq<|AH<|A6 ?_;have h:=BF.out h j;refine Bf<|A9 b (.cons rfl (.cons rfl (Sub.nil _))) ⟨f,hT,h⟩
    have h:=A2 (of_decide_eq_false d) h
    iterate 7 refine Aj rfl rfl d rfl ?_
    refine Aa rfl rfl c<|Af (A7 rfl d rfl) rfl<|Aa rfl rfl a<|Af (A7 rfl c rfl) rfl<|Af (A3 rfl a rfl) rfl<|Ad<|Ch rfl<|Bq<|AH<|A6 ?_;have h:=BF.out h j;refine Bf<|A9 b (.cons rfl (.cons rfl (Sub.nil _))) ⟨f,hT,h⟩
   have h:=A2 (of_decide_eq_false g) h
   iterate 7 refine Aj rfl rfl g rfl ?_
   refine Aa rfl rfl a<|Af (A7 rfl g rfl) rfl<|Aa rfl rfl a<|Af (Ae rfl) rfl<|Aa rfl rfl rfl<|Af (Ae rfl) rfl<|Aa rfl rfl rfl<|Af (Ae rfl) rfl<|Aa rfl rfl rfl<|Af (Ae rfl) rfl<|AQ (s:=33) rfl (fun e=>?_) (fun e=>?_)
   ·have h:=A1 (of_decide_eq_true e) h;refine Aa rfl rfl e<|Af (Ae rfl) rfl<|Aa rfl rfl e<|Af (Cp rfl) rfl<|Aa rfl rfl e<|Af (Ag rfl Ab2 rfl Fo (by decide)) rfl<|Aa rfl rfl e<|Af (Ah 0 rfl AaG rfl f rfl rfl) rfl<|Aa rfl rfl e<|Af (Ae rfl) rfl<|Aa rfl rfl e ?_;obtain⟨af,h⟩:=Ac h;refine Af (G3 rfl rfl AaG af) rfl<|Aa rfl rfl e<|Af (Ae rfl) rfl<|Aa rfl rfl rfl<|Af (A3 rfl e rfl) rfl<|Aa rfl rfl a<|Af (A7 rfl rfl rfl) rfl<|Af (A3 rfl a rfl) rfl<|Ad<|Bg rfl (fun p=>?_) (fun p=>?_)
    ·have h:=A1 p h;refine Av<|Ao<|A4<|Aq<|Ar 1 rfl ?_;obtain⟨ag,h⟩:=Ac h;refine Af (AK rfl rfl rfl ag) rfl<|Ar 1 rfl<|AL<|AA ?_;have h:=BF.again h j;refine AO ((b+(1:Int)),q) (.cons rfl (.cons rfl (Sub.nil _))) ⟨f,hT,h⟩ (Nat.lt_succ_self _)
    have h:=A2 p h;refine Bq<|AH<|A6 ?_;have h:=BF.out h j;refine Bf<|A9 b (.cons rfl (.cons rfl (Sub.nil _))) ⟨f,hT,h⟩
   have h:=A2 (of_decide_eq_false e) h
   iterate 7 refine Aj rfl rfl e rfl ?_
   refine Aa rfl rfl rfl<|Af (A7 rfl e rfl) rfl<|Aa rfl rfl a<|Af (A7 rfl rfl rfl) rfl<|Af (A3 rfl a rfl) rfl<|Ad<|Ch rfl<|Bq<|AH<|A6 ?_;have h:=BF.out h j;refine Bf<|A9 b (.cons rfl (.cons rfl (Sub.nil _))) ⟨f,hT,h⟩
  have h:=A2 (of_decide_eq_false a) h
  iterate 8 refine Aj rfl rfl a rfl ?_
  iterate 7 refine BQ rfl rfl rfl ?_
  iterate 2 refine Aj rfl rfl a rfl ?_
  iterate 11 refine BQ rfl rfl rfl ?_
  refine Aj rfl rfl a rfl<|Af (A7 rfl a rfl) rfl<|Ad<|Ch rfl<|Bq<|AH<|A6 ?_;have h:=BF.out h j;refine Bf<|A9 b (.cons rfl (.cons rfl (Sub.nil _))) ⟨f,hT,h⟩
 rintro k au ⟨u,hT,h⟩;refine Bl 1 rfl<|Af (Cp rfl) rfl<|Af (Ag rfl Ab2 rfl Fo (by decide)) rfl<|Af (Ah 0 rfl AaG rfl u rfl rfl) rfl<|Ar 1 rfl ?_;obtain⟨ah,h⟩:=Ac h;refine Af (U0 rfl rfl AaG ah) rfl ?_;obtain⟨x,ai,h⟩:=Go.L.bind_some h;refine Ax rfl rfl u (Zd _ _ (As hH u) (hU.mono (Ai hH)) ai) ?_;rintro _ av ⟨aw,rfl,aj,ak⟩ ap y m;refine VL x.2 (fun l=>?_) (fun l=>?_)
 ·obtain rfl:=aj l;have h:=Bv l h;refine AB 5 rfl<|Bm (σ:=Unit) (fun(_:Unit)=>[(0,(Aam ba0)),(3,No k),(4,No x.1)]) (fun(_:Unit) wr=>DM t (HAppend.hAppend ([.box ba0 [Aar a0.1,No a0.2] 86]:List AN) O) wr fun Oz=>Le (fz w (HAppend.hAppend ([.box ba0 [Aar a0.1,No a0.2] 86]:List AN) O)) (fz wr Oz)∧(EG a0 k x)=some r) ?_ ?_
  ·refine Bl 1 rfl<|Af (Z1 rfl Ab5) rfl<|Ad<|Ch rfl<|Av ?_;have hT:=hT.trans m;refine A9 () (.cons rfl (.cons rfl (.cons rfl (Sub.nil _)))) ⟨y,hT,h⟩
  have hT:=hT.trans m;rintro _ aq ⟨z,hT,h⟩;refine Bl 2 rfl<|Af (Cp rfl) rfl<|Af (Ag rfl Ab2 rfl Fo (by decide)) rfl<|Af (Ah 0 rfl AaG rfl z rfl rfl) rfl<|Ar 1 rfl ?_;obtain⟨al,h⟩:=Ac h;refine Af (Py rfl rfl AaG al) rfl<|Af (Cp rfl) rfl<|Af (Ag rfl Ab2 rfl Fo (by decide)) rfl<|Bi 0 rfl rfl rfl Fo z rfl rfl fun ax am aa=>Ad<|AD 2 rfl<|Az ?_;obtain rfl:=Option.some.inj h;refine FB<|An rfl rfl ?_;have hT:=hT.trans aa;exact Dx ⟨rfl,am,hT⟩
 obtain⟨ay,az,rfl⟩:=ak l;have h:=Bw l h;refine AB 5 rfl<|A8<|Bl 1 rfl<|Af (WH rfl Ab5) rfl<|Ad<|Ce rfl<|Aq<|Af (AW rfl (fun _=>NH _)) rfl<|Af (RY rfl Ab4 rfl) rfl<|NB rfl rfl<|B3 ?_;obtain rfl:=Option.some.inj h;refine Dy ?_;have an:=y.AP (i:=0) rfl;have hT:=hT.trans (m.trans (Am (i:=0) rfl));exact Cz ⟨an,hT⟩
def Hh(a0:Aas×Int):Option (Option (Go.L.Qv×(Aas×Int))):=
 Option.bind (CN (a0.1,a0.2) ([61,38,124,41]:Aas)) (fun b=>Option.bind (Bx (b.2.1,b.2.2) ([61]:Aas)) (fun c=>if !c.1 then some (some ((Go.L.Qv.mk (5:Int) ([]) b.1 ([]:Aas) (0:Int) (0:Int) ([])),(c.2.1,c.2.2))) else Option.bind (Bx (c.2.1,c.2.2) ([39]:Aas)) (fun a=>if a.1 then Option.bind (Ew (a.2.1,a.2.2)) (fun d=>Qc d (some none) (fun y27=>some (some ((Go.L.Qv.mk (7:Int) ([]) b.1 y27.1 (0:Int) (0:Int) ([])),(y27.2.1,y27.2.2))))) else Option.bind (Dk (a.2.1,a.2.2)) (fun e=>Qc e (some none) (fun y40=>Option.bind (C5 (y40.2.1,y40.2.2) ([46,46]:Aas)) (fun f=>Qc f (some none) (fun y49=>Option.bind (Dk (y49.1,y49.2)) (fun g=>Qc g (some none) (fun y56=>some (some ((Go.L.Qv.mk (6:Int) ([]) b.1 ([]:Aas) y40.1 y56.1 ([])),(y56.2.1,y56.2.2))))))))))))
theorem MP{o w:World}{H:PH}(hH:Le H (hp o))(hU:Dt H){O:List AN}{a0:Aas×Int}{ba0:Nat}(hL:AR o (HAppend.hAppend ([.box ba0 [Aar a0.1,No a0.2] 86]:List AN) O) w){r:Option (Go.L.Qv×(Aas×Int))}(h:Hh a0=some r):
  QP Tryz.prog 116 [Aam ba0] w (.iface 82 (.agg #[])) (fun v w'=>RX r v (fun r v=>∃ (u1:Value) (u3:Value) (y3:List Value) (u6:Value),v=.agg #[No r.1.f.1,u1,Aar r.1.f.2.2.1,u3,No r.1.f.2.2.2.2.1,No r.1.f.2.2.2.2.2.1,u6]∧AR o (HAppend.hAppend ([.row u3 5 1 (r.1.f.2.2.2.1).length y3,.box ba0 [Aar r.2.1,No r.2.2] 86]:List AN) O) w'∧Le (fz w (HAppend.hAppend ([.box ba0 [Aar a0.1,No a0.2] 86]:List AN) O)) (fz w' (HAppend.hAppend ([.row u3 5 1 (r.1.f.2.2.2.1).length y3,.box ba0 [Aar r.2.1,No r.2.2] 86]:List AN) O))∧AI .st (gz H o w' (HAppend.hAppend ([.row u3 5 1 (r.1.f.2.2.2.1).length y3,.box ba0 [Aar r.2.1,No r.2.2] 86]:List AN) O)) u1 (r.1.f.2.1)∧AM .byte (gz H o w' (HAppend.hAppend ([.row u3 5 1 (r.1.f.2.2.2.1).length y3,.box ba0 [Aar r.2.1,No r.2.2] 86]:List AN) O)) (r.1.f.2.2.2.1) y3∧AI .AV (gz H o w' (HAppend.hAppend ([.row u3 5 1 (r.1.f.2.2.2.1).length y3,.box ba0 [Aar r.2.1,No r.2.2] 86]:List AN) O)) u6 (r.1.f.2.2.2.2.2.2)) (AR o O w'∧Le (fz w (HAppend.hAppend ([.box ba0 [Aar a0.1,No a0.2] 86]:List AN) O)) (fz w' O))):=by
 refine Ia (n:=28) [(0,(Aam ba0))] func116 rfl rfl rfl rfl rfl ?_;have hT:=Le.refl (fz w (HAppend.hAppend ([.box ba0 [Aar a0.1,No a0.2] 86]:List AN) O));refine Al<|AJ Bc rfl rfl hL fun w1 p a5 b _=>Ad<|Bl 1 rfl ?_;have a6:AR o (HAppend.hAppend ([.box ba0 [Aar a0.1,No a0.2] 86,.box p [No (0:Int),Aak,.string ⟨(([]:Aas)).toArray⟩,Aak,No (0:Int),No (0:Int),Aak] 26]:List AN) O) w1:=a5.Cq [1] rfl;have c:=B5 [1] a5 a6 rfl;obtain⟨l,b9,h⟩:=Go.L.bind_some h;refine Du rfl rfl (Fi (a0:=(a0.1,a0.2)) (a1:=([61,38,124,41]:Aas)) (O:=(HAppend.hAppend ([.box p [No (0:Int),Aak,.string ⟨(([]:Aas)).toArray⟩,Aak,No (0:Int),No (0:Int),Aak] 26]:List AN) O)) hH a6 b9) ?_;rintro _ w4 ⟨rfl,ca,d⟩;refine Af (AW rfl (fun _=>VH _ _ rfl _)) rfl<|AJ Bc rfl rfl ca fun w5 u cb e _=>Ak 0 rfl rfl rfl Bc cb rfl rfl (AF rfl (AF rfl (AF rfl (AF rfl (AF rfl (AF rfl (AF rfl BM))))))) fun w6 a7 g=>Ad<|A8<|A4<|Bl 1 rfl ?_
 have a8:AR o (HAppend.hAppend ([.box ba0 [Aar l.2.1,No l.2.2] 86,.box u [No (5:Int),Aak,Aar l.1,Aak,No (0:Int),No (0:Int),Aak] 26,.box p [No (0:Int),Aak,.string ⟨(([]:Aas)).toArray⟩,Aak,No (0:Int),No (0:Int),Aak] 26]:List AN) O) w6:=a7.Cq [1] rfl;have j:=B5 [1] a7 a8 rfl;obtain⟨x8,cd,h⟩:=Go.L.bind_some h;refine Du rfl rfl (B1 (a0:=(l.2.1,l.2.2)) (a1:=([61]:Aas)) (O:=(HAppend.hAppend ([.box u [No (5:Int),Aak,Aar l.1,Aak,No (0:Int),No (0:Int),Aak] 26,.box p [No (0:Int),Aak,.string ⟨(([]:Aas)).toArray⟩,Aak,No (0:Int),No (0:Int),Aak] 26]:List AN) O)) hH a8 cd) ?_;rintro _ w9 ⟨rfl,ai,k⟩;refine AB 2 rfl<|By rfl (fun x=>?_) (fun x=>?_)
 ·have h:=Bv x h;refine Av<|AA<|Ao<|Al<|Af (AE 1 rfl AaY rfl Bc ai rfl) rfl<|Ak 2 rfl rfl rfl Bc ai rfl rfl (AF rfl (AF rfl (AF rfl (AF rfl (AF rfl (AF rfl (AF rfl BM))))))) fun cg aj ap=>Ad<|Az ?_;obtain rfl:=Option.some.inj h;refine FB<|B7 rfl (.cell rfl AaY rfl Bc (AS (i:=2) aj rfl)) ?_;obtain⟨a9,aq,y⟩:=Ck .byte H 5 aj;have ba:=a9.AP (i:=2) rfl;have bb:=ba.AP (i:=2) rfl;have hT:=hT.trans (b.trans (c.trans (d.trans (e.trans (g.trans (j.trans (k.trans (ap.trans (aq.trans ((Am (i:=2) rfl).trans (Am (i:=2) rfl)))))))))));have y:=y.mono (Ab hH ((Am (i:=2) rfl).trans (Am (i:=2) rfl)));exact Dx ⟨Aak,Aak,[],Aak,rfl,bb,hT,(AI.nil _ _),y,(AI.nil _ _)⟩
 have h:=Bw x h;refine Bl 1 rfl ?_;obtain⟨ac,bc,h⟩:=Go.L.bind_some h;refine Du rfl rfl (B1 (a0:=(x8.2.1,x8.2.2)) (a1:=([39]:Aas)) (O:=(HAppend.hAppend ([.box u [No (5:Int),Aak,Aar l.1,Aak,No (0:Int),No (0:Int),Aak] 26,.box p [No (0:Int),Aak,.string ⟨(([]:Aas)).toArray⟩,Aak,No (0:Int),No (0:Int),Aak] 26]:List AN) O)) hH ai bc) ?_;rintro _ ch ⟨rfl,ak,a⟩;refine AB 1 rfl<|By rfl (fun z=>?_) (fun z=>?_)
 ·have h:=Bv z h;refine Aq<|Ar 1 rfl ?_;obtain⟨ci,bd,h⟩:=Go.L.bind_some h;refine Fv rfl rfl (Jl (a0:=(ac.2.1,ac.2.2)) (O:=(HAppend.hAppend ([.box u [No (5:Int),Aak,Aar l.1,Aak,No (0:Int),No (0:Int),Aak] 26,.box p [No (0:Int),Aak,.string ⟨(([]:Aas)).toArray⟩,Aak,No (0:Int),No (0:Int),Aak] 26]:List AN) O)) hH ak bd) ?_ ?_
  ·rintro rfl cj ⟨be,ar⟩;have h:=Dv h;refine B6<|B3 ?_;obtain rfl:=Option.some.inj h;refine Dy ?_;have bf:=be.AP (i:=0) rfl;have bg:=bf.AP (i:=0) rfl;have hT:=hT.trans (b.trans (c.trans (d.trans (e.trans (g.trans (j.trans (k.trans (a.trans (ar.trans ((Am (i:=0) rfl).trans (Am (i:=0) rfl)))))))))));exact Cz ⟨bg,hT⟩
  rintro y27 rfl au ck ⟨_,y22_0,rfl,bh,av,m⟩;have h:=Dw h;refine Af (Ag rfl AaY rfl BG (by decide)) rfl<|Bi 2 rfl rfl rfl BG bh rfl rfl fun cl al ad=>Af (Ag rfl AaY rfl Fs (by decide)) rfl<|Bi 2 rfl rfl (row_one (al.at (i:=0) rfl)) Fs al rfl rfl fun cm aa ae=>AL<|AA<|Ao<|Al<|Af (AE 2 rfl AaY rfl Bc aa rfl) rfl<|Ak 3 rfl rfl rfl Bc aa rfl rfl (AF rfl (AF rfl (AF rfl (AF (row_one (aa.at (i:=0) rfl)) (AF rfl (AF rfl (AF rfl BM))))))) fun cn am af=>Ad<|Az ?_;obtain rfl:=Option.some.inj h;refine FB<|B7 rfl (.cell rfl AaY rfl Bc (AS (i:=3) am rfl)) ?_;have bi:=am.AP (i:=2) rfl;have bj:=bi.AP (i:=2) rfl;have hT:=hT.trans (b.trans (c.trans (d.trans (e.trans (g.trans (j.trans (k.trans (a.trans (av.trans (ad.trans (ae.trans (af.trans ((Am (i:=2) rfl).trans (Am (i:=2) rfl))))))))))))));have m:=m.mono (Ab hH (ad.trans (ae.trans (af.trans ((Am (i:=2) rfl).trans (Am (i:=2) rfl))))));exact Dx ⟨Aak,au,y22_0,Aak,rfl,bj,hT,(AI.nil _ _),m,(AI.nil _ _)⟩
 have h:=Bw z h;refine Bl 1 rfl ?_;obtain⟨co,bk,h⟩:=Go.L.bind_some h;refine Fv rfl rfl (GK (a0:=(ac.2.1,ac.2.2)) (O:=(HAppend.hAppend ([.box u [No (5:Int),Aak,Aar l.1,Aak,No (0:Int),No (0:Int),Aak] 26,.box p [No (0:Int),Aak,.string ⟨(([]:Aas)).toArray⟩,Aak,No (0:Int),No (0:Int),Aak] 26]:List AN) O)) hH hU ak bk) ?_ ?_
 ·rintro rfl cp ⟨bl,aw⟩;have h:=Dv h;refine B3<|B6<|B3 ?_;obtain rfl:=Option.some.inj h;refine Dy ?_;have bm:=bl.AP (i:=0) rfl;have bn:=bm.AP (i:=0) rfl;have hT:=hT.trans (b.trans (c.trans (d.trans (e.trans (g.trans (j.trans (k.trans (a.trans (aw.trans ((Am (i:=0) rfl).trans (Am (i:=0) rfl)))))))))));exact Cz ⟨bn,hT⟩
 rintro y40 rfl _ cq ⟨rfl,bo,q⟩;have h:=Dw h;refine Af (Ag rfl AaY rfl BG (by decide)) rfl<|Bi 1 rfl rfl rfl BG bo rfl rfl fun cr bp s=>Af (Ag rfl AaY rfl BG (by decide)) rfl<|Bi 1 rfl rfl rfl BG bp rfl rfl fun cs bq t=>Ad<|Bl 1 rfl ?_;obtain⟨ct,br,h⟩:=Go.L.bind_some h;refine Fv rfl rfl (EB (a0:=(y40.2.1,y40.2.2)) (a1:=([46,46]:Aas)) (O:=(HAppend.hAppend ([.box u [No (6:Int),Aak,Aar l.1,Aak,No y40.1,No (0:Int),Aak] 26,.box p [No (0:Int),Aak,.string ⟨(([]:Aas)).toArray⟩,Aak,No (0:Int),No (0:Int),Aak] 26]:List AN) O)) hH bq br) ?_ ?_
 ·rintro rfl cu ⟨bs,ax⟩;have h:=Dv h;refine B3<|B6<|B3 ?_;obtain rfl:=Option.some.inj h;refine Dy ?_;have bt:=bs.AP (i:=0) rfl;have bu:=bt.AP (i:=0) rfl;have hT:=hT.trans (b.trans (c.trans (d.trans (e.trans (g.trans (j.trans (k.trans (a.trans (q.trans (s.trans (t.trans (ax.trans ((Am (i:=0) rfl).trans (Am (i:=0) rfl))))))))))))));exact Cz ⟨bu,hT⟩
 rintro y49 rfl _ cv ⟨rfl,bv,ag⟩;have h:=Dw h;refine Ad<|Aq<|Ar 1 rfl ?_;obtain⟨cw,bw,h⟩:=Go.L.bind_some h;refine Fv rfl rfl (GK (a0:=(y49.1,y49.2)) (O:=(HAppend.hAppend ([.box u [No (6:Int),Aak,Aar l.1,Aak,No y40.1,No (0:Int),Aak] 26,.box p [No (0:Int),Aak,.string ⟨(([]:Aas)).toArray⟩,Aak,No (0:Int),No (0:Int),Aak] 26]:List AN) O)) hH hU bv bw) ?_ ?_
 ·rintro rfl cx ⟨bx,ay⟩;have h:=Dv h;refine B6<|B3 ?_;obtain rfl:=Option.some.inj h;refine Dy ?_;have bz:=bx.AP (i:=0) rfl;have b0:=bz.AP (i:=0) rfl;have hT:=hT.trans (b.trans (c.trans (d.trans (e.trans (g.trans (j.trans (k.trans (a.trans (q.trans (s.trans (t.trans (ag.trans (ay.trans ((Am (i:=0) rfl).trans (Am (i:=0) rfl)))))))))))))));exact Cz ⟨b0,hT⟩
 rintro y56 rfl _ cy ⟨rfl,b2,az⟩;have h:=Dw h;refine Af (Ag rfl AaY rfl BG (by decide)) rfl<|Bi 1 rfl rfl rfl BG b2 rfl rfl fun cz an a2=>AL<|AA<|Ao<|Al<|Af (AE 1 rfl AaY rfl Bc an rfl) rfl<|Ak 2 rfl rfl rfl Bc an rfl rfl (AF rfl (AF rfl (AF rfl (AF rfl (AF rfl (AF rfl (AF rfl BM))))))) fun c0 ao a3=>Ad<|Az ?_;obtain rfl:=Option.some.inj h;refine FB<|B7 rfl (.cell rfl AaY rfl Bc (AS (i:=2) ao rfl)) ?_;obtain⟨b3,a4,ab⟩:=Ck .byte H 5 ao;have b4:=b3.AP (i:=2) rfl;have b6:=b4.AP (i:=2) rfl;have hT:=hT.trans (b.trans (c.trans (d.trans (e.trans (g.trans (j.trans (k.trans (a.trans (q.trans (s.trans (t.trans (ag.trans (az.trans (a2.trans (a3.trans (a4.trans ((Am (i:=2) rfl).trans (Am (i:=2) rfl))))))))))))))))));have ab:=ab.mono (Ab hH ((Am (i:=2) rfl).trans (Am (i:=2) rfl)));exact Dx ⟨Aak,Aak,[],Aak,rfl,b6,hT,(AI.nil _ _),ab,(AI.nil _ _)⟩
def DC(self:(Aas×Int)→Option (Option (Go.L.Qv×(Aas×Int))))(a0:Aas×Int):Option (Option (Go.L.Qv×(Aas×Int))):=
 Option.bind (Bx (a0.1,a0.2) ([33]:Aas)) (fun h=>if h.1 then Option.bind (self (h.2.1,h.2.2)) (fun r=>Qc r (some none) (fun y12=>some (some ((Go.L.Qv.mk (10:Int) ([]) ([]:Aas) ([]) (0:Int) (0:Int) ([y12.1])),(y12.2.1,y12.2.2))))) else Option.bind (Bx (h.2.1,h.2.2) ([40]:Aas)) (fun a=>if a.1 then Option.bind (EN self (a.2.1,a.2.2)) (fun k=>Qc k (some none) (fun y26=>Option.bind (C5 (y26.2.1,y26.2.2) ([41]:Aas)) (fun l=>Qc l (some none) (fun y37=>some (some (y26.1,(y37.1,y37.2))))))) else Option.bind (Bx (a.2.1,a.2.2) ([34]:Aas)) (fun b=>if b.1 then Option.bind (CN (b.2.1,b.2.2) ([34]:Aas)) (fun i=>Option.bind (strings_Split i.1 ([32]:Aas)) (fun m=>Option.bind (C5 (i.2.1,i.2.2) ([34]:Aas)) (fun n=>Qc n (some none) (fun y55=>some (some ((Go.L.Qv.mk (2:Int) m ([]:Aas) ([]) (0:Int) (0:Int) ([])),(y55.1,y55.2))))))) else Option.bind (Bx (b.2.1,b.2.2) ([39]:Aas)) (fun c=>if c.1 then Option.bind (Ew (c.2.1,c.2.2)) (fun o=>Qc o (some none) (fun y68=>some (some ((Go.L.Qv.mk (4:Int) ([]) ([]:Aas) y68.1 (0:Int) (0:Int) ([])),(y68.2.1,y68.2.2))))) else Option.bind (Bx (c.2.1,c.2.2) ([47]:Aas)) (fun d=>if d.1 then Option.bind (Hh (d.2.1,d.2.2)) (fun p=>Qc p (some none) (fun y82=>some (some (y82.1,(y82.2.1,y82.2.2))))) else Option.bind (CN (d.2.1,d.2.2) ([126,38,124,41]:Aas)) (fun g=>Option.bind (Bx (g.2.1,g.2.2) ([126]:Aas)) (fun e=>if !e.1 then some (some ((Go.L.Qv.mk (1:Int) ([g.1]) ([]:Aas) ([]) (0:Int) (0:Int) ([])),(e.2.1,e.2.2))) else Option.bind (Dk (e.2.1,e.2.2)) (fun q=>Qc q (some none) (fun y102=>Option.bind (C5 (y102.2.1,y102.2.2) ([126]:Aas)) (fun j=>Qc j (some none) (fun y112=>Option.bind (CN (y112.1,y112.2) ([126,38,124,41]:Aas)) (fun f=>some (some ((Go.L.Qv.mk (3:Int) ([g.1,f.1]) ([]:Aas) ([]) y102.1 (0:Int) ([])),(f.2.1,f.2.2)))))))))))))))
theorem Lm{self:(Aas×Int)→Option (Option (Go.L.Qv×(Aas×Int)))}(hself:∀ {m w:World} {H:PH} (hH:Le H (hp m)) (hU:Dt H) {O:List AN} {a0:Aas×Int} {ba0:Nat} (hL:AR m (HAppend.hAppend ([.box ba0 [Aar a0.1,No a0.2] 86]:List AN) O) w) {r:Option (Go.L.Qv×(Aas×Int))} (h:self a0=some r),QP Tryz.prog 70 [Aam ba0] w (.iface 82 (.agg #[])) (fun v w'=>RX r v (fun r v=>∃ (u1:Value) (u3:Value) (u6:Value),v=.agg #[No r.1.f.1,u1,Aar r.1.f.2.2.1,u3,No r.1.f.2.2.2.2.1,No r.1.f.2.2.2.2.2.1,u6]∧AR m (HAppend.hAppend ([.box ba0 [Aar r.2.1,No r.2.2] 86]:List AN) O) w'∧Le (fz w (HAppend.hAppend ([.box ba0 [Aar a0.1,No a0.2] 86]:List AN) O)) (fz w' (HAppend.hAppend ([.box ba0 [Aar r.2.1,No r.2.2] 86]:List AN) O))∧AI .st (gz H m w' (HAppend.hAppend ([.box ba0 [Aar r.2.1,No r.2.2] 86]:List AN) O)) u1 (r.1.f.2.1)∧AI .byte (gz H m w' (HAppend.hAppend ([.box ba0 [Aar r.2.1,No r.2.2] 86]:List AN) O)) u3 (r.1.f.2.2.2.1)∧AI .AV (gz H m w' (HAppend.hAppend ([.box ba0 [Aar r.2.1,No r.2.2] 86]:List AN) O)) u6 (r.1.f.2.2.2.2.2.2)) (AR m O w'∧Le (fz w (HAppend.hAppend ([.box ba0 [Aar a0.1,No a0.2] 86]:List AN) O)) (fz w' O)))){m w:World}{H:PH}(hH:Le H (hp m))(hU:Dt H){O:List AN}{a0:Aas×Int}{ba0:Nat}(hL:AR m (HAppend.hAppend ([.box ba0 [Aar a0.1,No a0.2] 86]:List AN) O) w){r:Option (Go.L.Qv×(Aas×Int))}(h:DC self a0=some r):
  QP Tryz.prog 70 [Aam ba0] w (.iface 82 (.agg #[])) (fun v w'=>RX r v (fun r v=>∃ (u1:Value) (u3:Value) (u6:Value),v=.agg #[No r.1.f.1,u1,Aar r.1.f.2.2.1,u3,No r.1.f.2.2.2.2.1,No r.1.f.2.2.2.2.2.1,u6]∧AR m (HAppend.hAppend ([.box ba0 [Aar r.2.1,No r.2.2] 86]:List AN) O) w'∧Le (fz w (HAppend.hAppend ([.box ba0 [Aar a0.1,No a0.2] 86]:List AN) O)) (fz w' (HAppend.hAppend ([.box ba0 [Aar r.2.1,No r.2.2] 86]:List AN) O))∧AI .st (gz H m w' (HAppend.hAppend ([.box ba0 [Aar r.2.1,No r.2.2] 86]:List AN) O)) u1 (r.1.f.2.1)∧AI .byte (gz H m w' (HAppend.hAppend ([.box ba0 [Aar r.2.1,No r.2.2] 86]:List AN) O)) u3 (r.1.f.2.2.2.1)∧AI .AV (gz H m w' (HAppend.hAppend ([.box ba0 [Aar r.2.1,No r.2.2] 86]:List AN) O)) u6 (r.1.f.2.2.2.2.2.2)) (AR m O w'∧Le (fz w (HAppend.hAppend ([.box ba0 [Aar a0.1,No a0.2] 86]:List AN) O)) (fz w' O))):=by
 refine Ia (n:=62) [(0,(Aam ba0))] func70 rfl rfl rfl rfl rfl ?_;have hT:=Le.refl (fz w (HAppend.hAppend ([.box ba0 [Aar a0.1,No a0.2] 86]:List AN) O));refine Al<|AJ Bc rfl rfl hL fun w1 k dc b _=>Ad<|A8<|A4<|Bl 1 rfl ?_;have dd:AR m (HAppend.hAppend ([.box ba0 [Aar a0.1,No a0.2] 86,.box k [No (0:Int),Aak,.string ⟨(([]:Aas)).toArray⟩,Aak,No (0:Int),No (0:Int),Aak] 26]:List AN) O) w1:=dc.Cq [1] rfl;have c:=B5 [1] dc dd rfl;obtain⟨x3,ex,h⟩:=Go.L.bind_some h;refine Du rfl rfl (B1 (a0:=(a0.1,a0.2)) (a1:=([33]:Aas)) (O:=(HAppend.hAppend ([.box k [No (0:Int),Aak,.string ⟨(([]:Aas)).toArray⟩,Aak,No (0:Int),No (0:Int),Aak] 26]:List AN) O)) hH dd ex) ?_;rintro _ w4 ⟨rfl,de,d⟩;refine AB 1 rfl<|By rfl (fun bv=>?_) (fun bv=>?_)
 ·have h:=Bv bv h;refine Bl 1 rfl ?_;obtain⟨x7,ey,h⟩:=Go.L.bind_some h;refine Fv rfl rfl (hself (a0:=(x3.2.1,x3.2.2)) (O:=(HAppend.hAppend ([.box k [No (0:Int),Aak,.string ⟨(([]:Aas)).toArray⟩,Aak,No (0:Int),No (0:Int),Aak] 26]:List AN) O)) hH hU de ey) ?_ ?_
  ·rintro rfl w9 ⟨ez,di⟩;have h:=Dv h;refine B3<|B6<|B3 ?_;obtain rfl:=Option.some.inj h;refine Dy ?_;have dj:=ez.AP (i:=0) rfl;have hT:=hT.trans (b.trans (c.trans (d.trans (di.trans (Am (i:=0) rfl)))));exact Cz ⟨dj,hT⟩
  rintro y12 rfl _ w8 ⟨e6,e7,e8,rfl,e0,dk,cg,ch,ci⟩;have h:=Dw h;refine Br (r:=.AV) (l:=[y12.1]) rfl (fun _=>Jw _ _ _ _ _ _ _ _) rfl (show 1≤9223372036854775807 by decide) hH e0 (.c7 (Go.E.Rp.DH ⟨_,_,rfl,rfl,⟨_,_,rfl,⟨_,rfl,cg⟩,⟨_,_,rfl,rfl,⟨_,_,rfl,⟨_,rfl,ch⟩,⟨_,_,rfl,rfl,⟨_,_,rfl,rfl,⟨_,rfl,ci⟩⟩⟩⟩⟩⟩⟩) .nil) fun e1 fj e9 dl cj ae=>Af (AW rfl (fun _=>KC _ _ ae.one _)) rfl<|Ak 1 rfl rfl rfl Bc dl rfl rfl (AF rfl (AF rfl (AF rfl (AF rfl (AF rfl (AF rfl (AF ae.one BM))))))) fun fk bw a8=>Ad<|Az<|Ay<|Au ?_;obtain rfl:=Option.some.inj h;refine FB<|B7 rfl (.cell rfl AaY rfl Bc (AS (i:=1) bw rfl)) ?_;have dm:=bw.AP (i:=1) rfl;have hT:=hT.trans (b.trans (c.trans (d.trans (dk.trans (cj.trans (a8.trans (Am (i:=1) rfl)))))));have ae:=ae.mono (Ab hH (a8.trans (Am (i:=1) rfl)));exact Dx ⟨Aak,Aak,e1,rfl,dm,hT,(AI.nil _ _),(AI.nil _ _),ae⟩
 have h:=Bw bv h;refine Bl 1 rfl ?_;obtain⟨a9,dn,h⟩:=Go.L.bind_some h;refine Du rfl rfl (B1 (a0:=(x3.2.1,x3.2.2)) (a1:=([40]:Aas)) (O:=(HAppend.hAppend ([.box k [No (0:Int),Aak,.string ⟨(([]:Aas)).toArray⟩,Aak,No (0:Int),No (0:Int),Aak] 26]:List AN) O)) hH de dn) ?_;rintro _ fl ⟨rfl,bx,a⟩;refine AB 1 rfl<|By rfl (fun ar=>?_) (fun ar=>?_)
 ·have h:=Bv ar h;refine Bl 1 rfl ?_;obtain⟨fm,dp,h⟩:=Go.L.bind_some h;refine Fv rfl rfl (JB (hself:=hself) (a0:=(a9.2.1,a9.2.2)) (O:=(HAppend.hAppend ([.box k [No (0:Int),Aak,.string ⟨(([]:Aas)).toArray⟩,Aak,No (0:Int),No (0:Int),Aak] 26]:List AN) O)) hH hU bx dp) ?_ ?_
  ·rintro rfl fn ⟨dq,ck⟩;have h:=Dv h;refine B3<|B6<|B3 ?_;obtain rfl:=Option.some.inj h;refine Dy ?_;have dr:=dq.AP (i:=0) rfl;have hT:=hT.trans (b.trans (c.trans (d.trans (a.trans (ck.trans (Am (i:=0) rfl))))));exact Cz ⟨dr,hT⟩
  rintro y26 rfl _ fo ⟨ai,aj,ak,rfl,ds,ba,o,p,q⟩;have h:=Dw h;refine AJ Bc rfl rfl ds fun fp df dt u _=>Ak 0 rfl rfl rfl Bc dt rfl rfl (AF rfl (AF o.one (AF rfl (AF p.one (AF rfl (AF rfl (AF q.one BM))))))) fun e2 au x=>Ad ?_;have j:=au.rG H;refine Bl 1 rfl ?_;have bz:AR m (HAppend.hAppend ([.box ba0 [Aar y26.2.1,No y26.2.2] 86,.box df [No y26.1.f.1,ai,Aar y26.1.f.2.2.1,aj,No y26.1.f.2.2.2.2.1,No y26.1.f.2.2.2.2.2.1,ak] 26,.box k [No (0:Int),Aak,.string ⟨(([]:Aas)).toArray⟩,Aak,No (0:Int),No (0:Int),Aak] 26]:List AN) O) e2:=au.Cq [1] rfl;have al:=B5 [1] au bz rfl;obtain⟨fq,du,h⟩:=Go.L.bind_some h;refine Fv rfl rfl (EB (a0:=(y26.2.1,y26.2.2)) (a1:=([41]:Aas)) (O:=(HAppend.hAppend ([.box df [No y26.1.f.1,ai,Aar y26.1.f.2.2.1,aj,No y26.1.f.2.2.2.2.1,No y26.1.f.2.2.2.2.2.1,ak] 26,.box k [No (0:Int),Aak,.string ⟨(([]:Aas)).toArray⟩,Aak,No (0:Int),No (0:Int),Aak] 26]:List AN) O)) hH bz du) ?_ ?_
  ·rintro rfl fr ⟨dv,cl⟩;have h:=Dv h;refine B3<|B6<|B3 ?_;obtain rfl:=Option.some.inj h;refine Dy ?_;have dw:=dv.AP (i:=0) rfl;have dx:=dw.AP (i:=0) rfl;have hT:=hT.trans (b.trans (c.trans (d.trans (a.trans (ba.trans (u.trans (x.trans (al.trans (cl.trans ((Am (i:=0) rfl).trans (Am (i:=0) rfl)))))))))));exact Cz ⟨dx,hT⟩
  rintro y37 rfl _ fs ⟨rfl,b0,bb⟩;have h:=Dw h;refine Ad<|Al<|Af (AE 1 rfl AaY rfl Bc b0 rfl) rfl ?_;have o:=o.mono (Ab hH (u.trans x));have p:=p.mono (Ab hH (u.trans x));have q:=q.mono (Ab hH (u.trans x));have j:=j.trans (Ab hH (al.trans bb));refine Ak 2 rfl rfl rfl Bc b0 rfl rfl (AF rfl (AF (o.mono j).one (AF rfl (AF (p.mono j).one (AF rfl (AF rfl (AF (q.mono j).one BM))))))) fun ft b2 bc=>Ad<|Az<|Ay<|Au ?_;obtain rfl:=Option.some.inj h;refine FB<|B7 rfl (.cell rfl AaY rfl Bc (AS (i:=2) b2 rfl)) ?_;have dy:=b2.AP (i:=1) rfl;have dz:=dy.AP (i:=1) rfl;have hT:=hT.trans (b.trans (c.trans (d.trans (a.trans (ba.trans (u.trans (x.trans (al.trans (bb.trans (bc.trans ((Am (i:=1) rfl).trans (Am (i:=1) rfl))))))))))));have j:=j.trans (Ab hH (bc.trans ((Am (i:=1) rfl).trans (Am (i:=1) rfl))));exact Dx ⟨ai,aj,ak,rfl,dz,hT,(o.mono j),(p.mono j),(q.mono j)⟩
 have h:=Bw ar h;refine Bl 1 rfl ?_;obtain⟨bd,d0,h⟩:=Go.L.bind_some h;refine Du rfl rfl (B1 (a0:=(a9.2.1,a9.2.2)) (a1:=([34]:Aas)) (O:=(HAppend.hAppend ([.box k [No (0:Int),Aak,.string ⟨(([]:Aas)).toArray⟩,Aak,No (0:Int),No (0:Int),Aak] 26]:List AN) O)) hH bx d0) ?_;rintro _ fu ⟨rfl,b3,e⟩;refine AB 1 rfl<|By rfl (fun av=>?_) (fun av=>?_)
 ·have h:=Bv av h;refine Bl 1 rfl ?_;obtain⟨dg,d1,h⟩:=Go.L.bind_some h;refine Du rfl rfl (Fi (a0:=(bd.2.1,bd.2.2)) (a1:=([34]:Aas)) (O:=(HAppend.hAppend ([.box k [No (0:Int),Aak,.string ⟨(([]:Aas)).toArray⟩,Aak,No (0:Int),No (0:Int),Aak] 26]:List AN) O)) hH b3 d1) ?_;rintro _ fv ⟨rfl,aw,be⟩;obtain⟨fw,d2,h⟩:=Go.L.bind_some h;refine Ax rfl rfl aw (LZ _ _ (As hH aw) d2) ?_;rintro cm fx ⟨_,rfl,b4⟩ d3 d4 bf;have s:=b4.Ct hH aw d3;refine AB 1 rfl<|Bl 1 rfl ?_;obtain⟨fy,d5,h⟩:=Go.L.bind_some h;refine Fv rfl rfl (EB (a0:=(dg.2.1,dg.2.2)) (a1:=([34]:Aas)) (O:=(HAppend.hAppend ([.box k [No (0:Int),Aak,.string ⟨(([]:Aas)).toArray⟩,Aak,No (0:Int),No (0:Int),Aak] 26]:List AN) O)) hH d4 d5) ?_ ?_
  ·rintro rfl f0 ⟨d6,cn⟩;have h:=Dv h;refine B3<|B6<|B3 ?_;obtain rfl:=Option.some.inj h;refine Dy ?_;have d7:=d6.AP (i:=0) rfl;have hT:=hT.trans (b.trans (c.trans (d.trans (a.trans (e.trans (be.trans (bf.trans (cn.trans (Am (i:=0) rfl)))))))));exact Cz ⟨d7,hT⟩
  rintro y55 rfl _ f1 ⟨rfl,d8,bg⟩;have h:=Dw h;refine Ad<|Bl 1 rfl<|Af (AW rfl (fun _=>Pz _ _ s.one _)) rfl<|Ak 1 rfl rfl rfl Bc d8 rfl rfl (AF rfl (AF s.one (AF rfl (AF rfl (AF rfl (AF rfl (AF rfl BM))))))) fun f2 b5 bh=>Ad<|Az<|Ay<|Au ?_;obtain rfl:=Option.some.inj h;refine FB<|B7 rfl (.cell rfl AaY rfl Bc (AS (i:=1) b5 rfl)) ?_;have d9:=b5.AP (i:=1) rfl;have hT:=hT.trans (b.trans (c.trans (d.trans (a.trans (e.trans (be.trans (bf.trans (bg.trans (bh.trans (Am (i:=1) rfl))))))))));have s:=s.mono (Ab hH (bg.trans (bh.trans (Am (i:=1) rfl))));exact Dx ⟨cm,Aak,Aak,rfl,d9,hT,s,(AI.nil _ _),(AI.nil _ _)⟩
 have h:=Bw av h;refine Bl 1 rfl ?_;obtain⟨bi,ea,h⟩:=Go.L.bind_some h;refine Du rfl rfl (B1 (a0:=(bd.2.1,bd.2.2)) (a1:=([39]:Aas)) (O:=(HAppend.hAppend ([.box k [No (0:Int),Aak,.string ⟨(([]:Aas)).toArray⟩,Aak,No (0:Int),No (0:Int),Aak] 26]:List AN) O)) hH b3 ea) ?_;rintro _ f3 ⟨rfl,b6,g⟩;refine AB 1 rfl<|By rfl (fun ax=>?_) (fun ax=>?_)
 ·have h:=Bv ax h;refine Bl 1 rfl ?_;obtain⟨f4,eb,h⟩:=Go.L.bind_some h;refine Fv rfl rfl (Jl (a0:=(bi.2.1,bi.2.2)) (O:=(HAppend.hAppend ([.box k [No (0:Int),Aak,.string ⟨(([]:Aas)).toArray⟩,Aak,No (0:Int),No (0:Int),Aak] 26]:List AN) O)) hH b6 eb) ?_ ?_
  ·rintro rfl f5 ⟨ec,co⟩;have h:=Dv h;refine B3<|B6<|B3 ?_;obtain rfl:=Option.some.inj h;refine Dy ?_;have ed:=ec.AP (i:=0) rfl;have hT:=hT.trans (b.trans (c.trans (d.trans (a.trans (e.trans (g.trans (co.trans (Am (i:=0) rfl))))))));exact Cz ⟨ed,hT⟩
  rintro y68 rfl cp f6 ⟨_,y64_0,rfl,ay,cq,af⟩;have h:=Dw h;refine Af (AW rfl (fun _=>VI _ _ (row_one (ay.at (i:=0) rfl)) _)) rfl<|Ak 2 rfl rfl rfl Bc ay rfl rfl (AF rfl (AF rfl (AF rfl (AF (row_one (ay.at (i:=0) rfl)) (AF rfl (AF rfl (AF rfl BM))))))) fun f7 az bj=>Ad<|Az<|Ay<|Au ?_;obtain rfl:=Option.some.inj h;refine FB<|B7 rfl (.cell rfl AaY rfl Bc (AS (i:=2) az rfl)) ?_;have af:=af.mono (Ab hH bj);have a2:=az.Ct hH (i:=0) rfl af;have ee:=az.AP (i:=0) rfl;have ef:=ee.AP (i:=1) rfl;have hT:=hT.trans (b.trans (c.trans (d.trans (a.trans (e.trans (g.trans (cq.trans (bj.trans ((Am (i:=0) rfl).trans (Am (i:=1) rfl))))))))));have a2:=a2.mono (Ab hH (Am (i:=1) rfl));exact Dx ⟨Aak,cp,Aak,rfl,ef,hT,(AI.nil _ _),a2,(AI.nil _ _)⟩
 have h:=Bw ax h;refine Bl 1 rfl ?_;obtain⟨bk,eg,h⟩:=Go.L.bind_some h;refine Du rfl rfl (B1 (a0:=(bi.2.1,bi.2.2)) (a1:=([47]:Aas)) (O:=(HAppend.hAppend ([.box k [No (0:Int),Aak,.string ⟨(([]:Aas)).toArray⟩,Aak,No (0:Int),No (0:Int),Aak] 26]:List AN) O)) hH b6 eg) ?_;rintro _ f8 ⟨rfl,b7,t⟩;refine AB 1 rfl<|By rfl (fun a3=>?_) (fun a3=>?_)
 ·have h:=Bv a3 h;refine Bl 1 rfl ?_;obtain⟨f9,eh,h⟩:=Go.L.bind_some h;refine Fv rfl rfl (MP (a0:=(bk.2.1,bk.2.2)) (O:=(HAppend.hAppend ([.box k [No (0:Int),Aak,.string ⟨(([]:Aas)).toArray⟩,Aak,No (0:Int),No (0:Int),Aak] 26]:List AN) O)) hH hU b7 eh) ?_ ?_
  ·rintro rfl ga ⟨ei,cr⟩;have h:=Dv h;refine B3<|B6<|B3 ?_;obtain rfl:=Option.some.inj h;refine Dy ?_;have ej:=ei.AP (i:=0) rfl;have hT:=hT.trans (b.trans (c.trans (d.trans (a.trans (e.trans (g.trans (t.trans (cr.trans (Am (i:=0) rfl)))))))));exact Cz ⟨ej,hT⟩
  rintro y82 rfl _ gb ⟨cs,ct,y78_3,cu,rfl,b8,cv,y,ag,z⟩;have h:=Dw h;refine Ak 2 rfl rfl rfl Bc b8 rfl rfl (AF rfl (AF y.one (AF rfl (AF (row_one (b8.at (i:=0) rfl)) (AF rfl (AF rfl (AF z.one BM))))))) fun gc a4 ab=>Ad<|Az<|Ay<|Au ?_;obtain rfl:=Option.some.inj h;refine FB<|B7 rfl (.cell rfl AaY rfl Bc (AS (i:=2) a4 rfl)) ?_;have ag:=ag.mono (Ab hH ab);have a5:=a4.Ct hH (i:=0) rfl ag;have ek:=a4.AP (i:=0) rfl;have el:=ek.AP (i:=1) rfl;have hT:=hT.trans (b.trans (c.trans (d.trans (a.trans (e.trans (g.trans (t.trans (cv.trans (ab.trans ((Am (i:=0) rfl).trans (Am (i:=1) rfl)))))))))));have y:=y.mono (Ab hH (ab.trans ((Am (i:=0) rfl).trans (Am (i:=1) rfl))));have z:=z.mono (Ab hH (ab.trans ((Am (i:=0) rfl).trans (Am (i:=1) rfl))));have a5:=a5.mono (Ab hH (Am (i:=1) rfl));exact Dx ⟨cs,ct,cu,rfl,el,hT,y,a5,z⟩
 have h:=Bw a3 h;refine Av<|AA<|Ao<|Bl 1 rfl ?_;obtain⟨bl,em,h⟩:=Go.L.bind_some h;refine Du rfl rfl (Fi (a0:=(bk.2.1,bk.2.2)) (a1:=([126,38,124,41]:Aas)) (O:=(HAppend.hAppend ([.box k [No (0:Int),Aak,.string ⟨(([]:Aas)).toArray⟩,Aak,No (0:Int),No (0:Int),Aak] 26]:List AN) O)) hH b7 em) ?_;rintro _ gd ⟨rfl,en,ac⟩;refine AB 1 rfl<|A8<|Bl 1 rfl ?_;obtain⟨dh,eo,h⟩:=Go.L.bind_some h;refine Du rfl rfl (B1 (a0:=(bl.2.1,bl.2.2)) (a1:=([126]:Aas)) (O:=(HAppend.hAppend ([.box k [No (0:Int),Aak,.string ⟨(([]:Aas)).toArray⟩,Aak,No (0:Int),No (0:Int),Aak] 26]:List AN) O)) hH en eo) ?_;rintro _ ge ⟨rfl,b9,ad⟩;refine AB 1 rfl<|By rfl (fun a6=>?_) (fun a6=>?_)
 ·have h:=Bv a6 h;refine Bl 1 rfl<|Br (r:=.st) (l:=[bl.1]) rfl (fun _=>OG _ rfl _) rfl (show 1≤9223372036854775807 by decide) hH b9 (.c1 rfl .nil) fun e3 gf fa ep cw ah=>Af (AW rfl (fun _=>Pz _ _ ah.one _)) rfl<|Ak 1 rfl rfl rfl Bc ep rfl rfl (AF rfl (AF ah.one (AF rfl (AF rfl (AF rfl (AF rfl (AF rfl BM))))))) fun gg ca bm=>Ad<|Az<|Au ?_;obtain rfl:=Option.some.inj h;refine FB<|B7 rfl (.cell rfl AaY rfl Bc (AS (i:=1) ca rfl)) ?_;have eq:=ca.AP (i:=1) rfl;have hT:=hT.trans (b.trans (c.trans (d.trans (a.trans (e.trans (g.trans (t.trans (ac.trans (ad.trans (cw.trans (bm.trans (Am (i:=1) rfl))))))))))));have ah:=ah.mono (Ab hH (bm.trans (Am (i:=1) rfl)));exact Dx ⟨e3,Aak,Aak,rfl,eq,hT,ah,(AI.nil _ _),(AI.nil _ _)⟩
 have h:=Bw a6 h;refine Av<|Ao<|Bl 1 rfl ?_;obtain⟨gh,er,h⟩:=Go.L.bind_some h;refine Fv rfl rfl (GK (a0:=(dh.2.1,dh.2.2)) (O:=(HAppend.hAppend ([.box k [No (0:Int),Aak,.string ⟨(([]:Aas)).toArray⟩,Aak,No (0:Int),No (0:Int),Aak] 26]:List AN) O)) hH hU b9 er) ?_ ?_
 ·rintro rfl gi ⟨es,cx⟩;have h:=Dv h;refine B3 ?_;obtain rfl:=Option.some.inj h;refine Dy ?_;have cy:=es.AP (i:=0) rfl;have hT:=hT.trans (b.trans (c.trans (d.trans (a.trans (e.trans (g.trans (t.trans (ac.trans (ad.trans (cx.trans (Am (i:=0) rfl)))))))))));exact Cz ⟨cy,hT⟩
 rintro y102 rfl _ gj ⟨rfl,et,bn⟩;have h:=Dw h;refine Af (AW rfl (fun _=>VJ _ _ _)) rfl<|AJ Bc rfl rfl et fun fb a7 cz am _=>Ak 0 rfl rfl rfl Bc cz rfl rfl (AF rfl (AF rfl (AF rfl (AF rfl (AF rfl (AF rfl (AF rfl BM))))))) fun eu bo an=>Ad<|Bl 1 rfl ?_;have bp:AR m (HAppend.hAppend ([.box ba0 [Aar y102.2.1,No y102.2.2] 86,.box a7 [No (3:Int),Aak,.string ⟨(([]:Aas)).toArray⟩,Aak,No y102.1,No (0:Int),Aak] 26,.box k [No (0:Int),Aak,.string ⟨(([]:Aas)).toArray⟩,Aak,No (0:Int),No (0:Int),Aak] 26]:List AN) O) eu:=bo.Cq [1] rfl;have ao:=B5 [1] bo bp rfl;obtain⟨fc,c0,h⟩:=Go.L.bind_some h;refine Fv rfl rfl (EB (a0:=(y102.2.1,y102.2.2)) (a1:=([126]:Aas)) (O:=(HAppend.hAppend ([.box a7 [No (3:Int),Aak,.string ⟨(([]:Aas)).toArray⟩,Aak,No y102.1,No (0:Int),Aak] 26,.box k [No (0:Int),Aak,.string ⟨(([]:Aas)).toArray⟩,Aak,No (0:Int),No (0:Int),Aak] 26]:List AN) O)) hH bp c0) ?_ ?_
 ·rintro rfl fd ⟨c2,cb⟩;have h:=Dv h;refine B3 ?_;obtain rfl:=Option.some.inj h;refine Dy ?_;have c3:=c2.AP (i:=0) rfl;have c4:=c3.AP (i:=0) rfl;have hT:=hT.trans (b.trans (c.trans (d.trans (a.trans (e.trans (g.trans (t.trans (ac.trans (ad.trans (bn.trans (am.trans (an.trans (ao.trans (cb.trans ((Am (i:=0) rfl).trans (Am (i:=0) rfl))))))))))))))));exact Cz ⟨c4,hT⟩
 rintro y112 rfl _ fe ⟨rfl,c5,cc⟩;have h:=Dw h;refine Ad<|Bl 2 rfl ?_;obtain⟨ev,c6,h⟩:=Go.L.bind_some h;refine Du rfl rfl (Fi (a0:=(y112.1,y112.2)) (a1:=([126,38,124,41]:Aas)) (O:=(HAppend.hAppend ([.box a7 [No (3:Int),Aak,.string ⟨(([]:Aas)).toArray⟩,Aak,No y102.1,No (0:Int),Aak] 26,.box k [No (0:Int),Aak,.string ⟨(([]:Aas)).toArray⟩,Aak,No (0:Int),No (0:Int),Aak] 26]:List AN) O)) hH c5 c6) ?_;rintro _ ff ⟨rfl,c8,cd⟩;refine Br (r:=.st) (l:=[bl.1,ev.1]) rfl (fun _=>YL _ rfl _ rfl _) rfl (show 2≤9223372036854775807 by decide) hH c8 (.c1 rfl (.c1 rfl .nil)) fun ew fg e4 c9 ce aa=>Af (Ag rfl AaY rfl Jn (by decide)) rfl<|Bi 1 rfl rfl aa.one Jn c9 rfl rfl fun fh bq ap=>Ad<|Al<|Af (AE 1 rfl AaY rfl Bc bq rfl) rfl<|Ak 2 rfl rfl rfl Bc bq rfl rfl (AF rfl (AF aa.one (AF rfl (AF rfl (AF rfl (AF rfl (AF rfl BM))))))) fun fi br aq=>Ad<|Az ?_;obtain rfl:=Option.some.inj h;refine FB<|B7 rfl (.cell rfl AaY rfl Bc (AS (i:=2) br rfl)) ?_
 have da:=br.AP (i:=1) rfl;have db:=da.AP (i:=1) rfl;have hT:=hT.trans (b.trans (c.trans (d.trans (a.trans (e.trans (g.trans (t.trans (ac.trans (ad.trans (bn.trans (am.trans (an.trans (ao.trans (cc.trans (cd.trans (ce.trans (ap.trans (aq.trans ((Am (i:=1) rfl).trans (Am (i:=1) rfl))))))))))))))))))));have aa:=aa.mono (Ab hH (ap.trans (aq.trans ((Am (i:=1) rfl).trans (Am (i:=1) rfl)))));exact Dx ⟨ew,Aak,Aak,rfl,db,hT,aa,(AI.nil _ _),(AI.nil _ _)⟩
def DF:Nat→(Aas×Int)→Option (Option (Go.L.Qv×(Aas×Int)))
 | 0=>fun _=>none
 | n+1=>DC (DF n)
def HI:(Aas×Int)→Option (Option (Go.L.Qv×(Aas×Int))):=DF 1000
theorem M5(n:Nat):∀ {a w:World} {H:PH} (hH:Le H (hp a)) (hU:Dt H) {O:List AN} {a0:Aas×Int} {ba0:Nat} (hL:AR a (HAppend.hAppend ([.box ba0 [Aar a0.1,No a0.2] 86]:List AN) O) w) {r:Option (Go.L.Qv×(Aas×Int))} (h:DF n a0=some r),QP Tryz.prog 70 [Aam ba0] w (.iface 82 (.agg #[])) (fun v w'=>RX r v (fun r v=>∃ (b:Value) (c:Value) (d:Value),v=.agg #[No r.1.f.1,b,Aar r.1.f.2.2.1,c,No r.1.f.2.2.2.2.1,No r.1.f.2.2.2.2.2.1,d]∧AR a (HAppend.hAppend ([.box ba0 [Aar r.2.1,No r.2.2] 86]:List AN) O) w'∧Le (fz w (HAppend.hAppend ([.box ba0 [Aar a0.1,No a0.2] 86]:List AN) O)) (fz w' (HAppend.hAppend ([.box ba0 [Aar r.2.1,No r.2.2] 86]:List AN) O))∧AI .st (gz H a w' (HAppend.hAppend ([.box ba0 [Aar r.2.1,No r.2.2] 86]:List AN) O)) b (r.1.f.2.1)∧AI .byte (gz H a w' (HAppend.hAppend ([.box ba0 [Aar r.2.1,No r.2.2] 86]:List AN) O)) c (r.1.f.2.2.2.1)∧AI .AV (gz H a w' (HAppend.hAppend ([.box ba0 [Aar r.2.1,No r.2.2] 86]:List AN) O)) d (r.1.f.2.2.2.2.2.2)) (AR a O w'∧Le (fz w (HAppend.hAppend ([.box ba0 [Aar a0.1,No a0.2] 86]:List AN) O)) (fz w' O))):=by
 induction n with
 | zero=>intros;rename_i h;cases h
 | succ n ih=>exact @Lm (DF n) ih
theorem N5:∀ {a w:World} {H:PH} (hH:Le H (hp a)) (hU:Dt H) {O:List AN} {a0:Aas×Int} {ba0:Nat} (hL:AR a (HAppend.hAppend ([.box ba0 [Aar a0.1,No a0.2] 86]:List AN) O) w) {r:Option (Go.L.Qv×(Aas×Int))} (h:HI a0=some r),QP Tryz.prog 70 [Aam ba0] w (.iface 82 (.agg #[])) (fun v w'=>RX r v (fun r v=>∃ (b:Value) (c:Value) (d:Value),v=.agg #[No r.1.f.1,b,Aar r.1.f.2.2.1,c,No r.1.f.2.2.2.2.1,No r.1.f.2.2.2.2.2.1,d]∧AR a (HAppend.hAppend ([.box ba0 [Aar r.2.1,No r.2.2] 86]:List AN) O) w'∧Le (fz w (HAppend.hAppend ([.box ba0 [Aar a0.1,No a0.2] 86]:List AN) O)) (fz w' (HAppend.hAppend ([.box ba0 [Aar r.2.1,No r.2.2] 86]:List AN) O))∧AI .st (gz H a w' (HAppend.hAppend ([.box ba0 [Aar r.2.1,No r.2.2] 86]:List AN) O)) b (r.1.f.2.1)∧AI .byte (gz H a w' (HAppend.hAppend ([.box ba0 [Aar r.2.1,No r.2.2] 86]:List AN) O)) c (r.1.f.2.2.2.1)∧AI .AV (gz H a w' (HAppend.hAppend ([.box ba0 [Aar r.2.1,No r.2.2] 86]:List AN) O)) d (r.1.f.2.2.2.2.2.2)) (AR a O w'∧Le (fz w (HAppend.hAppend ([.box ba0 [Aar a0.1,No a0.2] 86]:List AN) O)) (fz w' O))):=M5 1000
def Hi(_a0:Go.L.Qv)(_a1:Int×Int):Option (Go.L.Qv×(Int×Int)):=
 Option.bind (D4 (1:Int) (-1:Int)) (fun a=>some ((Go.L.Qv.mk (0:Int) ([]) ([]:Aas) ([]) (0:Int) (0:Int) ([])),(a.1,a.2)))
theorem MQ{a w:World}{H:PH}(hH:Le H (hp a)){O:List AN}{a0:Go.L.Qv}{a1:Int×Int}{ba0:Nat}{va0_1:Value}{xsa0_1:List Value}{va0_3:Value}{xsa0_3:List Value}{va0_6:Value}{xsa0_6:List Value}{ba1:Nat}(hL:AR a (HAppend.hAppend ([.box ba0 [No a0.f.1,va0_1,Aar a0.f.2.2.1,va0_3,No a0.f.2.2.2.2.1,No a0.f.2.2.2.2.2.1,va0_6] 26,.row (va0_1) 9 1 (a0.f.2.1).length (xsa0_1),.row (va0_3) 5 1 (a0.f.2.2.2.1).length (xsa0_3),.row (va0_6) 26 7 (a0.f.2.2.2.2.2.2).length (xsa0_6),.box ba1 [No a1.1,No a1.2] 28]:List AN) O) w)(_hea0_1:AM .st (gz H a w (HAppend.hAppend ([.box ba0 [No a0.f.1,va0_1,Aar a0.f.2.2.1,va0_3,No a0.f.2.2.2.2.1,No a0.f.2.2.2.2.2.1,va0_6] 26,.row (va0_1) 9 1 (a0.f.2.1).length (xsa0_1),.row (va0_3) 5 1 (a0.f.2.2.2.1).length (xsa0_3),.row (va0_6) 26 7 (a0.f.2.2.2.2.2.2).length (xsa0_6),.box ba1 [No a1.1,No a1.2] 28]:List AN) O)) (a0.f.2.1) xsa0_1)(_hea0_3:AM .byte (gz H a w (HAppend.hAppend ([.box ba0 [No a0.f.1,va0_1,Aar a0.f.2.2.1,va0_3,No a0.f.2.2.2.2.1,No a0.f.2.2.2.2.2.1,va0_6] 26,.row (va0_1) 9 1 (a0.f.2.1).length (xsa0_1),.row (va0_3) 5 1 (a0.f.2.2.2.1).length (xsa0_3),.row (va0_6) 26 7 (a0.f.2.2.2.2.2.2).length (xsa0_6),.box ba1 [No a1.1,No a1.2] 28]:List AN) O)) (a0.f.2.2.2.1) xsa0_3)(_hea0_6:AM .AV (gz H a w (HAppend.hAppend ([.box ba0 [No a0.f.1,va0_1,Aar a0.f.2.2.1,va0_3,No a0.f.2.2.2.2.1,No a0.f.2.2.2.2.2.1,va0_6] 26,.row (va0_1) 9 1 (a0.f.2.1).length (xsa0_1),.row (va0_3) 5 1 (a0.f.2.2.2.1).length (xsa0_3),.row (va0_6) 26 7 (a0.f.2.2.2.2.2.2).length (xsa0_6),.box ba1 [No a1.1,No a1.2] 28]:List AN) O)) (a0.f.2.2.2.2.2.2) xsa0_6){r:Go.L.Qv×(Int×Int)}(h:Hi a0 a1=some r):
  ZT Tryz.prog 38 [Aam ba0,Aam ba1] (.panicking (Wt (.iface 82 (.agg #[])))) (.panicking (VA (.iface 82 (.agg #[])))) w (fun w'=>∃ (b:Value) (c:Value) (d:Value),AR a (HAppend.hAppend ([.box ba0 [No r.1.f.1,b,Aar r.1.f.2.2.1,c,No r.1.f.2.2.2.2.1,No r.1.f.2.2.2.2.2.1,d] 26,.box ba1 [No r.2.1,No r.2.2] 28]:List AN) O) w'∧Le (fz w (HAppend.hAppend ([.box ba0 [No a0.f.1,va0_1,Aar a0.f.2.2.1,va0_3,No a0.f.2.2.2.2.1,No a0.f.2.2.2.2.2.1,va0_6] 26,.row (va0_1) 9 1 (a0.f.2.1).length (xsa0_1),.row (va0_3) 5 1 (a0.f.2.2.2.1).length (xsa0_3),.row (va0_6) 26 7 (a0.f.2.2.2.2.2.2).length (xsa0_6),.box ba1 [No a1.1,No a1.2] 28]:List AN) O)) (fz w' (HAppend.hAppend ([.box ba0 [No r.1.f.1,b,Aar r.1.f.2.2.1,c,No r.1.f.2.2.2.2.1,No r.1.f.2.2.2.2.2.1,d] 26,.box ba1 [No r.2.1,No r.2.2] 28]:List AN) O))∧AI .st (gz H a w' (HAppend.hAppend ([.box ba0 [No r.1.f.1,b,Aar r.1.f.2.2.1,c,No r.1.f.2.2.2.2.1,No r.1.f.2.2.2.2.2.1,d] 26,.box ba1 [No r.2.1,No r.2.2] 28]:List AN) O)) b (r.1.f.2.1)∧AI .byte (gz H a w' (HAppend.hAppend ([.box ba0 [No r.1.f.1,b,Aar r.1.f.2.2.1,c,No r.1.f.2.2.2.2.1,No r.1.f.2.2.2.2.2.1,d] 26,.box ba1 [No r.2.1,No r.2.2] 28]:List AN) O)) c (r.1.f.2.2.2.1)∧AI .AV (gz H a w' (HAppend.hAppend ([.box ba0 [No r.1.f.1,b,Aar r.1.f.2.2.1,c,No r.1.f.2.2.2.2.1,No r.1.f.2.2.2.2.2.1,d] 26,.box ba1 [No r.2.1,No r.2.2] 28]:List AN) O)) d (r.1.f.2.2.2.2.2.2)):=by
 refine Pt (pv:=.iface 82 (.agg #[])) (k:=16) [(0,(Aam ba0)),(1,(Aam ba1))] func38 rfl rfl rfl rfl rfl rfl rfl .yes (Ae rfl) ?_;have hT:=Le.refl (fz w (HAppend.hAppend ([.box ba0 [No a0.f.1,va0_1,Aar a0.f.2.2.1,va0_3,No a0.f.2.2.2.2.1,No a0.f.2.2.2.2.2.1,va0_6] 26,.row (va0_1) 9 1 (a0.f.2.1).length (xsa0_1),.row (va0_3) 5 1 (a0.f.2.2.2.1).length (xsa0_3),.row (va0_6) 26 7 (a0.f.2.2.2.2.2.2).length (xsa0_6),.box ba1 [No a1.1,No a1.2] 28]:List AN) O));refine Bl 1 rfl<|Af (WH rfl Ab6) rfl<|Ad<|Ce rfl<|Bl 1 rfl<|Af (Xs rfl Ab4 rfl) rfl<|Ar 3 rfl<|AJ YF rfl rfl hL fun w2 b2 q g _=>Ak 0 rfl rfl rfl YF q rfl rfl BM fun w3 e j=>AB 1 rfl<|AD 1 rfl<|Ce rfl ?_;refine Aq<|Af (AW rfl (fun _=>Lp _)) rfl ?_;obtain⟨x4,s,h⟩:=Go.L.bind_some h;refine Ax rfl rfl e (DJ _ _ (As hH e) s) ?_;rintro _ w5 rfl z t l;refine Ak 1 rfl rfl rfl Bc t rfl rfl (AF rfl (AF rfl (AF rfl (AF rfl (AF rfl (AF rfl (AF rfl BM))))))) fun w6 u m=>Ak 5 rfl rfl rfl AT u rfl rfl (AF rfl (AF rfl BM)) fun w7 v n=>AL ?_;obtain rfl:=Option.some.inj h;refine Ju rfl ?_
 have x:=v.AP (i:=0) rfl;have y:=x.AP (i:=1) rfl;have o:=y.AP (i:=1) rfl;have p:=o.AP (i:=1) rfl;have hT:=hT.trans (g.trans (j.trans (l.trans (m.trans (n.trans ((Am (i:=0) rfl).trans ((Am (i:=1) rfl).trans ((Am (i:=1) rfl).trans (Am (i:=1) rfl)))))))));exact⟨Aak,Aak,Aak,p,hT,(AI.nil _ _),(AI.nil _ _),(AI.nil _ _)⟩
def FI(_a0:Go.L.Qv)(_a1:Int×Int):Option (Go.L.Qv×(Int×Int)):=
 Option.bind (D4 (1:Int) (-1:Int)) (fun a=>some ((Go.L.Qv.mk (0:Int) ([]) ([]:Aas) ([]) (0:Int) (0:Int) ([])),(a.1,a.2)))
theorem LJ{a w:World}{H:PH}(hH:Le H (hp a)){O:List AN}{a0:Go.L.Qv}{a1:Int×Int}{ba0:Nat}{va0_1:Value}{va0_3:Value}{va0_6:Value}{ba1:Nat}(hL:AR a (HAppend.hAppend ([.box ba0 [No a0.f.1,va0_1,Aar a0.f.2.2.1,va0_3,No a0.f.2.2.2.2.1,No a0.f.2.2.2.2.2.1,va0_6] 26,.box ba1 [No a1.1,No a1.2] 28]:List AN) O) w)(_ha0_1:AI .st (gz H a w (HAppend.hAppend ([.box ba0 [No a0.f.1,va0_1,Aar a0.f.2.2.1,va0_3,No a0.f.2.2.2.2.1,No a0.f.2.2.2.2.2.1,va0_6] 26,.box ba1 [No a1.1,No a1.2] 28]:List AN) O)) va0_1 (a0.f.2.1))(_ha0_3:AI .byte (gz H a w (HAppend.hAppend ([.box ba0 [No a0.f.1,va0_1,Aar a0.f.2.2.1,va0_3,No a0.f.2.2.2.2.1,No a0.f.2.2.2.2.2.1,va0_6] 26,.box ba1 [No a1.1,No a1.2] 28]:List AN) O)) va0_3 (a0.f.2.2.2.1))(_ha0_6:AI .AV (gz H a w (HAppend.hAppend ([.box ba0 [No a0.f.1,va0_1,Aar a0.f.2.2.1,va0_3,No a0.f.2.2.2.2.1,No a0.f.2.2.2.2.2.1,va0_6] 26,.box ba1 [No a1.1,No a1.2] 28]:List AN) O)) va0_6 (a0.f.2.2.2.2.2.2)){r:Go.L.Qv×(Int×Int)}(h:FI a0 a1=some r):
  ZT Tryz.prog 38 [Aam ba0,Aam ba1] (.panicking (Wt (.iface 82 (.agg #[])))) (.panicking (VA (.iface 82 (.agg #[])))) w (fun w'=>∃ (b:Value) (c:Value) (d:Value),AR a (HAppend.hAppend ([.box ba0 [No r.1.f.1,b,Aar r.1.f.2.2.1,c,No r.1.f.2.2.2.2.1,No r.1.f.2.2.2.2.2.1,d] 26,.box ba1 [No r.2.1,No r.2.2] 28]:List AN) O) w'∧Le (fz w (HAppend.hAppend ([.box ba0 [No a0.f.1,va0_1,Aar a0.f.2.2.1,va0_3,No a0.f.2.2.2.2.1,No a0.f.2.2.2.2.2.1,va0_6] 26,.box ba1 [No a1.1,No a1.2] 28]:List AN) O)) (fz w' (HAppend.hAppend ([.box ba0 [No r.1.f.1,b,Aar r.1.f.2.2.1,c,No r.1.f.2.2.2.2.1,No r.1.f.2.2.2.2.2.1,d] 26,.box ba1 [No r.2.1,No r.2.2] 28]:List AN) O))∧AI .st (gz H a w' (HAppend.hAppend ([.box ba0 [No r.1.f.1,b,Aar r.1.f.2.2.1,c,No r.1.f.2.2.2.2.1,No r.1.f.2.2.2.2.2.1,d] 26,.box ba1 [No r.2.1,No r.2.2] 28]:List AN) O)) b (r.1.f.2.1)∧AI .byte (gz H a w' (HAppend.hAppend ([.box ba0 [No r.1.f.1,b,Aar r.1.f.2.2.1,c,No r.1.f.2.2.2.2.1,No r.1.f.2.2.2.2.2.1,d] 26,.box ba1 [No r.2.1,No r.2.2] 28]:List AN) O)) c (r.1.f.2.2.2.1)∧AI .AV (gz H a w' (HAppend.hAppend ([.box ba0 [No r.1.f.1,b,Aar r.1.f.2.2.1,c,No r.1.f.2.2.2.2.1,No r.1.f.2.2.2.2.2.1,d] 26,.box ba1 [No r.2.1,No r.2.2] 28]:List AN) O)) d (r.1.f.2.2.2.2.2.2)):=by
 refine Pt (pv:=.iface 82 (.agg #[])) (k:=16) [(0,(Aam ba0)),(1,(Aam ba1))] func38 rfl rfl rfl rfl rfl rfl rfl .yes (Ae rfl) ?_;have hT:=Le.refl (fz w (HAppend.hAppend ([.box ba0 [No a0.f.1,va0_1,Aar a0.f.2.2.1,va0_3,No a0.f.2.2.2.2.1,No a0.f.2.2.2.2.2.1,va0_6] 26,.box ba1 [No a1.1,No a1.2] 28]:List AN) O));refine Bl 1 rfl<|Af (WH rfl Ab6) rfl<|Ad<|Ce rfl<|Bl 1 rfl<|Af (Xs rfl Ab4 rfl) rfl<|Ar 3 rfl<|AJ YF rfl rfl hL fun x y o g _=>Ak 0 rfl rfl rfl YF o rfl rfl BM fun z e j=>AB 1 rfl<|AD 1 rfl<|Ce rfl ?_;refine Aq<|Af (AW rfl (fun _=>Lp _)) rfl ?_;obtain⟨x4,p,h⟩:=Go.L.bind_some h;refine Ax rfl rfl e (DJ _ _ (As hH e) p) ?_;rintro _ w5 rfl v q l;refine Ak 1 rfl rfl rfl Bc q rfl rfl (AF rfl (AF rfl (AF rfl (AF rfl (AF rfl (AF rfl (AF rfl BM))))))) fun w6 s m=>Ak 2 rfl rfl rfl AT s rfl rfl (AF rfl (AF rfl BM)) fun w7 t n=>AL ?_;obtain rfl:=Option.some.inj h;refine Ju rfl ?_;have u:=t.AP (i:=0) rfl;have hT:=hT.trans (g.trans (j.trans (l.trans (m.trans (n.trans (Am (i:=0) rfl))))))
 exact⟨Aak,Aak,Aak,u,hT,(AI.nil _ _),(AI.nil _ _),(AI.nil _ _)⟩
def HJ(a0:Go.L.Qv)(a1:Int×Int):Option (Go.L.Qv×(Int×Int)):=
 some (a0,(a1.1,a1.2))
theorem N6{a w:World}{H:PH}(_hH:Le H (hp a)){O:List AN}{a0:Go.L.Qv}{a1:Int×Int}{ba0:Nat}{va0_1:Value}{va0_3:Value}{va0_6:Value}{ba1:Nat}(hL:AR a (HAppend.hAppend ([.box ba0 [No a0.f.1,va0_1,Aar a0.f.2.2.1,va0_3,No a0.f.2.2.2.2.1,No a0.f.2.2.2.2.2.1,va0_6] 26,.box ba1 [No a1.1,No a1.2] 28]:List AN) O) w)(g:AI .st (gz H a w (HAppend.hAppend ([.box ba0 [No a0.f.1,va0_1,Aar a0.f.2.2.1,va0_3,No a0.f.2.2.2.2.1,No a0.f.2.2.2.2.2.1,va0_6] 26,.box ba1 [No a1.1,No a1.2] 28]:List AN) O)) va0_1 (a0.f.2.1))(i:AI .byte (gz H a w (HAppend.hAppend ([.box ba0 [No a0.f.1,va0_1,Aar a0.f.2.2.1,va0_3,No a0.f.2.2.2.2.1,No a0.f.2.2.2.2.2.1,va0_6] 26,.box ba1 [No a1.1,No a1.2] 28]:List AN) O)) va0_3 (a0.f.2.2.2.1))(j:AI .AV (gz H a w (HAppend.hAppend ([.box ba0 [No a0.f.1,va0_1,Aar a0.f.2.2.1,va0_3,No a0.f.2.2.2.2.1,No a0.f.2.2.2.2.2.1,va0_6] 26,.box ba1 [No a1.1,No a1.2] 28]:List AN) O)) va0_6 (a0.f.2.2.2.2.2.2)){r:Go.L.Qv×(Int×Int)}(h:HJ a0 a1=some r):
  ZT Tryz.prog 38 [Aam ba0,Aam ba1] .returning .returning w (fun w'=>∃ (b:Value) (c:Value) (d:Value),AR a (HAppend.hAppend ([.box ba0 [No r.1.f.1,b,Aar r.1.f.2.2.1,c,No r.1.f.2.2.2.2.1,No r.1.f.2.2.2.2.2.1,d] 26,.box ba1 [No r.2.1,No r.2.2] 28]:List AN) O) w'∧Le (fz w (HAppend.hAppend ([.box ba0 [No a0.f.1,va0_1,Aar a0.f.2.2.1,va0_3,No a0.f.2.2.2.2.1,No a0.f.2.2.2.2.2.1,va0_6] 26,.box ba1 [No a1.1,No a1.2] 28]:List AN) O)) (fz w' (HAppend.hAppend ([.box ba0 [No r.1.f.1,b,Aar r.1.f.2.2.1,c,No r.1.f.2.2.2.2.1,No r.1.f.2.2.2.2.2.1,d] 26,.box ba1 [No r.2.1,No r.2.2] 28]:List AN) O))∧AI .st (gz H a w' (HAppend.hAppend ([.box ba0 [No r.1.f.1,b,Aar r.1.f.2.2.1,c,No r.1.f.2.2.2.2.1,No r.1.f.2.2.2.2.2.1,d] 26,.box ba1 [No r.2.1,No r.2.2] 28]:List AN) O)) b (r.1.f.2.1)∧AI .byte (gz H a w' (HAppend.hAppend ([.box ba0 [No r.1.f.1,b,Aar r.1.f.2.2.1,c,No r.1.f.2.2.2.2.1,No r.1.f.2.2.2.2.2.1,d] 26,.box ba1 [No r.2.1,No r.2.2] 28]:List AN) O)) c (r.1.f.2.2.2.1)∧AI .AV (gz H a w' (HAppend.hAppend ([.box ba0 [No r.1.f.1,b,Aar r.1.f.2.2.1,c,No r.1.f.2.2.2.2.1,No r.1.f.2.2.2.2.2.1,d] 26,.box ba1 [No r.2.1,No r.2.2] 28]:List AN) O)) d (r.1.f.2.2.2.2.2.2)):=by
 refine Pt (pv:=.iface 82 (.agg #[])) (k:=16) [(0,(Aam ba0)),(1,(Aam ba1))] func38 rfl rfl rfl rfl rfl rfl rfl .no (Ae rfl) ?_;have hT:=Le.refl (fz w (HAppend.hAppend ([.box ba0 [No a0.f.1,va0_1,Aar a0.f.2.2.1,va0_3,No a0.f.2.2.2.2.1,No a0.f.2.2.2.2.2.1,va0_6] 26,.box ba1 [No a1.1,No a1.2] 28]:List AN) O));have e:=hL.rG H;refine Bl 1 rfl<|Af (Z1 rfl Ab6) rfl<|Ad<|Ch rfl<|Av ?_;obtain rfl:=Option.some.inj h;refine Ju rfl ?_;exact⟨va0_1,va0_3,va0_6,hL,hT,(g.mono e),(i.mono e),(j.mono e)⟩
def IX(y22:Go.L.Qv×(Aas×Int)):Option (Go.L.Qv×(Int×Int)):=
 Option.bind (HJ y22.1 ((0:Int),(0:Int))) (fun a=>some (a.1,(a.2.1,a.2.2)))
def JC(a0:Aas):Option (Go.L.Qv×(Int×Int)):=
 if(200:Int)<(a0.length:Int) then Option.bind (D4 (3:Int) (-1:Int)) (fun d=>some ((Go.L.Qv.mk (0:Int) ([]) ([]:Aas) ([]) (0:Int) (0:Int) ([])),(d.1,d.2))) else Option.bind (EN HI (a0,(0:Int))) (fun e=>Qc e (Option.bind (Hi (Go.L.Qv.mk (0:Int) ([]:List Aas) ([]:Aas) ([]:Aas) (0:Int) (0:Int) ([]:List Go.L.Qv)) ((0:Int),(0:Int))) (fun a=>some (a.1,(a.2.1,a.2.2)))) (fun y22=>Option.bind (EX y22.1) (fun b=>if(((!decide (b.2.1=(0:Int)∧b.2.2=(0:Int)))||(!decide (y22.2.1=([]:Aas))))||(!decide (b.1=a0))) then Option.bind (FI y22.1 ((0:Int),(0:Int))) (fun c=>some (c.1,(c.2.1,c.2.2))) else(IX y22))))
theorem MI(w:World)(H:PH)(hH:Le H (hp w))(hU:Dt H){a0:Aas}{r:Go.L.Qv×(Int×Int)}(h:JC a0=some r):
  Ok Tryz.prog 15 [Aar a0] w (fun v w'=>Ext w w'∧∃ u0 u1 u2,v=.tuple #[.agg #[No r.1.f.1,u0,Aar r.1.f.2.2.1,u1,No r.1.f.2.2.2.2.1,No r.1.f.2.2.2.2.2.1,u2],.agg #[No r.2.1,No r.2.2]]∧AI .st (un H (nw w w')) u0 (r.1.f.2.1)∧AI .byte (un H (nw w w')) u1 (r.1.f.2.2.2.1)∧AI .AV (un H (nw w w')) u2 (r.1.f.2.2.2.2.2.2)):=by
 refine VB (n:=42) [(0,(Aar a0))] func15 rfl rfl rfl rfl rfl ?_;have hL:=AR.start w;refine Al<|AJ Bc rfl rfl hL fun w1 b1 b7 ct _=>AJ AT rfl rfl b7 fun w2 b2 au cu _=>Ad<|A8<|Bl 1 rfl<|Af (CL rfl AaG) rfl<|AB 1 rfl<|Bg rfl (fun av=>?_) (fun av=>?_)
 ·have h:=A1 av h;refine Al<|Af (AW rfl (fun _=>Lp _)) rfl ?_;obtain⟨x5,b8,h⟩:=Go.L.bind_some h;refine Ax rfl rfl au (DJ _ _ (As hH au) b8) ?_;rintro _ w6 rfl c0 b9 cv;refine Ak 1 rfl rfl rfl Bc b9 rfl rfl (AF rfl (AF rfl (AF rfl (AF rfl (AF rfl (AF rfl (AF rfl BM))))))) fun w7 ca cw=>Ak 0 rfl rfl rfl AT ca rfl rfl (AF rfl (AF rfl BM)) fun w8 aw cx=>Ad<|Az<|Au ?_;obtain rfl:=Option.some.inj h;refine WI<|Cm rfl (.cell rfl AaY rfl Bc (AS (i:=1) aw rfl)) (.cell rfl AaR rfl AT (AS (i:=0) aw rfl)) ?_;exact⟨aw.ext,_,_,_,rfl,(AI.nil _ _),(AI.nil _ _),(AI.nil _ _)⟩
 have h:=A2 av h;refine Av<|Ao<|Bl 1 rfl<|Y4 rfl<|Ad<|Bl 1 rfl<|Af (AW rfl (fun _=>YI _ rfl _)) rfl<|Cv (t:=86) rfl rfl rfl au fun c1 z bn cd _=>AB 1 rfl<|Bl 1 rfl ?_;obtain⟨c2,bo,h⟩:=Go.L.bind_some h;refine Fv rfl rfl (JB (hself:=N5) (a0:=(a0,(0:Int))) (O:=[.box b2 [No (0:Int),No (0:Int)] 28,.box b1 [No (0:Int),Aak,.string ⟨(([]:Aas)).toArray⟩,Aak,No (0:Int),No (0:Int),Aak] 26]) hH hU bn bo) ?_ ?_
 ·rintro rfl bl ⟨bp,ce⟩;have h:=Dv h;refine B3 ?_;obtain⟨bq,cf,af⟩:=Ck .st H 9 bp;obtain⟨br,bg,ag⟩:=Ck .byte H 5 bq;obtain⟨ax,ao,ah⟩:=Ck .AV H 26 br;have ai:AR w [.row (Aak) 9 1 (([]:List Aas)).length ([]),.row (Aak) 5 1 (([]:Aas)).length ([]),.row (Aak) 26 7 (([]:List Go.L.Qv)).length ([]),.box b2 [No (0:Int),No (0:Int)] 28,.box b1 [No (0:Int),Aak,.string ⟨(([]:Aas)).toArray⟩,Aak,No (0:Int),No (0:Int),Aak] 26] bl:=ax.Cq [1,2] rfl;have q:=B5 [1,2] ax ai rfl;have ay:AR w [.box b1 [No (0:Int),Aak,.string ⟨(([]:Aas)).toArray⟩,Aak,No (0:Int),No (0:Int),Aak] 26,.row (Aak) 9 1 (([]:List Aas)).length ([]),.row (Aak) 5 1 (([]:Aas)).length ([]),.row (Aak) 26 7 (([]:List Go.L.Qv)).length ([]),.box b2 [No (0:Int),No (0:Int)] 28] bl:=ai.Cq [4] rfl;have u:=B5 [4] ai ay rfl;obtain⟨c3,bs,h⟩:=Go.L.bind_some h;have af:=af.mono (Ab hH (bg.trans (ao.trans (q.trans u))));have ag:=ag.mono (Ab hH (ao.trans (q.trans u)))
  have ah:=ah.mono (Ab hH (q.trans u));refine Vg (MQ (a0:=(Go.L.Qv.mk (0:Int) ([]:List Aas) ([]:Aas) ([]:Aas) (0:Int) (0:Int) ([]:List Go.L.Qv))) (a1:=((0:Int),(0:Int))) (O:=[]) hH ay af ag ah bs) ?_;rintro c4 ⟨cg,ch,ci,aj,cj,a2,a3,a4⟩ az frz;obtain rfl:=Option.some.inj h;exact⟨_,QR rfl (.cell rfl AaY rfl Bc (AS (i:=0) aj rfl)) (.cell rfl AaR rfl AT (AS (i:=1) aj rfl)) frz,aj.ext,_,_,_,rfl,(a2.mono (Cu hH)),(a3.mono (Cu hH)),(a4.mono (Cu hH))⟩
 rintro y22 rfl _ c5 ⟨l,m,o,rfl,bt,ck,c,d,e⟩;have h:=Dw h;refine Ak 2 rfl rfl rfl Bc bt rfl rfl (AF rfl (AF c.one (AF rfl (AF d.one (AF rfl (AF rfl (AF e.one BM))))))) fun c6 x y=>Ad<|Bm (σ:=Unit) (fun(_:Unit)=>[(2,(Aam b1)),(3,(Aam b2))]) (fun(_:Unit) wr=>DM w [.box z [Aar y22.2.1,No y22.2.2] 86,.box b2 [No (0:Int),No (0:Int)] 28,.box b1 [No y22.1.f.1,l,Aar y22.1.f.2.2.1,m,No y22.1.f.2.2.2.2.1,No y22.1.f.2.2.2.2.2.1,o] 26] wr fun Oz=>AI .st (gz H w wr Oz) (l) (y22.1.f.2.1)∧AI .byte (gz H w wr Oz) (m) (y22.1.f.2.2.2.1)∧AI .AV (gz H w wr Oz) (o) (y22.1.f.2.2.2.2.2.2)∧(IX y22)=some r) ?_ ?_
 ·have a:=x.rG H;refine Al<|Af (AE 2 rfl AaY rfl Bc x rfl) rfl ?_;obtain⟨k,bu,h⟩:=Go.L.bind_some h;have c:=c.mono (Ab hH y);have d:=d.mono (Ab hH y);have e:=e.mono (Ab hH y);refine Ax rfl rfl x (IW (a0:=y22.1) _ _ (As hH x) (hU.mono (Ai hH)) (c.mono a) (d.mono a) (e.mono a) bu) ?_;rintro _ c7 rfl cy bv ap;refine Ar 3 rfl<|AJ AT rfl rfl bv fun c8 bm bw aq _=>Ar 1 rfl<|Ak 0 rfl rfl rfl AT bw rfl rfl (AF rfl (AF rfl BM)) fun cb p ar=>Ad<|Al<|Af (AE 0 rfl AaR rfl AT p rfl) rfl<|Af (AW rfl (fun _=>BL _)) rfl<|Af (Kv rfl rfl IC (LA _ _ _ _)) rfl<|Ar 1 rfl<|G5 6 32 (.bool ((!decide (k.2.1=(0:Int)∧k.2.2=(0:Int)))||(!decide (y22.2.1=([]:Aas))))) (fun a5=>?_) ?_
  ·refine AQ (s:=26) rfl (fun b=>?_) (fun b=>?_)
   ·iterate 5 refine Aj rfl rfl b rfl ?_
    refine Af (A3 rfl b rfl) rfl<|a5.to 5 (O0 b) rfl rfl
   refine Aa rfl rfl b<|Af (Ae rfl) rfl<|Aa rfl rfl b<|Af (Cp rfl) rfl<|Aa rfl rfl b<|Af (Ag rfl Ab2 rfl Fo (by decide)) rfl<|Aa rfl rfl b<|Af (Ah 1 rfl AaG rfl p rfl rfl) rfl<|Aa rfl rfl b<|Af (MB rfl rfl) rfl<|Af (A7 rfl b rfl) rfl<|a5.to 5 (O1 b) rfl rfl
  refine Ar 1 rfl<|G5 4 37 (.bool (((!decide (k.2.1=(0:Int)∧k.2.2=(0:Int)))||(!decide (y22.2.1=([]:Aas))))||(!decide (k.1=a0)))) (fun a6=>?_) ?_
  ·refine AQ (s:=33) rfl (fun g=>?_) (fun g=>?_)
   ·iterate 3 refine Aj rfl rfl g rfl ?_
    refine Af (A3 rfl g rfl) rfl<|a6.to 3 (O0 g) rfl rfl
   refine Aa rfl rfl g<|Af (Ae rfl) rfl<|Aa rfl rfl g<|Af (Ae rfl) rfl<|Aa rfl rfl g<|Af (MB rfl rfl) rfl<|Af (A7 rfl g rfl) rfl<|a6.to 3 (O1 g) rfl rfl
  refine Ad<|By rfl (fun ak=>?_) (fun ak=>?_)
  ·have h:=Bv ak h;refine Aq<|Af (AW rfl (fun _=>NH _)) rfl<|Af (RY rfl Ab4 rfl) rfl<|NB rfl rfl<|ET ?_;have a7:AR w [.box b1 [No y22.1.f.1,l,Aar y22.1.f.2.2.1,m,No y22.1.f.2.2.2.2.1,No y22.1.f.2.2.2.2.2.1,o] 26,.box b2 [No (0:Int),No (0:Int)] 28,.box bm [No k.2.1,No k.2.2] 28,.box z [Aar y22.2.1,No y22.2.2] 86] cb:=p.Cq [2,3] rfl;have bh:=B5 [2,3] p a7 rfl;obtain⟨c9,bx,h⟩:=Go.L.bind_some h;have a:=a.trans (Ab hH (ap.trans (aq.trans (ar.trans bh))));refine Vg (LJ (a0:=y22.1) (a1:=((0:Int),(0:Int))) (O:=[.box bm [No k.2.1,No k.2.2] 28,.box z [Aar y22.2.1,No y22.2.2] 86]) hH a7 (c.mono a) (d.mono a) (e.mono a) bx) ?_;rintro da ⟨cl,cm,cn,al,co,a8,a9,ba⟩ az frz;obtain rfl:=Option.some.inj h;exact⟨_,QR rfl (.cell rfl AaY rfl Bc (AS (i:=0) al rfl)) (.cell rfl AaR rfl AT (AS (i:=1) al rfl)) frz,al.ext,_,_,_,rfl,(a8.mono (Cu hH)),(a9.mono (Cu hH)),(ba.mono (Cu hH))⟩
  have h:=Bw ak h;refine Av ?_;have bz:=p.AP (i:=0) rfl;have a:=a.trans (Ab hH (ap.trans (aq.trans (ar.trans (Am (i:=0) rfl)))));refine A9 () (.cons rfl (.cons rfl (Sub.nil _))) ⟨bz,(c.mono a),(d.mono a),(e.mono a),h⟩
 rintro _ cz ⟨am,aa,ab,ac,h⟩;have j:=am.rG H;refine Al<|Af (AE 2 rfl AaY rfl Bc am rfl) rfl<|Af (AW rfl (fun _=>BL _)) rfl<|Ak 2 rfl rfl rfl Bc am rfl rfl (AF rfl (AF (aa.mono j).one (AF rfl (AF (ab.mono j).one (AF rfl (AF rfl (AF (ac.mono j).one BM))))))) fun db b0 bi=>Ak 1 rfl rfl rfl AT b0 rfl rfl (AF rfl (AF rfl BM)) fun cc bb bj=>Ad<|Az ?_;have bc:AR w [.box b1 [No y22.1.f.1,l,Aar y22.1.f.2.2.1,m,No y22.1.f.2.2.2.2.1,No y22.1.f.2.2.2.2.2.1,o] 26,.box b2 [No (0:Int),No (0:Int)] 28,.box z [Aar y22.2.1,No y22.2.2] 86] cc:=bb.Cq [1,2] rfl;have bk:=B5 [1,2] bb bc rfl;obtain⟨dc,b3,h⟩:=Go.L.bind_some h;have j:=j.trans (Ab hH (bi.trans (bj.trans bk)));refine Y5 (N6 (a0:=y22.1) (a1:=((0:Int),(0:Int))) (O:=[.box z [Aar y22.2.1,No y22.2.2] 86]) hH bc (aa.mono j) (ab.mono j) (ac.mono j) b3) ?_;rintro dd ⟨cp,cq,cr,an,cs,bd,be,bf⟩ az frz;obtain rfl:=Option.some.inj h
 exact⟨_,QR rfl (.cell rfl AaY rfl Bc (AS (i:=0) an rfl)) (.cell rfl AaR rfl AT (AS (i:=1) an rfl)) frz,an.ext,_,_,_,rfl,(bd.mono (Cu hH)),(be.mono (Cu hH)),(bf.mono (Cu hH))⟩
end Go.Proofs.YtekmbcbgknmhiaaGreatDoor
end
