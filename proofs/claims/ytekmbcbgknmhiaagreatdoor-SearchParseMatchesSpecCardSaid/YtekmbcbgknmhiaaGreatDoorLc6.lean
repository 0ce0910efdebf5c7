/- Texts of a claim, merged. -/
import Derived.Test.YtekmbcbgknmhiaaGreatDoorLc5
import Derived.KernelRfl
set_option linter.unusedVariables false
set_option linter.unusedSimpArgs false
open _root_.Go.Proofs.Tryz renaming underlying9->Ab1,underlying26->AcF,underlying28->Ack,underlying20->AdT,underlying86->Af9,underlying82->AfB
noncomputable section
namespace Go.L
open Go
def Smq(B:Nat):Nat->Qv->Prop
 | 0,_=>True
 | d+1,q=>q.f.2.1.length<=B/\q.f.2.2.1.length<=B/\q.f.2.2.2.1.length<=B/\q.f.2.2.2.2.2.2.length<=B/\(∀ x∈q.f.2.1,x.length<=B)/\B0 q.f.2.2.2.2.1/\B0 q.f.2.2.2.2.2.1/\∀ p∈q.f.2.2.2.2.2.2,Smq B d p
end Go.L
namespace Go.Proofs.YtekmbcbgknmhiaaGreatDoor
open Go Go.L
def WD:List (List UInt8)->Int
 | []=>0
 | w::l=>if(wf w).1=0 then WD l else(wf w).1
theorem Ae0{w:List UInt8}(h:(wf w).1=0):wf w=(0,0):=by
 unfold wf at h ⊢
 split at h
 ·cases h
 ·rename_i a;rw [if_neg a]
  split at h
  ·rename_i b;rw [if_pos b]
  ·cases h
theorem Ae1{w:List UInt8}(h:(pf w).1=0):pf w=(0,0):=by
 unfold pf at h ⊢
 split at h
 ·cases h
 ·rename_i a;rw [if_neg a]
  split at h
  ·cases h
  ·rename_i b;rw [if_neg b]
theorem Qf(k:Int)(ws:List (List UInt8))(p d:List UInt8)(l h:Int)(ss:List Qv):(Qv.mk k ws p d l h ss).f=(k,ws,p,d,l,h,ss):=rfl
theorem Uv{ws:List (List UInt8)}(hl:ws.length<=1000000000){b:Int->Option (Int ⊕ Int)}{m:Option Int}
  (a:∀ i:Nat,i<ws.length->b (i:Int)=if(wf (ws.getD i default)).1=0 then some (.inl ((i:Int)+1)) else some (.inr (wf (ws.getD i default)).1)) (h2:b (ws.length:Int)=m.map Sum.inr):Go.L.run b 0=if WD ws=0 then m else some (WD ws):=by
 have key:∀ (d i:Nat),i+d=ws.length->Go.L.run b (i:Int)=if WD (ws.drop i)=0 then m else some (WD (ws.drop i)):=by
  intro d
  induction d with
  | zero=>
   intro i hi;rw [List.drop_eq_nil_of_le (by omega),if_pos (by rfl),show i=ws.length by omega];exact Bh h2
  | succ d ih=>
   intro i hi;have hb:=a i (by omega);rw [List.drop_eq_getElem_cons (by omega),WD];have hg:ws.getD i default=ws[i]:=by rw [List.getD_eq_getElem?_getD,List.getElem?_eq_getElem (by omega)];rfl
   rw [hg] at hb
   by_cases hw:(wf ws[i]).1=0
   ·rw [if_pos hw] at hb ⊢;rw [B2 hb];exact ih (i+1) (by omega)
   ·rw [if_neg hw] at hb ⊢;rw [if_neg hw];exact Bh (m:=some _) hb
 exact key ws.length 0 (by omega)
def Ml(q:Qv):Bool:=q.f.2.2.2.2.2.2.any fun s=>decide (s.f.1=q.f.1)
theorem Aay{l:List Qv}{k:Int}(hl:l.length<=1000000000){σ ρ:Type}{b:σ->Option (σ ⊕ ρ)}{st:Nat->σ}{m y:Option ρ}
  (a:∀ i:Nat,i<l.length->b (st i)=if(l.getD i default).f.1=k then y.map Sum.inr else some (.inl (st (i+1)))) (h2:b (st l.length)=m.map Sum.inr):Go.L.run b (st 0)=if(l.any fun s=>decide (s.f.1=k)) then y else m:=by
 have key:∀ (d i:Nat),i+d=l.length->Go.L.run b (st i)=if((l.drop i).any fun s=>decide (s.f.1=k)) then y else m:=by
  intro d
  induction d with
  | zero=>
   intro i hi;rw [List.drop_eq_nil_of_le (by omega),if_neg (by simp),show i=l.length by omega];exact Bh h2
  | succ d ih=>
   intro i hi;have hb:=a i (by omega);have hg:l.getD i default=l[i]:=by rw [List.getD_eq_getElem?_getD,List.getElem?_eq_getElem (by omega)];rfl
   rw [hg] at hb;rw [List.drop_eq_getElem_cons (by omega),List.any_cons]
   by_cases hw:l[i].f.1=k
   ·rw [if_pos hw] at hb;rw [decide_eq_true hw,Bool.true_or,if_pos rfl];exact Bh hb
   ·rw [if_neg hw] at hb;rw [B2 hb,decide_eq_false hw,Bool.false_or];exact ih (i+1) (by omega)
 exact key l.length 0 (by omega)
end Go.Proofs.YtekmbcbgknmhiaaGreatDoor
namespace Go.Proofs.YtekmbcbgknmhiaaGreatDoor
open Go Go.L
theorem Acq{q:Qv}(hl:q.f.2.2.2.2.2.2.length<=1000000000):∃ u,AV q.f.2.2.2.2.2.2 q=some (Ml q,u):=by
 unfold AV BX Cq;obtain⟨k,ws,pat,data,low,high,subs⟩:=q;simp only [Qf] at hl ⊢
 have key:∃ r,Go.L.run (Bk subs) (k,ws,pat,data,low,high,subs,0)=some r/\decide (0<=r.1)=Ml (.mk k ws pat data low high subs):=by
  have:∀ (d i:Nat),i+d=subs.length->∃ r,Go.L.run (Bk subs) (k,ws,pat,data,low,high,subs,(i:Int))=some r/\decide (0<=r.1)=(subs.drop i).any fun s=>decide (s.f.1=k):=by
   intro d
   induction d with
   | zero=>
    intro i hi;refine⟨(-1,.mk k ws pat data low high subs),Bh (m:=some _) ?_,?_⟩
    ·unfold Bk;simp only;rw [if_neg (by omega)]
     rfl
    ·rw [List.drop_eq_nil_of_le (by omega)]
     rfl
   | succ d ih=>
    intro i hi;have hg:subs.getD i default=subs[i]:=by rw [List.getD_eq_getElem?_getD,List.getElem?_eq_getElem (by omega)];rfl
    rw [List.drop_eq_getElem_cons (by omega),List.any_cons]
    have hb:Bk subs (k,ws,pat,data,low,high,subs,(i:Int))=if subs[i].f.1=k then some (.inr ((i:Int),.mk k ws pat data low high subs)) else some (.inl (k,ws,pat,data,low,high,subs,((i+1:Nat):Int))):=by
     unfold Bk;simp only;rw [if_pos (by omega),Al ⟨by omega,by omega⟩,Int.toNat_natCast,hg];unfold HH;simp only [Option.bind_some,Qf]
     by_cases hk:subs[i].f.1=k
     ·simp [hk]
     ·simp only [hk,decide_false,Bool.false_eq_true,if_false];rw [Al (by constructor <;> omega)]
      rfl
    by_cases hk:subs[i].f.1=k
    ·rw [if_pos hk] at hb;refine⟨_,Bh (m:=some _) hb,?_⟩;rw [decide_eq_true hk,Bool.true_or];exact decide_eq_true (by omega)
    ·rw [if_neg hk] at hb;rw [B2 hb,decide_eq_false hk,Bool.false_or];exact ih (i+1) (by omega)
  exact this subs.length 0 (by omega)
 obtain⟨r,a,h2⟩:=key;rw [a,Option.bind_some,h2];exact⟨_,rfl⟩
def Wv(q:Qv):Bool:=
 let k:=q.f.1
 let n:=q.f.2.1.length
 let m:=q.f.2.2.2.2.2.2.length
 (if k=1 then decide (n=1) else if k=2 then decide (2<=n/\n<=16) else if k=3 then decide (n=2) else decide (n=0)) &&
 (decide (k=5\/k=6\/k=7)||decide (q.f.2.2.1=[]))&&(decide (k=4\/k=7)||decide (q.f.2.2.2.1=[])) &&
 (decide (k=3\/k=6)||decide (q.f.2.2.2.2.1=0))&&(decide (k=6)||decide (q.f.2.2.2.2.2.1=0)) &&
 (if k=8\/k=9 then decide (2<=m)&&!Ml q else if k=10 then decide (m=1) else decide (m=0))
theorem YU{q:Qv}(hl:q.f.2.2.2.2.2.2.length<=1000000000)(hk:1<=q.f.1/\q.f.1<=10):HQ q=some (Wv q):=by
 obtain⟨u,hc⟩:=Acq hl;unfold HQ Ce;rw [hc];clear hc;unfold Wv;clear hl;generalize Ml q=B;generalize q.f.1=k at hk ⊢;generalize q.f.2.1.length=n;have hd:∀ l:List UInt8,l=[]↔l.length=0:=fun l=>List.length_eq_zero_iff.symm;have hd':([]=q.f.2.2.1)↔q.f.2.2.1.length=0:=by rw [eq_comm,hd]
 generalize q.f.2.2.2.2.1=low;generalize q.f.2.2.2.1=data;generalize q.f.2.2.2.2.2.1=high;generalize q.f.2.2.2.2.2.2.length=m;obtain rfl | rfl | rfl | rfl | rfl | rfl | rfl | rfl | rfl | rfl:k=1\/k=2\/k=3\/k=4\/k=5\/k=6\/k=7\/k=8\/k=9\/k=10:=by omega
 all_goals simp only [Int.reduceEq,if_true,if_false,hd',decide_true,decide_false,Bool.or_false,Bool.or_true,Bool.false_or,Bool.true_or,Bool.not_true,Bool.not_false,Bool.false_eq_true,Option.bind_some,List.length_nil,cond_true,cond_false,or_false,or_true,false_or,true_or,hd,List.nil_eq]
 all_goals (repeat' split)
 all_goals (refine congrArg some (Bool.eq_iff_iff.2 ?_))
 all_goals clear hd hd'
 all_goals (simp only [Bool.and_eq_true,decide_eq_true_eq,Bool.or_eq_true,Bool.false_eq_true,Bool.not_eq_true',Bool.not_eq_true,true_iff,false_iff,iff_true,iff_false,Bool.true_eq_false,Int.natCast_eq_zero,and_true,true_and] at *)
 all_goals first | omega | exact⟨fun h=>⟨by omega,by omega,h⟩,fun h=>h.2.2⟩
theorem Pf{q:Qv}(h:Wv q=true):q.f.2.1.length<=16:=by
 unfold Wv at h;simp only [Bool.and_eq_true] at h;have:=h.1.1.1.1.1
 split at this
 ·simp at this;omega
 ·split at this
  ·simp at this;omega
  ·split at this
   ·simp at this;omega
   ·simp at this;simp [this]
def nt(q:Qv):Int:=if(q.f.1=3/\(q.f.2.2.2.2.1<1\/2048<q.f.2.2.2.2.1))\/(q.f.1=6/\q.f.2.2.2.2.2.1<q.f.2.2.2.2.1) then 4 else if q.f.1=4/\q.f.2.2.2.1.length=0 then 10 else if 64<q.f.2.2.2.1.length then 3 else 0
def nf(q:Qv):Int:=if 1<=q.f.1/\q.f.1<=10 then(if Wv q=true then(if WD q.f.2.1=0 then(if(pf q.f.2.2.1).1=0 then nt q else(pf q.f.2.2.1).1) else WD q.f.2.1) else 6) else 5
theorem Vo{q:Qv}(hl:q.f.2.2.2.2.2.2.length<=1000000000):F9 q=some (nf q):=by
 unfold F9 nf
 by_cases hk:1<=q.f.1/\q.f.1<=10
 ·rw [if_neg (by simp;omega),if_pos hk,YU hl hk,Option.bind_some]
  cases hF:Wv q with
  | false=>rfl
  | true=>
   rw [if_neg (by decide),if_pos rfl];have hw:=Pf hF;unfold GK;rw [Uv (ws:=q.f.2.1) (b:=CS q) (m:=DZ q) (by omega) ?A ?B]
   ·by_cases c:WD q.f.2.1=0
    ·rw [if_pos c,if_pos c];unfold DZ;rw [YT,Option.bind_some]
     by_cases a:(pf q.f.2.2.1).1=0
     ·rw [if_pos (by rw [Ae1 a];exact⟨rfl,rfl⟩),if_pos a];unfold DY nt;clear hl hw hF c a;generalize q.f.1=k at hk ⊢;generalize q.f.2.2.2.1.length=n;generalize q.f.2.2.2.2.1=low;generalize q.f.2.2.2.2.2.1=high;simp only [Bool.and_eq_true,decide_eq_true_eq,Bool.or_eq_true]
      repeat' split
      all_goals first | rfl | (exfalso;omega)
     ·rw [if_neg (fun h=>a h.1),if_neg a]
    ·rw [if_neg c,if_neg c]
   ·intro i hi;unfold CS;rw [if_pos (by omega),Al ⟨by omega,by omega⟩,Int.toNat_natCast,Aar,Option.bind_some]
    by_cases a:(wf (q.f.2.1.getD i default)).1=0
    ·rw [if_pos (by rw [Ae0 a];exact⟨rfl,rfl⟩),if_pos a,Al (by constructor <;> omega)]
    ·rw [if_neg (fun h=>a h.1),if_neg a]
     rfl
   ·unfold CS;rw [if_neg (by omega)]
 ·rw [if_pos (by simp;omega),if_neg hk]
theorem Vp{q:Qv}(hl:q.f.2.2.2.2.2.2.length<=1000000000):JU q=some (nf q):=by
 have e:q.f.2.1.length<=16->Dj q=some (if WD q.f.2.1=0 then(if(pf q.f.2.2.1).1=0 then nt q else(pf q.f.2.2.1).1) else WD q.f.2.1):=fun hw=>by
  unfold Dj Ms;rw [Uv (ws:=q.f.2.1) (b:=FH q) (m:=Ib q) (by omega) ?A ?B]
  ·by_cases d:WD q.f.2.1=0
   ·rw [if_pos d,if_pos d];unfold Ib;rw [YR,Option.bind_some]
    by_cases c:(pf q.f.2.2.1).1=0
    ·rw [if_pos c,if_pos c];unfold nt;clear hl hw d c;generalize q.f.1=k;generalize q.f.2.2.2.1.length=n;generalize q.f.2.2.2.2.1=low;generalize q.f.2.2.2.2.2.1=high;simp only [Bool.and_eq_true,decide_eq_true_eq,Bool.or_eq_true,Bool.not_eq_true',decide_eq_false_iff_not]
     repeat' split
     all_goals first | rfl | (exfalso;omega)
    ·rw [if_neg c,if_neg c]
   ·rw [if_neg d,if_neg d]
  ·intro i hi;unfold FH;rw [if_pos (by omega),Al ⟨by omega,by omega⟩,Int.toNat_natCast,Vk,Option.bind_some]
   by_cases c:(wf (q.f.2.1.getD i default)).1=0
   ·rw [if_pos c,if_pos c,Al (by constructor <;> omega)]
   ·rw [if_neg c,if_neg c]
    rfl
  ·unfold FH;rw [if_neg (by omega)]
 have g:Ic q=if Ml q=true/\q.f.1<10 then some 6 else Dj q:=by
  unfold Ic Mt
  by_cases j:q.f.1<10
  ·have:=Aay (k:=q.f.1) hl (b:=Ei q) (st:=fun i=>(i:Int)) (m:=Dj q) (y:=some 6) (fun i hi=>?_) ?_
   ·unfold Ml;simp only [j,and_true];exact this
   ·unfold Ei;rw [if_pos (by simp;omega),Al ⟨by omega,by omega⟩,Int.toNat_natCast,Al (by constructor <;> omega)]
    rfl
   ·unfold Ei;rw [if_neg (by simp)]
  ·rw [if_neg (fun h=>j h.2)];refine Bh ?_;unfold Ei;rw [if_neg (by simp;omega)]
 unfold JU nf
 by_cases hk:1<=q.f.1/\q.f.1<=10
 ·rw [if_pos hk,if_pos hk,Al ⟨by omega,by omega⟩,Al ⟨by omega,by omega⟩,g];have hX:Wv q=true->Dj q=_:=fun h=>e (Pf h);clear g e hl
  revert hX
  generalize (if WD q.f.2.1=0 then(if(pf q.f.2.2.1).1=0 then nt q else(pf q.f.2.2.1).1) else WD q.f.2.1)=r;generalize Dj q=X;have hd:∀ l:List UInt8,l=[]↔l.length=0:=fun l=>List.length_eq_zero_iff.symm;unfold Wv
  have hB:Ml q=true->0<q.f.2.2.2.2.2.2.length:=fun h=>by
   unfold Ml at h
   cases hs:q.f.2.2.2.2.2.2 with
   | nil=>rw [hs] at h;cases h
   | cons a l=>simp
  revert hB
  generalize Ml q=B;generalize q.f.1=k at hk ⊢;generalize q.f.2.1.length=n;simp only [hd];generalize q.f.2.2.1.length=pn;generalize q.f.2.2.2.2.1=low;generalize q.f.2.2.2.1.length=dn;generalize q.f.2.2.2.2.2.1=high;generalize q.f.2.2.2.2.2.2.length=m;intro hB hX;obtain rfl | rfl | rfl | rfl | rfl | rfl | rfl | rfl | rfl | rfl:k=1\/k=2\/k=3\/k=4\/k=5\/k=6\/k=7\/k=8\/k=9\/k=10:=by omega
  all_goals (cases B <;> simp at hX hB ⊢ <;> (repeat' split) <;> first | rfl | (exfalso;omega) | (intros;exfalso;omega) | (rw [hX] <;> omega))
 ·rw [if_neg hk,if_neg hk]
end Go.Proofs.YtekmbcbgknmhiaaGreatDoor
end
noncomputable section
namespace Go.Proofs.YtekmbcbgknmhiaaGreatDoor
open Go Go.L
def Sq(q:Qv):Prop:=∀ d,Smq 1048576 d q
theorem Sq.open{q:Qv}(h:Sq q):q.f.2.1.length<=1048576/\q.f.2.2.1.length<=1048576/\q.f.2.2.2.1.length<=1048576/\q.f.2.2.2.2.2.2.length<=1048576/\(∀ x∈q.f.2.1,x.length<=1048576)/\B0 q.f.2.2.2.2.1/\B0 q.f.2.2.2.2.2.1:=
 ⟨(h 1).1,(h 1).2.1,(h 1).2.2.1,(h 1).2.2.2.1,(h 1).2.2.2.2.1,(h 1).2.2.2.2.2.1,(h 1).2.2.2.2.2.2.1⟩
theorem Sq.sub{q:Qv}(h:Sq q){p:Qv}(hp:p∈q.f.2.2.2.2.2.2):Sq p:=fun d=>(h (d+1)).2.2.2.2.2.2.2 p hp
theorem Sq.len{q:Qv}(h:Sq q):q.f.2.2.2.2.2.2.length<=1000000000:=by have:=h.open.2.2.2.1;omega
def Ze(f:Qv->Int->Int->Int×(Int×Int))(lev:Int):List Qv->Int->Int×(Int×Int)
 | [],num=>(num,(0,0))
 | s::l,num=>if(f s num lev).2.1=0 then Ze f lev l (f s num lev).1 else(0,(f s num lev).2)
def ck:Nat->Qv->Int->Int->Int×(Int×Int)
 | 0,_,_,_=>(0,(0,0))
 | n+1,q,num,lev=>if 40<=num\/8<lev then(0,(2,num)) else if nf q=0 then Ze (ck n) (lev+1) q.f.2.2.2.2.2.2 (num+1) else(0,(nf q,num))
def CkP(r:Int×(Int×Int)):Prop:=0<=r.1/\(r.2.1=0->r.2=(0,0))
theorem AcQ{f:Qv->Int->Int->Int×(Int×Int)}{lev:Int}:∀ (l:List Qv) (num:Int),0<=num->(∀ s∈l,∀ num,0<=num->CkP (f s num lev))->CkP (Ze f lev l num)
 | [],num,h,_=>⟨h,fun _=>rfl⟩
 | s::l,num,h,hf=>by
  have a:=hf s (List.mem_cons_self ..) num h;unfold Ze
  split
  ·exact AcQ l _ a.1 (fun s hs=>hf s (List.mem_cons_of_mem _ hs))
  ·exact⟨Int.le_refl _,fun e=>absurd e (by assumption)⟩
theorem Ya{l:List Qv}(hl:l.length<=1000000000){f:Qv->Int->Int->Int×(Int×Int)}{lev:Int}{b:Int×Int->Option ((Int×Int) ⊕ (Int×(Int×Int)))}
  (hp:∀ s∈l,∀ num,0<=num->CkP (f s num lev))
  (a:∀ (i:Nat) (num:Int),0<=num->i<l.length->b (num,(i:Int))=if(f (l.getD i default) num lev).2.1=0 then some (.inl ((f (l.getD i default) num lev).1,(i:Int)+1)) else some (.inr (0,(f (l.getD i default) num lev).2)))
  (h2:∀ num,b (num,(l.length:Int))=some (.inr (num,(0,0)))) (num:Int) (hn:0<=num):Go.L.run b (num,0)=some (Ze f lev l num):=by
 have key:∀ (d i:Nat) (num:Int),0<=num->i+d=l.length->Go.L.run b (num,(i:Int))=some (Ze f lev (l.drop i) num):=by
  intro d
  induction d with
  | zero=>
   intro i num hn hi;rw [List.drop_eq_nil_of_le (by omega),show i=l.length by omega];exact Bh (m:=some _) (h2 num)
  | succ d ih=>
   intro i num hn hi;have hb:=a i num hn (by omega);have hg:l.getD i default=l[i]:=by rw [List.getD_eq_getElem?_getD,List.getElem?_eq_getElem (by omega)];rfl
   rw [hg] at hb;rw [List.drop_eq_getElem_cons (by omega),Ze]
   by_cases hw:(f l[i] num lev).2.1=0
   ·rw [if_pos hw] at hb ⊢;rw [B2 hb];exact ih (i+1) _ (hp _ (List.getElem_mem _) num hn).1 (by omega)
   ·rw [if_neg hw] at hb ⊢;exact Bh (m:=some _) hb
 exact key l.length 0 num hn (by omega)
theorem Rh{l:List Qv}{i:Nat}(h:i<l.length):l.getD i default∈l:=by
 rw [List.getD_eq_getElem?_getD,List.getElem?_eq_getElem h];exact List.getElem_mem _
theorem Aaz:∀ (n:Nat) (q:Qv) (num lev:Int),Sq q->0<=num->1<=lev->lev<=9->10<=lev+n->
  DV n q num lev=some (ck n q num lev)/\Ej n q num lev=some (ck n q num lev)/\CkP (ck n q num lev)
 | 0,q,num,lev,_,_,_,a,h2=>by omega
 | n+1,q,num,lev,hq,hn,g,j,k=>by
  show DU (DV n) q num lev=_/\GD (Ej n) q num lev=_/\_
  unfold DU GD ck
  by_cases b:40<=num\/8<lev
  ·rw [if_pos b,if_pos b,if_pos b];exact⟨rfl,rfl,by show(0:Int)<=0;omega,fun e=>by cases e⟩
  ·rw [if_neg b,if_neg b,if_neg b,Vo hq.len,Vp hq.len,Option.bind_some,Option.bind_some]
   by_cases a:nf q=0
   ·rw [if_pos a,if_pos a,if_pos a,Al (by constructor <;> omega),Al (by constructor <;> omega)]
    have ih:∀ s∈q.f.2.2.2.2.2.2,∀ num,0<=num->DV n s num (lev+1)=some (ck n s num (lev+1))/\Ej n s num (lev+1)=some (ck n s num (lev+1))/\CkP (ck n s num (lev+1)):=
     fun s hs num hn=>Aaz n s num (lev+1) (hq.sub hs) hn (by omega) (by omega) (by omega)
    have hp:∀ s∈q.f.2.2.2.2.2.2,∀ num,0<=num->CkP (ck n s num (lev+1)):=fun s hs num hn=>(ih s hs num hn).2.2;refine⟨?_,?_,AcQ _ _ (by omega) hp⟩
    ·refine Ya hq.len hp (fun i num hn hi=>?_) (fun num=>?_) _ (by omega)
     ·unfold Dq;simp only;obtain⟨c,_,d⟩:=ih _ (Rh hi) num hn;rw [if_pos (by omega),Al ⟨by omega,by omega⟩,Int.toNat_natCast,Al (by constructor <;> omega),c,Option.bind_some]
      by_cases h2:(ck n (q.f.2.2.2.2.2.2.getD i default) num (lev+1)).2.1=0
      ·rw [if_pos (by rw [d.2 h2];exact⟨rfl,rfl⟩),if_pos h2,Al (by have:=hq.len;constructor <;> omega)]
      ·rw [if_neg (fun h=>h2 h.1),if_neg h2]
       rfl
     ·unfold Dq;simp only;rw [if_neg (by omega)]
      rfl
    ·refine Ya hq.len hp (fun i num hn hi=>?_) (fun num=>?_) _ (by omega)
     ·unfold EJ;simp only;obtain⟨_,c,d⟩:=ih _ (Rh hi) num hn;rw [if_pos (by omega),Al ⟨by omega,by omega⟩,Int.toNat_natCast,Al (by constructor <;> omega),c,Option.bind_some]
      by_cases h2:(ck n (q.f.2.2.2.2.2.2.getD i default) num (lev+1)).2.1=0
      ·rw [if_pos h2,if_pos h2,Al (by have:=hq.len;constructor <;> omega)]
      ·rw [if_neg h2,if_neg h2]
       rfl
     ·unfold EJ;simp only;rw [if_neg (by omega)]
      rfl
   ·rw [if_neg a,if_neg a,if_neg a];exact⟨rfl,rfl,by show(0:Int)<=0;omega,fun e=>absurd e a⟩
def Vq:Nat->Qv->Prop
 | 0,_=>False
 | n+1,q=>nf q=0/\∀ s∈q.f.2.2.2.2.2.2,Vq n s
def nq:Nat->Qv->Nat
 | 0,_=>0
 | n+1,q=>1+(q.f.2.2.2.2.2.2.map (nq n)).sum
theorem Aa0{f:Qv->Int->Int->Int×(Int×Int)}{lev:Int}{g:Qv->Nat}{V:Qv->Prop}:∀ (l:List Qv) (num:Int),(∀ s∈l,∀ num,(f s num lev).2.1=0->(f s num lev).1=num+g s/\(f s num lev).1<=40/\V s)->num<=40->(Ze f lev l num).2.1=0->
  (Ze f lev l num).1=num+(l.map g).sum/\(Ze f lev l num).1<=40/\∀ s∈l,V s
 | [],num,_,h,_=>⟨by simp [Ze],h,by simp⟩
 | s::l,num,hf,h,he=>by
  unfold Ze at he ⊢;have hs:=hf s (List.mem_cons_self ..) num
  split at he
  ·rename_i a;rw [if_pos a];obtain⟨b,c,d⟩:=hs a;obtain⟨e,i,j⟩:=Aa0 l _ (fun s hs=>hf s (List.mem_cons_of_mem _ hs)) c he;refine⟨by rw [e,b];simp;omega,i,fun x hx=>?_⟩
   rcases List.mem_cons.1 hx with rfl | hx
   ·exact d
   ·exact j x hx
  ·rename_i a;exact absurd he a
theorem AcR:∀ (n:Nat) (q:Qv) (num lev:Int),10<=lev+n->lev<=9->∀ m:Nat,lev+m=9->(ck n q num lev).2.1=0->(ck n q num lev).1=num+nq m q/\(ck n q num lev).1<=40/\Vq m q
 | 0,q,num,lev,h,h',_,_=>by omega
 | n+1,q,num,lev,h,h',m,hm=>by
  unfold ck
  by_cases b:40<=num\/8<lev
  ·rw [if_pos b];intro e
   cases e
  ·rw [if_neg b]
   by_cases a:nf q=0
   ·rw [if_pos a];intro he;obtain⟨m,rfl⟩:∃ k,m=k+1:=⟨m - 1,by omega⟩;obtain⟨c,d,f⟩:=Aa0 (g:=nq m) (V:=Vq m) _ (num+1) (fun s hs num he=>AcR n s num (lev+1) (by omega) (by omega) m (by omega) he) (by omega) he;exact⟨by rw [c];unfold nq;omega,d,a,f⟩
   ·rw [if_neg a];intro e;exact absurd e a
end Go.Proofs.YtekmbcbgknmhiaaGreatDoor
end
noncomputable section
namespace Go.L
open Go
def hxd(n:Nat):UInt8:=([48,49,50,51,52,53,54,55,56,57,97,98,99,100,101,102]:List UInt8).getD n 0
def Ww(c:UInt8):List UInt8:=if(32<=c.toNat/\c.toNat<=126)/\c.toNat≠39/\c.toNat≠92 then[c] else[92,hxd (c.toNat / 16),hxd (c.toNat % 16)]
def quo(l:List UInt8):List UInt8:=39::l.flatMap Ww++[39]
theorem Vr(c:UInt8):1<=(Ww c).length/\(Ww c).length<=3:=by
 unfold Ww
 split <;> simp
theorem Tm:∀ l:List UInt8,(l.flatMap Ww).length<=3 * l.length
 | []=>by simp
 | c::l=>by
  have a:=Tm l;have h2:=(Vr c).2;rw [List.flatMap_cons,List.length_append,List.length_cons];omega
end Go.L
namespace Go.Proofs.YtekmbcbgknmhiaaGreatDoor
open Go Go.L
theorem R7{n:Nat}(h:n<16):HL (n:Int)=some (hxd n):=by
 have:∀ k:Fin 16,HL ((k.val:Nat):Int)=some (hxd k.val):=by
  intro k;unfold HL
  split
  ·rw [Al (by have:=k.isLt;constructor <;> omega)]
   revert k
   decide
  ·rw [Al (by have:=k.isLt;constructor <;> omega),Al (by have:=k.isLt;constructor <;> omega)]
   revert k
   decide
 exact this ⟨n,h⟩
theorem Uw{l:List UInt8}(hl:l.length<=1000000000):KR l=some (quo l):=by
 unfold KR O6
 have key:∀ (d i:Nat) (o:List UInt8),o.length<=3 * i+1->i+d=l.length->Go.L.run (Gf l) (o,(i:Int))=some (o++(l.drop i).flatMap Ww++[39]):=by
  intro d
  induction d with
  | zero=>
   intro i o ho hi;rw [List.drop_eq_nil_of_le (by omega)];refine Bh (m:=some _) ?_;unfold Gf LS;simp only;rw [if_neg (by omega),Al (by constructor <;> simp <;> omega)];simp
  | succ d ih=>
   intro i o ho hi;have hg:l.getD i default=l[i]:=by rw [List.getD_eq_getElem?_getD,List.getElem?_eq_getElem (by omega)];rfl
   have hb:Gf l (o,(i:Int))=some (.inl (o++Ww l[i],((i+1:Nat):Int))):=by
    have a:∀ b:Bool,(b=true↔((32<=l[i].toNat/\l[i].toNat<=126)/\l[i].toNat≠39/\l[i].toNat≠92))->GU l o (i:Int) b=some (.inl (o++Ww l[i],((i+1:Nat):Int))):=fun b hb=>by
     have hc:l[i].toNat<256:=UInt8.toNat_lt _;unfold GU Ww;rw [Int.toNat_natCast,hg]
     by_cases h:b=true
     ·rw [if_pos h,if_pos (hb.1 h),Al ⟨by omega,by omega⟩,Al (by constructor <;> simp <;> omega),Al (by constructor <;> omega)]
      rfl
     ·rw [if_neg h,if_neg (fun e=>h (hb.2 e)),Al ⟨by omega,by omega⟩,Al ⟨by omega,by omega,by omega⟩];rw [show((l[i].toNat:Nat):Int) / 16=((l[i].toNat / 16:Nat):Int) by omega,R7 (by omega),Option.bind_some,Al ⟨by omega,by omega⟩,Al ⟨by omega,by omega,by omega⟩];rw [show((l[i].toNat:Nat):Int) % 16=((l[i].toNat % 16:Nat):Int) by omega,R7 (by omega),Option.bind_some,Al (by constructor <;> simp <;> omega),Al (by constructor <;> omega)]
      rfl
    unfold Gf;simp only;rw [if_pos (by omega),Al ⟨by omega,by omega⟩,Al ⟨by omega,by omega⟩,Al ⟨by omega,by omega⟩,Int.toNat_natCast,hg]
    by_cases c:(32:Int)<=(l[i].toNat:Int)/\(l[i].toNat:Int)<=126
    ·rw [if_pos c]
     by_cases h2:(l[i].toNat:Int)=39
     ·rw [if_pos h2,a false (by simp;omega)]
     ·rw [if_neg h2,a _ (by simp;omega)]
    ·rw [if_neg c,a false (by simp;omega)]
   have:=(Vr l[i]).2;rw [B2 hb,ih (i+1) _ (by rw [List.length_append];omega) (by omega),List.drop_eq_getElem_cons (by omega:i<l.length),List.flatMap_cons];simp
 exact key l.length 0 [39] (by simp) (by omega)
theorem Ux{l:List UInt8}(hl:l.length<=1000000000):G8 l=some (quo l):=by
 unfold G8 IS
 have key:∀ (d i:Nat) (o:List UInt8),o.length<=3 * i+1->i+d=l.length->Go.L.run (Dk l) (o,(i:Int))=some (o++(l.drop i).flatMap Ww++[39]):=by
  intro d
  induction d with
  | zero=>
   intro i o ho hi;rw [List.drop_eq_nil_of_le (by omega)];refine Bh (m:=some _) ?_;unfold Dk Hd;simp only;rw [if_neg (by omega),Al (by constructor <;> simp <;> omega)];simp
  | succ d ih=>
   intro i o ho hi;have hg:l.getD i default=l[i]:=by rw [List.getD_eq_getElem?_getD,List.getElem?_eq_getElem (by omega)];rfl
   have hb:Dk l (o,(i:Int))=some (.inl (o++Ww l[i],((i+1:Nat):Int))):=by
    have hc:l[i].toNat<256:=UInt8.toNat_lt _
    have b:(l[i] >>> (4:UInt8)).toNat=l[i].toNat / 16:=by
     have:∀ n:Fin 256,(UInt8.ofNat n.val >>> (4:UInt8)).toNat=n.val / 16:=by decide +kernel
     have h:=this ⟨l[i].toNat,hc⟩
     rwa [UInt8.ofNat_toNat] at h
    have c:(l[i] &&& (15:UInt8)).toNat=l[i].toNat % 16:=by
     have:∀ n:Fin 256,(UInt8.ofNat n.val &&& (15:UInt8)).toNat=n.val % 16:=by decide +kernel
     have h:=this ⟨l[i].toNat,hc⟩
     rwa [UInt8.ofNat_toNat] at h
    unfold Dk Ww;simp only;rw [if_pos (by omega),Al ⟨by omega,by omega⟩,Int.toNat_natCast,hg,b,c]
    by_cases a:(32<=l[i].toNat/\l[i].toNat<=126)/\l[i].toNat≠39/\l[i].toNat≠92
    ·rw [if_neg (by omega),if_pos a,Al (by constructor <;> simp <;> omega),Al (by constructor <;> omega)]
     rfl
    ·rw [if_pos (by omega),if_neg a,Al ⟨by omega,by simp;omega⟩,Al ⟨by omega,by simp;omega⟩,Al (by constructor <;> simp <;> omega),Al (by constructor <;> omega)]
     rfl
   have:=(Vr l[i]).2;rw [B2 hb,ih (i+1) _ (by rw [List.length_append];omega) (by omega),List.drop_eq_getElem_cons (by omega:i<l.length),List.flatMap_cons];simp
 exact key l.length 0 [39] (by simp) (by omega)
end Go.Proofs.YtekmbcbgknmhiaaGreatDoor
namespace Go.Proofs.YtekmbcbgknmhiaaGreatDoor
open Go Go.L
theorem NK{n:Int}(hn:B0 n):Ht n=some (Lib.itoa n):=by
 unfold Ht
 by_cases a:n=0
 ·subst a;rw [if_pos rfl];exact congrArg some (by rw [Lib.itoa,if_neg (by omega),Lib.decDigits,dif_pos (by decide)];rfl)
 rw [if_neg a];unfold NQ
 have fin:∀ l:List UInt8,l.length<=30->Go.L.run (Ek n) (l,0)=some ((if n<0 then[45] else[])++l):=fun l hl=>by
  refine Bh (m:=some _) ?_;unfold Ek KW;simp only;rw [if_pos trivial]
  by_cases hn:n<0
  ·rw [if_pos hn,if_pos hn,Al (by constructor <;> simp <;> omega)]
  ·rw [if_neg hn,if_neg hn]
   rfl
 have key:∀ (k:Nat) (s:Int) (l:List UInt8),s.natAbs<10 ^ k->l.length+k<=30->B0 s->(s=0->l≠[])->Go.L.run (Ek n) (l,s)=some ((if n<0 then[45] else[])++((if s=0 then[] else Lib.decDigits s.natAbs)++l)):=by
  intro k
  induction k with
  | zero=>
   intro s l hs hl hi _;obtain rfl:s=0:=by omega
   rw [fin l (by omega),if_pos rfl]
   rfl
  | succ k ih=>
   intro s l hs hl hi _
   by_cases hz:s=0
   ·subst hz;rw [fin l (by omega),if_pos rfl]
    rfl
   ·have hb:Ek n (l,s)=some (.inl ([UInt8.ofNat (48+s.natAbs % 10)]++l,Int.tdiv s 10)):=by
     have b:∀ d:Int,d=((s.natAbs % 10:Nat):Int)->HF l s d=some (.inl ([UInt8.ofNat (48+s.natAbs % 10)]++l,Int.tdiv s 10)):=fun d hd=>by
      unfold HF;rw [Al (by constructor <;> omega),Al (by constructor <;> simp <;> omega),Al ⟨hi.1,hi.2,by decide⟩]
      have:u8 (48+d)=UInt8.ofNat (48+s.natAbs % 10):=by
       unfold u8
       congr 1
       omega
      rw [this]
     unfold Ek;simp only;rw [if_neg hz,Al ⟨hi.1,hi.2,by decide⟩]
     have hm:Int.tmod s 10=if 0<=s then((s.natAbs % 10:Nat):Int) else -((s.natAbs % 10:Nat):Int):=by
      split
      ·rw [Int.tmod_eq_emod_of_nonneg (by assumption)];omega
      ·rw [show s = -(-s) by omega,Int.neg_tmod,Int.tmod_eq_emod_of_nonneg (by omega)];omega
     rw [hm]
     split
     ·split
      ·omega
      ·exact b _ rfl
     ·split
      ·rw [Al (by constructor <;> omega)];exact b _ (by omega)
      ·exact b _ (by omega)
    have hd:(Int.tdiv s 10).natAbs=s.natAbs / 10:=by rw [Int.natAbs_tdiv];rfl
    have hp:10 ^ (k+1)=10 * 10 ^ k:=by rw [Nat.pow_succ,Nat.mul_comm]
    have e:=hi;rw [B2 hb,ih _ _ (by rw [hd];omega) (by simp;omega) (by constructor <;> omega) (by simp),if_neg hz]
    congr 2
    have hdd:Lib.decDigits s.natAbs=if h:s.natAbs<10 then[UInt8.ofNat (48+s.natAbs)] else Lib.decDigits (s.natAbs / 10)++[UInt8.ofNat (48+s.natAbs % 10)]:=by rw [Lib.decDigits]
    rw [hdd]
    by_cases c:s.natAbs<10
    ·rw [dif_pos c,if_pos (by omega),Nat.mod_eq_of_lt c]
     rfl
    ·rw [dif_neg c,if_neg (by omega),hd];simp
 rw [key 19 n [] (by have:=hn.1;have:=hn.2;omega) (by simp) hn (fun h=>absurd h a),if_neg a,List.append_nil];unfold Lib.itoa
 split
 ·rfl
 ·rw [show n.natAbs=n.toNat by omega];rfl
theorem Q6{n:Int}(hn:B0 n):(Lib.itoa n).length<=30:=by
 have key:∀ (k u:Nat),u<10 ^ (k+1)->(Lib.decDigits u).length<=k+1:=by
  intro k
  induction k with
  | zero=>intro u h;rw [Lib.decDigits,dif_pos (by simpa using h)];simp
  | succ k ih=>
   intro u h;rw [Lib.decDigits]
   split
   ·simp
   ·have:10 ^ (k+1+1)=10 * 10 ^ (k+1):=by rw [Nat.pow_succ,Nat.mul_comm]
    have:=ih (u / 10) (by omega);simp;omega
 unfold Lib.itoa;have a:=hn.1;have h2:=hn.2
 split
 ·have:=key 18 n.natAbs (by omega);simp;omega
 ·have:=key 18 n.toNat (by omega);omega
end Go.Proofs.YtekmbcbgknmhiaaGreatDoor
end
noncomputable section
namespace Go.L
open Go
def par(f:Qv->List UInt8)(ks:List Int)(s:Qv):List UInt8:=if s.f.1∈ks then([40]++f s)++[41] else f s
def tb(f:Qv->List UInt8)(q:Qv):List UInt8:=
 if q.f.1=1 then q.f.2.1.getD 0 default else if q.f.1=2 then([34]++Lib.join q.f.2.1 [32])++[34]
 else if q.f.1=3 then(((q.f.2.1.getD 0 default++[126])++Lib.itoa q.f.2.2.2.2.1)++[126])++q.f.2.1.getD 1 default
 else if q.f.1=4 then quo q.f.2.2.2.1 else if q.f.1=5 then[47]++q.f.2.2.1
 else if q.f.1=6 then(((([47]++q.f.2.2.1)++[61])++Lib.itoa q.f.2.2.2.2.1)++[46,46])++Lib.itoa q.f.2.2.2.2.2.1
 else if q.f.1=7 then(([47]++q.f.2.2.1)++[61])++quo q.f.2.2.2.1
 else if q.f.1=8 then Lib.join (q.f.2.2.2.2.2.2.map (par f [9])) [38] else if q.f.1=9 then Lib.join (q.f.2.2.2.2.2.2.map (par f [])) [124]
 else[33]++Lib.join (q.f.2.2.2.2.2.2.map (par f [8,9])) []
def tx:Nat->Qv->List UInt8
 | 0,_=>[]
 | n+1,q=>tb (tx n) q
theorem Yb(sep:List UInt8)(x:List UInt8)(r:List (List UInt8)):Lib.joinTail sep (x::r)=sep++x++Lib.joinTail sep r:=by
 simp [Lib.joinTail]
theorem Uy(x:List UInt8)(r:List (List UInt8)):Lib.lens (x::r)=x.length+Lib.lens r:=by simp [Lib.lens]
theorem join_le(l:List (List UInt8))(sep:List UInt8):(Lib.join l sep).length<=sep.length * l.length+Lib.lens l:=by
 cases l with
 | nil=>simp [Lib.join_nil]
 | cons x r=>
  rw [Lib.join_length];have:=Nat.mul_le_mul_left sep.length (Nat.le_succ r.length);simp only [List.length_cons,Nat.succ_eq_add_one] at this ⊢;omega
theorem Acr(f:Qv->List UInt8)(ks:List Int)(s:Qv):(par f ks s).length<=(f s).length+2:=by
 unfold par
 split <;> simp
end Go.L
namespace Go.Proofs.YtekmbcbgknmhiaaGreatDoor
open Go Go.L
theorem Aa1:∀ {ws:List (List UInt8)},WD ws=0->∀ w∈ws,wf w=(0,0)
 | [],_=>by simp
 | w::l,h=>by
  unfold WD at h
  split at h
  ·rename_i a;intro x hx
   rcases List.mem_cons.1 hx with rfl | hx
   ·exact Ae0 a
   ·exact Aa1 h x hx
  ·rename_i a;exact absurd h a
theorem Aa2{w:List UInt8}(h:wf w=(0,0)):w.length<=64:=by
 unfold wf at h
 split at h
 ·cases h
 ·omega
theorem Aa3{w:List UInt8}(h:pf w=(0,0)):w.length<=64:=by
 unfold pf at h
 split at h
 ·cases h
 ·omega
theorem NL{q:Qv}(h:nf q=0):(1<=q.f.1/\q.f.1<=10)/\Wv q=true/\(∀ w∈q.f.2.1,wf w=(0,0))/\pf q.f.2.2.1=(0,0)/\nt q=0:=by
 unfold nf at h
 split at h
 ·rename_i b
  split at h
  ·rename_i h2
   split at h
   ·rename_i h3
    split at h
    ·rename_i a;exact⟨b,h2,Aa1 h3,Ae1 a,h⟩
    ·rename_i a;exact absurd h a
   ·rename_i h3;exact absurd h h3
  ·cases h
 ·cases h
theorem Yc{q:Qv}(h:nt q=0):q.f.2.2.2.1.length<=64:=by
 unfold nt at h
 split at h
 ·cases h
 ·split at h
  ·cases h
  ·split at h
   ·cases h
   ·omega
theorem OL{q:Qv}(h:Wv q=true):(q.f.1=1->q.f.2.1.length=1)/\(q.f.1=2->2<=q.f.2.1.length)/\(q.f.1=3->q.f.2.1.length=2)/\(q.f.1=10->q.f.2.2.2.2.2.2.length=1)/\(q.f.1=8\/q.f.1=9->2<=q.f.2.2.2.2.2.2.length):=by
 unfold Wv at h;simp only [Bool.and_eq_true] at h;obtain⟨⟨⟨⟨⟨a,_⟩,_⟩,_⟩,_⟩,b⟩:=h;refine⟨fun e=>?_,fun e=>?_,fun e=>?_,fun e=>?_,fun e=>?_⟩
 ·rw [e] at a;simpa using a
 ·rw [e] at a;simp at a;omega
 ·rw [e] at a;simpa using a
 ·rw [e] at b;simpa using b
 ·rw [if_pos e] at b;simp at b;exact b.1
theorem Vs{l:List Qv}{g:Qv->Nat}{f:Qv->List UInt8}(h:∀ s∈l,(f s).length+1<=3000 * g s):Lib.lens (l.map f)+l.length<=3000 * (l.map g).sum:=by
 induction l with
 | nil=>simp [Lib.lens]
 | cons a l ih=>
  have b:=h a (List.mem_cons_self ..);have:=ih fun s hs=>h s (List.mem_cons_of_mem _ hs);simp only [List.length_cons,List.map_cons,List.sum_cons,Uy];omega
theorem Aa4{l:List (List UInt8)}(h:∀ w∈l,w.length<=64):Lib.lens l<=64 * l.length:=by
 induction l with
 | nil=>simp [Lib.lens]
 | cons a l ih=>
  have b:=h a (List.mem_cons_self ..);have:=ih fun s hs=>h s (List.mem_cons_of_mem _ hs);simp only [List.length_cons,Uy];omega
theorem Ri{l:List (List UInt8)}(h:∀ w∈l,w.length<=64)(i:Nat):(l.getD i default).length<=64:=by
 rw [List.getD_eq_getElem?_getD]
 cases e:l[i]? with
 | none=>decide
 | some w=>exact h w (List.mem_of_getElem? e)
theorem Xm:∀ (d:Nat) (q:Qv),Sq q->Vq d q->(tx d q).length+3<=3000 * nq d q
 | 0,_,_,h=>h.elim
 | d+1,q,hq,hv=>by
  obtain⟨hk,hF,hw,hp,ht⟩:=NL hv.1;have hw':∀ w∈q.f.2.1,w.length<=64:=fun w h=>Aa2 (hw w h);have hd:=Yc ht;have hp:=Aa3 hp;have hwn:=Pf hF
  have hs:∀ ks,∀ s∈q.f.2.2.2.2.2.2,(par (tx d) ks s).length+1<=3000 * nq d s:=fun ks s hs=>by
   have l:=Xm d s (hq.sub hs) (hv.2 s hs);have h2:=Acr (tx d) ks s;omega
  have e:=Q6 hq.open.2.2.2.2.2.1;have g:=Q6 hq.open.2.2.2.2.2.2
  have hqu:(quo q.f.2.2.2.1).length<=3 * q.f.2.2.2.1.length+2:=by
   have:=Tm q.f.2.2.2.1;simp [quo]
   simpa using this
  have i:=Ri hw' 0;have j:=Ri hw' 1;have hwl:=Aa4 hw';unfold tx tb nq;have b:=join_le (q.f.2.2.2.2.2.2.map (par (tx d) [9])) [38];have c:=join_le (q.f.2.2.2.2.2.2.map (par (tx d) [])) [124];have a:=join_le (q.f.2.2.2.2.2.2.map (par (tx d) [8,9])) [];have m:=Vs (hs [9]);have n:=Vs (hs []);have k:=Vs (hs [8,9]);have j2:=join_le q.f.2.1 [32];simp only [List.length_map,List.length_cons,List.length_nil] at b c a j2
  repeat' split
  all_goals first | omega | (simp only [List.length_append,List.length_cons,List.length_nil];omega)
end Go.Proofs.YtekmbcbgknmhiaaGreatDoor
end
noncomputable section
namespace Go.Proofs.YtekmbcbgknmhiaaGreatDoor
open Go Go.L
theorem Ad6{l:List Int}(hl:l.length<=1000)(a:Int):C2 l a=some (decide (a∈l)):=by
 have key:∀ (d i:Nat),i+d=l.length->∃ r,Go.L.run (BY l a) (i:Int)=some r/\(0<=r↔a∈l.drop i):=by
  intro d
  induction d with
  | zero=>
   intro i hi;refine⟨-1,Bh (m:=some (-1)) ?_,by rw [List.drop_eq_nil_of_le (by omega)];simp⟩;unfold BY D2;rw [if_neg (by omega)]
  | succ d ih=>
   intro i hi;have hil:i<l.length:=by omega
   rw [drop_cons hil]
   have hb:BY l a (i:Int)=if a=l.getD i default then some (.inr (i:Int)) else some (.inl ((i+1:Nat):Int)):=by
    unfold BY;rw [if_pos (by omega),Al (by omega),Int.toNat_natCast,Al (by constructor <;> omega)]
    rfl
   by_cases h:a=l.getD i default
   ·rw [if_pos h] at hb;exact⟨_,Bh (m:=some (i:Int)) hb,by rw [h];simp⟩
   ·rw [if_neg h] at hb;obtain⟨r,b,h2⟩:=ih (i+1) (by omega);refine⟨r,by rw [B2 hb,b],h2.trans ?_⟩;rw [List.mem_cons];exact⟨.inr,fun hh=>hh.resolve_left h⟩
 unfold C2 E3 EE;obtain⟨r,b,h2⟩:=key l.length 0 (by omega);rw [show((0:Nat):Int)=0 from rfl] at b;rw [b,Option.bind_some]
 congr 1
 simpa using h2
theorem Aa5{l:List Qv}(hl:l.length<=2000000){f:Qv->Option (List UInt8)}{f2:List Qv->List UInt8->List Int->Option (List UInt8)}{g:Qv->List UInt8}{sep:List UInt8}{ks:List Int}(hk:ks.length<=1000)
  (hf:∀ s∈l,f s=some (g s)) (hg:∀ s∈l,(g s).length<=1000000) (hj:(Lib.join (l.map (par g ks)) sep).length<=1000000):DW f f2 l sep ks=some (Lib.join (l.map (par g ks)) sep):=by
 unfold DW G1
 have key:∀ (d i:Nat) (o:List (List UInt8)),o.length=i->i+d=l.length->Go.L.run (Cw l sep ks f) (o,(i:Int))=R6 (o++(l.drop i).map (par g ks)) sep:=by
  intro d
  induction d with
  | zero=>
   intro i o ho hi;rw [List.drop_eq_nil_of_le (by omega)];refine Bh ?_;unfold Cw E9;simp only;rw [if_neg (by omega)];simp
  | succ d ih=>
   intro i o ho hi;have hil:i<l.length:=by omega
   have hm:=Rh hil;have hgl:=hg _ hm
   have hb:Cw l sep ks f (o,(i:Int))=some (.inl (o++[par g ks (l.getD i default)],((i+1:Nat):Int))):=by
    unfold Cw D3 par;simp only;rw [if_pos (by omega),Al ⟨by omega,by omega⟩,Int.toNat_natCast,hf _ hm,Option.bind_some,Ad6 hk,Option.bind_some]
    by_cases h:(l.getD i default).f.1∈ks
    ·rw [decide_eq_true h,if_pos rfl,if_pos h,Al (by simp [-List.getD_eq_getElem?_getD];omega),Al (by simp [-List.getD_eq_getElem?_getD];omega),Al (by constructor <;> simp [-List.getD_eq_getElem?_getD] <;> omega),Al (by constructor <;> omega)]
     rfl
    ·rw [decide_eq_false h,if_neg (by decide),if_neg h,Al (by constructor <;> simp [-List.getD_eq_getElem?_getD] <;> omega),Al (by constructor <;> omega)]
     rfl
   rw [B2 hb,ih (i+1) _ (by simp [ho]) (by omega),drop_cons hil];simp
 have:=key l.length 0 [] rfl (by omega);rw [show((0:Nat):Int)=0 from rfl] at this;rw [this];unfold R6;rw [List.nil_append,List.drop_zero,Al ⟨by rw [List.length_map];omega,by omega⟩]
theorem Xn{l:List Qv}(hl:l.length<=2000000){f:Qv->Option (List UInt8)}{f2:List Qv->List UInt8->Int->Int->Option (List UInt8)}{g:Qv->List UInt8}{sep:List UInt8}{ks:List Int}{c j:Int}(hk:∀ s∈l,(s.f.1=c\/s.f.1=j)↔s.f.1∈ks)
  (hf:∀ s∈l,f s=some (g s)) (hg:∀ s∈l,(g s).length<=1000000) (hsep:sep.length<=10) (hj:(Lib.join (l.map (par g ks)) sep).length<=1000000):Ig f f2 l sep c j=some (Lib.join (l.map (par g ks)) sep):=by
 unfold Ig KS
 have k:∀ (i:Nat) (o:List UInt8),i<l.length->o.length<=10000000->E6 l c j (i:Int) f o=some (.inl (o++par g ks (l.getD i default),((i+1:Nat):Int))):=fun i o hil ho=>by
  have hm:=Rh hil;have hgl:=hg _ hm
  have n:∀ b:Bool,(b=true↔(l.getD i default).f.1∈ks)->E5 l (i:Int) o f b=some (.inl (o++par g ks (l.getD i default),((i+1:Nat):Int))):=fun b hb=>by
   unfold E5 par;rw [Int.toNat_natCast,hf _ hm]
   by_cases h:b=true
   ·rw [if_pos h,if_pos (hb.1 h),Al (by simp [-List.getD_eq_getElem?_getD];omega),Al ⟨by omega,by omega⟩,Option.bind_some,Al (by simp [-List.getD_eq_getElem?_getD];omega),Al (by simp [-List.getD_eq_getElem?_getD];omega),Al (by constructor <;> omega)];simp
   ·rw [if_neg h,if_neg (fun e=>h (hb.2 e)),Al ⟨by omega,by omega⟩,Option.bind_some,Al (by omega),Al (by constructor <;> omega)]
    rfl
  unfold E6;rw [Al ⟨by omega,by omega⟩,Al ⟨by omega,by omega⟩,Int.toNat_natCast]
  by_cases h:(l.getD i default).f.1=c
  ·rw [if_pos h,n true (by simpa using (hk _ hm).1 (.inl h))]
  ·rw [if_neg h,n _ (by rw [decide_eq_true_eq,<- hk _ hm];exact⟨.inr,fun e=>e.resolve_left h⟩)]
 have key:∀ (d i:Nat) (o:List UInt8),1<=i->i+d=l.length->o.length+(Lib.joinTail sep ((l.drop i).map (par g ks))).length<=1000000->Go.L.run (Ck l sep c j f) (o,(i:Int))=some (o++Lib.joinTail sep ((l.drop i).map (par g ks))):=by
  intro d
  induction d with
  | zero=>
   intro i o ho hi _;rw [List.drop_eq_nil_of_le (by omega)];refine Bh (m:=some _) ?_;unfold Ck Gp;simp only;rw [if_neg (by omega)];simp [Lib.joinTail]
  | succ d ih=>
   intro i o ho hi hlen;have hil:i<l.length:=by omega
   rw [drop_cons hil,List.map_cons,Yb] at hlen ⊢;rw [List.length_append,List.length_append] at hlen
   have hb:Ck l sep c j f (o,(i:Int))=some (.inl ((o++sep)++par g ks (l.getD i default),((i+1:Nat):Int))):=by
    unfold Ck;simp only;rw [if_pos (by omega),if_pos (by omega),Al (by omega),k i _ hil (by simp [-List.getD_eq_getElem?_getD];omega)]
   rw [B2 hb,ih (i+1) _ (by omega) (by omega) (by simp;simp at hlen;omega)];simp
 cases l with
 | nil=>
  refine Bh (m:=some _) ?_;unfold Ck Gp;simp only;rw [if_neg (by simp)]
  rfl
 | cons a r=>
  have hb:Ck (a::r) sep c j f ([],0)=some (.inl (par g ks a,1)):=by
   unfold Ck;simp only;rw [if_pos (by simp),if_neg (by omega)];exact k 0 [] (by simp) (by simp)
  rw [List.map_cons,Lib.join_cons] at hj ⊢;rw [List.length_append] at hj;rw [B2 hb];exact key r.length 1 _ (by omega) (by simp [-List.getD_eq_getElem?_getD];omega) (by simpa using hj)
theorem Xo{q:Qv}(hw:∀ w∈q.f.2.1,w.length<=64)(hl:q.f.2.1.length<=16)(a:1<=q.f.2.1.length):Hw q (q.f.2.1.getD 0 default,1)=some (([34]++Lib.join q.f.2.1 [32])++[34]):=by
 unfold Hw
 have key:∀ (d i:Nat) (o:List UInt8),i+d=q.f.2.1.length->o.length<=65 * i->Go.L.run (CJ q) (o,(i:Int))=some (([34]++(o++Lib.joinTail [32] (q.f.2.1.drop i)))++[34]):=by
  intro d
  induction d with
  | zero=>
   intro i o hi ho;rw [List.drop_eq_nil_of_le (by omega)];refine Bh (m:=some _) ?_;unfold CJ Hv;simp only;rw [if_neg (by omega),Al (by simp [-List.getD_eq_getElem?_getD];omega),Al (by simp [-List.getD_eq_getElem?_getD];omega)];simp [Lib.joinTail]
  | succ d ih=>
   intro i o hi ho;have hil:i<q.f.2.1.length:=by omega
   have hwl:=Ri hw i;rw [drop_cons hil,Yb]
   have hb:CJ q (o,(i:Int))=some (.inl ((o++[32])++q.f.2.1.getD i default,((i+1:Nat):Int))):=by
    unfold CJ;simp only;rw [if_pos (by omega),Al (by simp [-List.getD_eq_getElem?_getD];omega),Al ⟨by omega,by omega⟩,Int.toNat_natCast,Al (by simp [-List.getD_eq_getElem?_getD];omega),Al (by constructor <;> omega)]
    rfl
   rw [B2 hb,ih (i+1) _ (by omega) (by simp [-List.getD_eq_getElem?_getD];omega)];simp
 obtain⟨w,r,hwr⟩:=List.exists_cons_of_ne_nil (List.ne_nil_of_length_pos a);have hwl:=Ri hw 0;have:=key (q.f.2.1.length - 1) 1 (q.f.2.1.getD 0 default) (by omega) (by omega);rw [show((1:Nat):Int)=1 from rfl] at this;rw [this,hwr,Lib.join_cons]
 rfl
theorem Acs{q:Qv}{f:Qv->List UInt8}(hq:Sq q)(hn:nf q=0)(ht:(tb f q).length<=1000000){s1:Qv->Option (List UInt8)}{b:List Qv->List UInt8->List Int->Option (List UInt8)}{r1:Qv->Option (List UInt8)}{r2:List Qv->List UInt8->Int->Int->Option (List UInt8)}
  (g:q.f.1=8->b q.f.2.2.2.2.2.2 [38] [9]=some (tb f q)/\r2 q.f.2.2.2.2.2.2 [38] 9 0=some (tb f q)) (i:q.f.1=9->b q.f.2.2.2.2.2.2 [124] []=some (tb f q)/\r2 q.f.2.2.2.2.2.2 [124] 0 0=some (tb f q))
  (d:q.f.1=10->b q.f.2.2.2.2.2.2 [] [8,9]=some (Lib.join (q.f.2.2.2.2.2.2.map (par f [8,9])) [])/\r2 q.f.2.2.2.2.2.2 [] 8 9=some (Lib.join (q.f.2.2.2.2.2.2.map (par f [8,9])) [])) :
  Em s1 b q=some (tb f q)/\GF r1 r2 q=some (tb f q):=by
 obtain⟨hk,hF,hw,hp,hnt⟩:=NL hn;have hw':∀ w∈q.f.2.1,w.length<=64:=fun w h=>Aa2 (hw w h);have hd:=Yc hnt;have hp:=Aa3 hp;have hwn:=Pf hF;obtain⟨f1,f2,f3,_⟩:=OL hF;have a:=hq.open.2.2.2.2.2.1;have c:=hq.open.2.2.2.2.2.2;have l:=Q6 a;have m:=Q6 c;have n:=Ri hw' 0;have o:=Ri hw' 1;have hwl:=Aa4 hw';have j2:=join_le q.f.2.1 [32];simp only [List.length_cons,List.length_nil] at j2;have j:Q0 q.f.2.2.2.2.1=some (Lib.itoa q.f.2.2.2.2.1):=by unfold Q0;rw [Al ⟨a.1,a.2⟩]
 have k:Q0 q.f.2.2.2.2.2.1=some (Lib.itoa q.f.2.2.2.2.2.1):=by unfold Q0;rw [Al ⟨c.1,c.2⟩]
 have hqu:(quo q.f.2.2.2.1).length<=3 * q.f.2.2.2.1.length+2:=by
  have:=Tm q.f.2.2.2.1;simp [quo]
  simpa using this
 unfold Em GF Hx;obtain e | e | e | e | e | e | e | e | e | e:q.f.1=1\/q.f.1=2\/q.f.1=3\/q.f.1=4\/q.f.1=5\/q.f.1=6\/q.f.1=7\/q.f.1=8\/q.f.1=9\/q.f.1=10:=by omega
 ·have:=f1 e;simp only [tb,e,if_true];rw [Al ⟨by omega,by omega⟩];exact⟨rfl,rfl⟩
 ·have:=f2 e;simp only [tb,e,Int.reduceEq,if_true,if_false]
  constructor
  ·unfold R6;rw [Al ⟨by omega,by omega⟩,Option.bind_some,Al (by simp [-List.getD_eq_getElem?_getD];omega),Al (by simp [-List.getD_eq_getElem?_getD];omega)]
  ·rw [Al ⟨by omega,by omega⟩];exact Xo hw' hwn (by omega)
 ·have:=f3 e;simp only [tb,e,Int.reduceEq,if_true,if_false];rw [j,NK a];simp only [Option.bind_some]
  constructor
  all_goals (rw [Al ⟨by omega,by omega⟩,Al (by simp [-List.getD_eq_getElem?_getD];omega),Al (by simp [-List.getD_eq_getElem?_getD];omega),Al (by simp [-List.getD_eq_getElem?_getD];omega),Al ⟨by omega,by omega⟩,Al (by simp [-List.getD_eq_getElem?_getD];omega)];rfl)
 ·simp only [tb,e,Int.reduceEq,if_true,if_false];rw [Ux (by omega),Uw (by omega)];exact⟨rfl,rfl⟩
 ·simp only [tb,e,Int.reduceEq,if_true,if_false];rw [Al (by simp [-List.getD_eq_getElem?_getD];omega)];exact⟨rfl,rfl⟩
 ·simp only [tb,e,Int.reduceEq,if_true,if_false];rw [j,k,NK a,NK c];simp only [Option.bind_some]
  constructor
  all_goals (rw [Al (by simp [-List.getD_eq_getElem?_getD];omega),Al (by simp [-List.getD_eq_getElem?_getD];omega),Al (by simp [-List.getD_eq_getElem?_getD];omega),Al (by simp [-List.getD_eq_getElem?_getD];omega),Al (by simp [-List.getD_eq_getElem?_getD];omega)])
 ·simp only [tb,e,Int.reduceEq,if_true,if_false];rw [Ux (by omega),Uw (by omega)];simp only [Option.bind_some]
  constructor
  all_goals (rw [Al (by simp [-List.getD_eq_getElem?_getD];omega),Al (by simp [-List.getD_eq_getElem?_getD];omega),Al (by simp [-List.getD_eq_getElem?_getD];omega)])
 ·simp only [e,Int.reduceEq,if_true,if_false];rw [(g e).1,(g e).2];exact⟨rfl,rfl⟩
 ·simp only [e,Int.reduceEq,if_true,if_false];rw [(i e).1,(i e).2];exact⟨rfl,rfl⟩
 ·simp only [tb,e,Int.reduceEq,if_true,if_false,List.length_append] at ht ⊢;rw [(d e).1,(d e).2];simp only [Option.bind_some];rw [Al (by omega)];exact⟨rfl,rfl⟩
theorem Acu{l:List Qv}{g:Qv->Nat}{s:Qv}(h:s∈l):g s<=(l.map g).sum:=by
 induction l with
 | nil=>cases h
 | cons a l ih=>
  rw [List.map_cons,List.sum_cons]
  rcases List.mem_cons.1 h with rfl | h
  ·omega
  ·have:=ih h;omega
theorem Yd:∀ (d:Nat) (q:Qv),Sq q->Vq d q->nq d q<=200->∀ n,2 * d<=n->(BG n).1 q=some (tx d q)/\(BU n).1 q=some (tx d q)
 | 0,_,_,h,_,_,_=>h.elim
 | d+1,q,hq,hv,hc,n,hn=>by
  obtain⟨n,rfl⟩:∃ m,n=m+2:=⟨n - 2,by omega⟩;have hlen:=Xm (d+1) q hq hv;have hsl:=hq.open.2.2.2.1
  have hsum:∀ s∈q.f.2.2.2.2.2.2,nq d s<=200:=fun s hs=>by
   have:nq d s<=(q.f.2.2.2.2.2.2.map (nq d)).sum:=Acu hs;unfold nq at hc;omega
  have ih:∀ s∈q.f.2.2.2.2.2.2,(BG n).1 s=some (tx d s)/\(BU n).1 s=some (tx d s):=fun s hs=>Yd d s (hq.sub hs) (hv.2 s hs) (hsum s hs) n (by omega)
  have hgl:∀ s∈q.f.2.2.2.2.2.2,(tx d s).length<=1000000:=fun s hs=>by
   have:=Xm d s (hq.sub hs) (hv.2 s hs);have:=hsum s hs;omega
  have a:∀ s∈q.f.2.2.2.2.2.2,1<=s.f.1:=fun s hs=>by
   have:=hv.2 s hs
   cases d with
   | zero=>exact this.elim
   | succ d=>exact(NL this.1).1.1
  have ht:(tb (tx d) q).length<=1000000:=by
   show(tx (d+1) q).length<=_
   omega
  have hT:∀ sep ks,ks.length<=1000->(Lib.join (q.f.2.2.2.2.2.2.map (par (tx d) ks)) sep).length<=1000000->(BG (n+1)).2 q.f.2.2.2.2.2.2 sep ks=some (Lib.join (q.f.2.2.2.2.2.2.map (par (tx d) ks)) sep):=fun sep ks hk hj=>Aa5 (f2:=(BG n).2) (by omega) hk (fun s hs=>(ih s hs).1) hgl hj
  have hB:∀ sep ks b c,(∀ s∈q.f.2.2.2.2.2.2,(s.f.1=b\/s.f.1=c)↔s.f.1∈ks)->sep.length<=10->(Lib.join (q.f.2.2.2.2.2.2.map (par (tx d) ks)) sep).length<=1000000->(BU (n+1)).2 q.f.2.2.2.2.2.2 sep b c=some (Lib.join (q.f.2.2.2.2.2.2.map (par (tx d) ks)) sep):=
   fun sep ks b c hk hs hj=>Xn (f2:=(BU n).2) (by omega) hk (fun s hs=>(ih s hs).2) hgl hs hj
  refine Acs (s1:=(BG (n+1)).1) (r1:=(BU (n+1)).1) hq hv.1 ht (fun e=>?_) (fun e=>?_) (fun e=>?_)
  ·simp only [tb,e,Int.reduceEq,if_true,if_false] at ht ⊢;exact⟨hT _ _ (by simp) ht,hB _ [9] _ _ (fun s hs=>by have:=a s hs;simp;omega) (by simp) ht⟩
  ·simp only [tb,e,Int.reduceEq,if_true,if_false] at ht ⊢;exact⟨hT _ _ (by simp) ht,hB _ [] _ _ (fun s hs=>by have:=a s hs;simp;omega) (by simp) ht⟩
  ·simp only [tb,e,Int.reduceEq,if_true,if_false,List.length_append] at ht;exact⟨hT _ _ (by simp) (by omega),hB _ [8,9] _ _ (fun s hs=>by simp) (by simp) (by omega)⟩
def Ye(q:Qv):Int×Int:=if(ck 1000 q 0 1).2.1=0 then(if 200<(tx 8 q).length then(14,-1) else(0,0)) else(ck 1000 q 0 1).2
theorem Vt{q:Qv}(h:(ck 1000 q 0 1).2.1=0):Vq 8 q/\nq 8 q<=40:=by
 obtain⟨a,h2,h3⟩:=AcR 1000 q 0 1 (by omega) (by omega) 8 (by omega) h;exact⟨h3,by omega⟩
theorem Aa6{q:Qv}(hq:Sq q):Ev q=some (if(Ye q).1=0 then tx 8 q else[],Ye q):=by
 unfold Ev Kj Ye;obtain⟨a,_,h3⟩:=Aaz 1000 q 0 1 hq (by omega) (by omega) (by omega) (by omega);rw [a,Option.bind_some]
 by_cases h:(ck 1000 q 0 1).2.1=0
 ·obtain⟨hv,hc⟩:=Vt h;rw [if_pos (by rw [h3.2 h];exact⟨rfl,rfl⟩),if_pos h];unfold M7;rw [(Yd 8 q hq hv (by omega) 1000 (by omega)).1,Option.bind_some]
  by_cases hl:200<(tx 8 q).length
  ·rw [if_pos (by omega),if_pos hl]
   rfl
  ·rw [if_neg (by omega),if_neg hl]
   rfl
 ·rw [if_neg (fun e=>h e.1),if_neg h,if_neg h]
theorem TR{q:Qv}(hq:Sq q):Jp q=some (Ye q):=by
 unfold Jp LR Ye;obtain⟨_,a,h3⟩:=Aaz 1000 q 0 1 hq (by omega) (by omega) (by omega) (by omega);rw [a,Option.bind_some]
 by_cases h:(ck 1000 q 0 1).2.1=0
 ·obtain⟨hv,hc⟩:=Vt h;rw [if_pos h,if_pos h];unfold GW;rw [(Yd 8 q hq hv (by omega) 1000 (by omega)).2,Option.bind_some]
  by_cases hl:200<(tx 8 q).length
  ·rw [if_pos (by omega),if_pos hl]
   rfl
  ·rw [if_neg (by omega),if_neg hl,h3.2 h]
 ·rw [if_neg h,if_neg h]
theorem Tn{q:Qv}(h:(Ye q).1=0):Vq 8 q/\nq 8 q<=40/\(tx 8 q).length<=200/\Ye q=(0,0):=by
 unfold Ye at h ⊢
 by_cases a:(ck 1000 q 0 1).2.1=0
 ·rw [if_pos a] at h ⊢
  by_cases h2:200<(tx 8 q).length
  ·rw [if_pos h2] at h
   cases h
  ·rw [if_neg h2];exact⟨(Vt a).1,(Vt a).2,by omega,rfl⟩
 ·rw [if_neg a] at h;exact absurd h a
theorem Vu{q:Qv}(hq:Sq q)(h:(Ye q).1=0):GW q=some (tx 8 q):=by
 obtain⟨hv,hc,_⟩:=Tn h;unfold GW;exact(Yd 8 q hq hv (by omega) 1000 (by omega)).2
end Go.Proofs.YtekmbcbgknmhiaaGreatDoor
end
noncomputable section
namespace Go.L
open Go
def wb(c:UInt8):Prop:=(48<=c.toNat/\c.toNat<=57)\/(97<=c.toNat/\c.toNat<=122)\/128<=c.toNat
def pb(c:UInt8):Prop:=(48<=c.toNat/\c.toNat<=57)\/(97<=c.toNat/\c.toNat<=122)\/c.toNat=47\/c.toNat=35\/c.toNat=42\/c.toNat=45\/c.toNat=95\/c.toNat=46
theorem Ad7{l:List UInt8}:∀ k,k<T7 l->128<=bt l k:=by
 intro k hk;unfold T7 at hk;unfold cont at hk
 split at hk
 ·split at hk
  ·rename_i a;have:=of_decide_eq_true a;obtain h | h:k=0\/k=1:=by omega
   all_goals subst h;omega
  ·omega
 ·split at hk
  ·split at hk
   ·rename_i a;have h2:=of_decide_eq_true a.1;have h3:=of_decide_eq_true a.2.1;obtain h | h | h:k=0\/k=1\/k=2:=by omega
    all_goals subst h;omega
   ·omega
  ·split at hk
   ·split at hk
    ·rename_i a;have h2:=of_decide_eq_true a.1;have h3:=of_decide_eq_true a.2.1;have b:=of_decide_eq_true a.2.2.1;obtain h | h | h | h:k=0\/k=1\/k=2\/k=3:=by omega
     all_goals subst h;omega
    ·omega
   ·omega
theorem Acv{c:UInt8}(h:asc c.toNat=true):wb (Jk c):=by
 have h:=of_decide_eq_true h;unfold Jk wb
 split
 ·rename_i a
  have:(c+32).toNat=c.toNat+32:=by
   rw [UInt8.toNat_add];have:(32:UInt8).toNat=32:=rfl;omega
  omega
 ·omega
theorem Ad8{l:List UInt8}:∀ c∈(l.take (NT l)).map Jk,wb c:=by
 intro c hc;obtain⟨b,hb,rfl⟩:=List.mem_map.1 hc;obtain⟨k,hk,rfl⟩:=List.mem_iff_getElem.1 hb;rw [List.length_take] at hk;rw [List.getElem_take];have hkl:k<l.length:=by omega
 have hbt:(l[k]'hkl).toNat=bt l k:=by unfold bt;rw [List.getD_eq_getElem?_getD,List.getElem?_eq_getElem hkl];rfl
 unfold NT at hk
 split at hk
 ·rename_i h;obtain rfl:k=0:=by omega
  exact Acv (by rw [hbt];exact h)
 ·have:=Ad7 (l:=l) k (by omega);rw [XY (by omega)];exact .inr (.inr (by omega))
theorem Xp{cur:List UInt8}{fr at':Nat}(h:∀ c∈cur,wb c):∀ x∈fin cur fr at',x.1≠[]/\∀ c∈x.1,wb c:=by
 intro x hx;unfold fin at hx
 split at hx
 ·cases hx
 ·rename_i a;obtain rfl:=List.mem_singleton.1 hx;exact⟨a,h⟩
theorem Xq{a:List UInt8}:∀ (f at':Nat) (cur:List UInt8) (fr:Nat),(∀ c∈cur,wb c)->∀ x∈V5 a f at' cur fr,x.1≠[]/\∀ c∈x.1,wb c
 | 0,at',cur,fr,h=>Xp h
 | f+1,at',cur,fr,h=>by
  unfold V5
  split
  ·rename_i b
   split
   ·intro x hx
    rcases List.mem_append.1 hx with hx | hx
    ·exact Xp h x hx
    ·exact Xq f _ [] _ (by simp) x hx
   ·refine Xq f _ _ _ fun c hc=>?_
    rcases List.mem_append.1 hc with hc | hc
    ·exact h c hc
    ·exact Ad8 c hc
  ·exact Xp h
theorem AcT:∀ {l:List (List UInt8)} {a:Int},0<=a->wr true a l<0->∀ x∈l,∀ c∈x,pb c
 | [],_,_,_=>by simp
 | y::l,a,ha,h=>by
  unfold wr at h
  split at h
  ·rename_i b;intro x hx
   rcases List.mem_cons.1 hx with rfl | hx
   ·simp only [Bool.or_eq_true,Bool.true_and,decide_eq_true_eq] at b
    rcases b with (b | b) | b | b
    ·unfold YM at b;rw [Bool.and_eq_true,List.all_eq_true] at b;intro c hc;have:=of_decide_eq_true (b.2 c hc);unfold pb;omega
    all_goals (subst b;intro c hc;simp at hc;subst hc;unfold pb;decide)
   ·exact AcT (by omega) h x hx
  ·omega
theorem Vv{c:UInt8}:∀ (s cur:List UInt8),c∈cur\/c∈s->c=47\/∃ x∈Sm cur s,c∈x
 | [],cur,h=>.inr ⟨cur,by simp [Sm],by simpa using h⟩
 | b::s,cur,h=>by
  unfold Sm
  split
  ·rename_i hb
   rcases h with h | h
   ·exact .inr ⟨cur,List.mem_cons_self ..,h⟩
   ·rcases List.mem_cons.1 h with rfl | h
    ·exact .inl hb
    ·rcases Vv s [] (.inr h) with h | ⟨x,a,h2⟩
     ·exact .inl h
     ·exact .inr ⟨x,List.mem_cons_of_mem _ a,h2⟩
  ·refine Vv s (cur++[b]) ?_
   rcases h with h | h
   ·exact .inl (by simp [h])
   ·rcases List.mem_cons.1 h with rfl | h
    ·exact .inl (by simp)
    ·exact .inr h
end Go.L
namespace Go.Proofs.YtekmbcbgknmhiaaGreatDoor
open Go Go.L
theorem Aa7{w:List UInt8}(h:wf w=(0,0)):w≠[]/\∀ c∈w,wb c:=by
 unfold wf at h
 split at h
 ·cases h
 ·split at h
  ·rename_i b
   cases hw:wds w with
   | nil=>rw [hw] at b;cases b
   | cons x r=>
    rw [hw] at b;have hx:x.1=w:=(List.cons.inj b).1;have:=Xq (a:=w) (w.length+1) 0 [] 0 (by simp) x (by show x∈wds w;rw [hw];exact List.mem_cons_self ..);rw [hx] at this;exact this
  ·cases h
theorem AcU{s:List UInt8}(h:pf s=(0,0)):∀ c∈s,pb c:=by
 unfold pf at h
 split at h
 ·cases h
 ·split at h
  ·cases h
  ·rename_i b;intro c hc;have h2:=AcT (l:=sl s) (a:=0) (by omega) (by omega);unfold sl at h2;rw [if_neg (by rintro rfl;cases hc)] at h2
   rcases Vv s [] (.inr hc) with rfl | ⟨x,hx,hcx⟩
   ·unfold pb;decide
   ·exact h2 x hx c hcx
end Go.Proofs.YtekmbcbgknmhiaaGreatDoor
end
noncomputable section
namespace Go.L
open Go
def R8(c:UInt8):Prop:=48<=c.toNat/\c.toNat<=57
theorem OM{k:Nat}(h:k<10):(UInt8.ofNat (48+k)).toNat=48+k:=by rw [UInt8.toNat_ofNat'];omega
theorem YV(u:Nat):u<18446744073709551616->∀ r,Lib.parseUint10 0 (Lib.decDigits u++r)=Lib.parseUint10 u r:=by
 induction u using Nat.strongRecOn with
 | ind u ih=>
  intro hu r;rw [Lib.decDigits]
  by_cases h:u<10
  ·rw [dif_pos h]
   show Lib.parseUint10 0 (UInt8.ofNat (48+u)::r)=_
   rw [Lib.parseUint10,OM h,if_pos (by omega),if_neg (by omega),if_neg (by omega)]
   congr 1
   omega
  ·rw [dif_neg h,List.append_assoc,ih (u / 10) (by omega) (by omega)]
   show Lib.parseUint10 (u / 10) (UInt8.ofNat (48+u % 10)::r)=_
   rw [Lib.parseUint10,OM (by omega),if_pos (by omega),if_neg (by omega),if_neg (by omega)]
   congr 1
   omega
theorem Q7(u:Nat):Lib.decDigits u≠[]/\∀ c∈Lib.decDigits u,R8 c:=by
 induction u using Nat.strongRecOn with
 | ind u ih=>
  have hd:∀ k,k<10->R8 (UInt8.ofNat (48+k)):=fun k hk=>by unfold R8;rw [OM hk];omega
  rw [Lib.decDigits]
  by_cases h:u<10
  ·rw [dif_pos h];refine⟨by simp,fun c hc=>?_⟩;obtain rfl:=List.mem_singleton.1 hc;exact hd u h
  ·rw [dif_neg h];refine⟨by simp,fun c hc=>?_⟩
   rcases List.mem_append.1 hc with hc | hc
   ·exact(ih (u / 10) (by omega)).2 c hc
   ·obtain rfl:=List.mem_singleton.1 hc;exact hd _ (by omega)
theorem Pg(n:Int):∃ c r,Lib.itoa n=c::r/\(R8 c\/c=45)/\∀ b∈r,R8 b:=by
 unfold Lib.itoa
 split
 ·exact⟨_,_,rfl,.inr rfl,(Q7 _).2⟩
 ·obtain⟨a,h2⟩:=Q7 n.toNat;obtain⟨c,r,h⟩:=List.exists_cons_of_ne_nil a;rw [h] at h2;exact⟨c,r,h,.inl (h2 c (List.mem_cons_self ..)),fun b hb=>h2 b (List.mem_cons_of_mem _ hb)⟩
theorem YW{n:Int}(hn:B0 n):Lib.atoiAll (Lib.itoa n)=.ok n:=by
 have b:=hn.1;have d:=hn.2
 have hmag:∀ u:Nat,u<18446744073709551616->Lib.parseMag (Lib.decDigits u)=.ok u:=fun u hu=>by
  unfold Lib.parseMag;have:=YV u hu [];rw [List.append_nil] at this;rw [if_neg (Q7 u).1,this]
  rfl
 unfold Lib.itoa
 split
 ·unfold Lib.atoiAll;simp only;rw [if_pos (by decide),hmag _ (by omega)];simp only;rw [if_neg (fun h=>h.1 (by decide)),if_neg (fun h=>by omega),if_pos (by decide)]
  congr 1
  omega
 ·obtain⟨a,h2⟩:=Q7 n.toNat;have hm:=hmag n.toNat (by omega);obtain⟨c,r,h⟩:=List.exists_cons_of_ne_nil a;rw [h] at h2 hm ⊢;have hc:=h2 c (List.mem_cons_self ..);unfold R8 at hc;unfold Lib.atoiAll;simp only;rw [if_neg (by omega),hm];simp only;rw [if_neg (fun h=>by omega),if_neg (fun h=>by omega),if_neg (by omega)]
  congr 1
  omega
theorem To{c:UInt8}{t:List UInt8}:∀ w:List UInt8,c∉w->Lib.indexByte (w++c::t) c=w.length
 | [],_=>by simp [Lib.indexByte]
 | b::w,h=>by
  have hb:b≠c:=fun e=>h (by simp [e]);have ih:=To (t:=t) w (fun e=>h (List.mem_cons_of_mem _ e));rw [List.cons_append,Lib.indexByte,if_neg (by simpa using hb),ih,if_neg (by simp)];simp
theorem Rj{c:UInt8}:∀ w:List UInt8,c∉w->Lib.indexByte w c = -1
 | [],_=>rfl
 | b::w,h=>by
  have hb:b≠c:=fun e=>h (by simp [e]);have ih:=Rj w (fun e=>h (List.mem_cons_of_mem _ e));rw [Lib.indexByte,if_neg (by simpa using hb),ih,if_pos (by decide)]
theorem Jl(c:UInt8)(x:List UInt8)(r:List (List UInt8)):Lib.joinTail [c] (x::r)=c::(x++Lib.joinTail [c] r):=by simp [Lib.joinTail]
theorem Xr{c:UInt8}:∀ (r:List (List UInt8)) (w:List UInt8),(∀ x∈w::r,c∉x)->Lib.split (Lib.join (w::r) [c]) [c]=w::r:=by
 have cnt:∀ (r:List (List UInt8)) (w:List UInt8),(∀ x∈w::r,c∉x)->(w++Lib.joinTail [c] r).count c=r.length:=by
  intro r
  induction r with
  | nil=>
   intro w h;have:=h w (List.mem_cons_self ..)
   simpa [Lib.joinTail] using List.count_eq_zero.2 this
  | cons x r ih=>
   intro w h;rw [Jl,List.count_append,List.count_eq_zero.2 (h w (List.mem_cons_self ..)),List.count_cons_self,ih x (fun y hy=>h y (List.mem_cons_of_mem _ hy))];simp
 have key:∀ (r:List (List UInt8)) (w:List UInt8),(∀ x∈w::r,c∉x)->Lib.splitK [c] 0 r.length (w++Lib.joinTail [c] r)=w::r:=by
  intro r
  induction r with
  | nil=>intro w _;simp [Lib.splitK,Lib.joinTail]
  | cons x r ih=>
   intro w h;have hi:Lib.index (w++Lib.joinTail [c] (x::r)) [c]=w.length:=by rw [Lib.index_one,Jl];exact To w (h w (List.mem_cons_self ..))
   rw [List.length_cons,Lib.splitK,hi,if_neg (by simp)];simp only [Int.toNat_natCast,Nat.add_zero,List.take_left',List.length_cons,List.length_nil];rw [Jl,List.drop_append,List.drop_eq_nil_of_le (by omega),show w.length+(0+1) - w.length=1 by omega,List.drop_succ_cons,List.drop_zero,List.nil_append,ih x (fun y hy=>h y (List.mem_cons_of_mem _ hy))]
 intro r w h;unfold Lib.split;rw [Lib.join_cons,Lib.count_one,cnt r w h,key r w h]
end Go.L
end
noncomputable section
namespace Go.L
open Go
def Tp(one:List UInt8->Option (Qv×List UInt8))(sg:UInt8):Nat->List Qv->List UInt8->Option (List Qv×List UInt8)
 | 0,_,_=>none
 | k+1,l,r=>if r.head? = some sg then(one r.tail).bind fun x=>Tp one sg k (l++[x.1]) x.2 else some (l,r)
def V8(one:List UInt8->Option (Qv×List UInt8))(kind:Int)(sg:UInt8)(r:List UInt8):Option (Qv×List UInt8):=
 (one r).bind fun x=>(Tp one sg (x.2.length+1) [x.1] x.2).map fun y=>(if y.1.length=1 then x.1 else .mk kind [] [] [] 0 0 y.1,y.2)
def RW(one:List UInt8->Option (Qv×List UInt8)):List UInt8->Option (Qv×List UInt8):=V8 (V8 one 8 38) 9 124
def MQ(lf:List UInt8->Option (Qv×List UInt8)):Nat->List UInt8->Option (Qv×List UInt8)
 | 0,_=>none
 | n+1,r=>if r.head? = some 33 then(MQ lf n r.tail).map fun x=>(.mk 10 [] [] [] 0 0 [x.1],x.2)
  else if r.head? = some 40 then(RW (MQ lf n) r.tail).bind fun x=>if x.2.head? = some 41 then some (x.1,x.2.tail) else none
  else lf r
def Od(cs:List UInt8)(r:List UInt8):Prop:=∀ c,r.head? = some c->c∈cs
theorem Od.cons{cs:List UInt8}{c:UInt8}{r:List UInt8}(h:c∈cs):Od cs (c::r):=fun x hx=>by
 obtain rfl:=Option.some.inj hx;exact h
theorem Od.mono{cs ds:List UInt8}{r:List UInt8}(h:Od cs r)(hs:∀ c∈cs,c∈ds):Od ds r:=fun c hc=>hs c (h c hc)
theorem Wx{one:List UInt8->Option (Qv×List UInt8)}{sg:UInt8}{g:Qv->List UInt8}{cs rest:List UInt8}(hsg:sg∈cs)(hr:Od cs rest)(hn:rest.head?≠some sg):
  ∀ (l:List Qv) (acc:List Qv) (k:Nat),(∀ x∈l,∀ r,Od cs r->one (g x++r)=some (x,r))->l.length<k->Tp one sg k acc (Lib.joinTail [sg] (l.map g)++rest)=some (acc++l,rest)
 | l,acc,0,_,hk=>by omega
 | [],acc,k+1,_,_=>by
  show Tp one sg (k+1) acc ([]++rest)=_
  rw [List.nil_append,Tp,if_neg hn,List.append_nil]
 | x::l,acc,k+1,h,hk=>by
  rw [List.map_cons,Jl,List.cons_append,Tp,List.head?_cons,if_pos rfl,List.tail_cons,List.append_assoc,h x (List.mem_cons_self ..),Option.bind_some,Wx hsg hr hn l _ k (fun y hy=>h y (List.mem_cons_of_mem _ hy)) (by simp at hk;omega)]
  ·simp
  ·cases l with
   | nil=>exact hr
   | cons y l=>rw [List.map_cons,Jl];exact Od.cons hsg
theorem Yf(c:UInt8)(g:Qv->List UInt8):∀ l:List Qv,l.length<=(Lib.joinTail [c] (l.map g)).length
 | []=>by simp
 | x::l=>by
  have:=Yf c g l;rw [List.map_cons,Jl];simp;omega
theorem Wy{one:List UInt8->Option (Qv×List UInt8)}{kind:Int}{sg:UInt8}{g:Qv->List UInt8}{cs rest:List UInt8}(hsg:sg∈cs)(hr:Od cs rest)(hn:rest.head?≠some sg){l:List Qv}(hl:2<=l.length)
  (h:∀ x∈l,∀ r,Od cs r->one (g x++r)=some (x,r)):V8 one kind sg (Lib.join (l.map g) [sg]++rest)=some (.mk kind [] [] [] 0 0 l,rest):=by
 cases l with
 | nil=>simp at hl
 | cons s l=>
  unfold V8;rw [List.map_cons,Lib.join_cons,List.append_assoc,h s (List.mem_cons_self ..),Option.bind_some]
  ·show Option.map _ (Tp one sg _ [s] (Lib.joinTail [sg] (l.map g)++rest))=_
   rw [Wx hsg hr hn l [s] _ (fun y hy=>h y (List.mem_cons_of_mem _ hy)) (by have:=Yf sg g l;rw [List.length_append];omega)];simp only [Option.map_some,List.length_append,List.length_cons,List.length_nil] at hl ⊢;rw [if_neg (by omega)]
   rfl
  ·cases l with
   | nil=>exact hr
   | cons y l=>rw [List.map_cons,Jl];exact Od.cons hsg
theorem Vw{one:List UInt8->Option (Qv×List UInt8)}{kind:Int}{sg:UInt8}{t rest:List UInt8}{q:Qv}(h:one t=some (q,rest))(hn:rest.head?≠some sg):V8 one kind sg t=some (q,rest):=by
 unfold V8;rw [h,Option.bind_some]
 show Option.map _ (Tp one sg _ [q] rest)=_
 rw [Tp,if_neg hn]
 rfl
end Go.L
namespace Go.Proofs.YtekmbcbgknmhiaaGreatDoor
open Go Go.L
def Ad9(lf:List UInt8->Option (Qv×List UInt8)):Prop:=∀ d q rest,Sq q->Vq (d+1) q->q.f.1<=7->Od [38,124,41] rest->lf (tx (d+1) q++rest)=some (q,rest)
theorem join_one(x:List UInt8)(sep:List UInt8):Lib.join [x] sep=x:=by rw [Lib.join_cons];simp [Lib.joinTail]
theorem Tq{q:Qv}(h:Wv q=true)(hk:8<=q.f.1/\q.f.1<=10):q=.mk q.f.1 [] [] [] 0 0 q.f.2.2.2.2.2.2:=by
 have hh:q.f.2.1=[]/\q.f.2.2.1=[]/\q.f.2.2.2.1=[]/\q.f.2.2.2.2.1=0/\q.f.2.2.2.2.2.1=0:=by
  unfold Wv at h;simp only [Bool.and_eq_true,Bool.or_eq_true] at h;obtain⟨⟨⟨⟨⟨a,h2⟩,h3⟩,b⟩,c⟩,_⟩:=h;rw [if_neg (by omega),if_neg (by omega),if_neg (by omega)] at a;refine⟨List.eq_nil_of_length_eq_zero (of_decide_eq_true a),?_,?_,?_,?_⟩
  ·exact of_decide_eq_true (h2.resolve_left (fun e=>by have:=of_decide_eq_true e;omega))
  ·exact of_decide_eq_true (h3.resolve_left (fun e=>by have:=of_decide_eq_true e;omega))
  ·exact of_decide_eq_true (b.resolve_left (fun e=>by have:=of_decide_eq_true e;omega))
  ·exact of_decide_eq_true (c.resolve_left (fun e=>by have:=of_decide_eq_true e;omega))
 obtain⟨k,ws,p,dd,lo,hi,ss⟩:=q;obtain⟨a,h2,h3,b,c⟩:=hh;obtain rfl:ws=[]:=a;obtain rfl:p=[]:=h2;obtain rfl:dd=[]:=h3;obtain rfl:lo=0:=b;obtain rfl:hi=0:=c
 rfl
theorem Wz{q:Qv}(h:Wv q=true)(hk:q.f.1=8\/q.f.1=9):∀ s∈q.f.2.2.2.2.2.2,s.f.1≠q.f.1:=by
 unfold Wv at h;simp only [Bool.and_eq_true] at h;have h:=h.2;rw [if_pos hk] at h;simp only [Bool.and_eq_true,Bool.not_eq_true',Ml] at h;intro s hs e;have:=List.any_eq_false.1 h.2 s hs;exact this (decide_eq_true e)
theorem Ts{f:Qv->List UInt8}{ks:List Int}{s:Qv}(h:s.f.1∈ks):par f ks s=[40]++f s++[41]:=if_pos h
theorem KE{f:Qv->List UInt8}{ks:List Int}{s:Qv}(h:s.f.1∉ks):par f ks s=f s:=if_neg h
theorem AeM{d:Nat}{q:Qv}(h:q.f.1=8):tx (d+1) q=Lib.join (q.f.2.2.2.2.2.2.map (par (tx d) [9])) [38]:=by
 unfold tx tb;rw [h]
 rfl
theorem AeN{d:Nat}{q:Qv}(h:q.f.1=9):tx (d+1) q=Lib.join (q.f.2.2.2.2.2.2.map (par (tx d) [])) [124]:=by
 unfold tx tb;rw [h]
 rfl
theorem Ae2{d:Nat}{q:Qv}(h:q.f.1=10):tx (d+1) q=[33]++Lib.join (q.f.2.2.2.2.2.2.map (par (tx d) [8,9])) []:=by
 unfold tx tb;rw [h]
 rfl
theorem Tt{lf:List UInt8->Option (Qv×List UInt8)}(hlf:Ad9 lf)(hst:∀ d q,Vq (d+1) q->q.f.1<=7->∃ c t,tx (d+1) q=c::t/\c≠33/\c≠40):∀ (d:Nat) (q:Qv),Sq q->Vq d q->
  (∀ n rest,2 * d<=n->Od [38,124,41] rest->MQ lf n (par (tx d) [8,9] q++rest)=some (q,rest))/\
  (∀ n rest,2 * d<=n+1->(q.f.1≠8->2 * d<=n)->Od [124,41] rest->V8 (MQ lf n) 8 38 (par (tx d) [9] q++rest)=some (q,rest))/\
  (∀ n rest,2 * d<=n+1->(q.f.1≠8->q.f.1≠9->2 * d<=n)->Od [41] rest->RW (MQ lf n) (tx d q++rest)=some (q,rest))
 | 0,_,_,h=>h.elim
 | d+1,q,hq,hv=>by
  obtain⟨hk,hF,_⟩:=NL hv.1;have ih:∀ s∈q.f.2.2.2.2.2.2,_:=fun s hs=>Tt hlf hst d s (hq.sub hs) (hv.2 s hs)
  have J8:q.f.1=8->∀ n rest,2 * (d+1)<=n+1->Od [124,41] rest->V8 (MQ lf n) 8 38 (tx (d+1) q++rest)=some (q,rest):=fun b n rest hn hr=>by
   rw [AeM b];have hsm:=Wz hF (.inl b);rw [b] at hsm
   have e:q.f.2.2.2.2.2.2.map (par (tx d) [9])=q.f.2.2.2.2.2.2.map (par (tx d) [8,9]):=List.map_congr_left fun s hs=>by
    by_cases a:s.f.1=9
    ·rw [Ts (by simp [a]),Ts (by simp [a])]
    ·rw [KE (by simp [a]),KE (by simp [a,hsm s hs])]
   rw [e,Wy (cs:=[38,124,41]) (by simp) (hr.mono (by simp)) (fun h=>by have:=hr 38 h;simp at this) ((OL hF).2.2.2.2 (.inl b)) (fun x hx r hr=>(ih x hx).1 n r (by omega) hr)];have:=Tq hF (by omega);rw [b] at this;rw [<- this]
  have J9:q.f.1=9->∀ n rest,2 * (d+1)<=n+1->Od [41] rest->RW (MQ lf n) (tx (d+1) q++rest)=some (q,rest):=fun a n rest hn hr=>by
   rw [AeN a];have hsm:=Wz hF (.inr a);rw [a] at hsm
   have e:q.f.2.2.2.2.2.2.map (par (tx d) [])=q.f.2.2.2.2.2.2.map (par (tx d) [9]):=List.map_congr_left fun s hs=>by
    rw [KE (by simp),KE (by simp [hsm s hs])]
   unfold RW;rw [e,Wy (cs:=[124,41]) (by simp) (hr.mono (by simp)) (fun h=>by have:=hr 124 h;simp at this) ((OL hF).2.2.2.2 (.inr a)) (fun x hx r hr=>(ih x hx).2.1 n r (by omega) (by omega) hr)];have:=Tq hF (by omega);rw [a] at this;rw [<- this]
  have Q8:q.f.1=8->∀ n rest,2 * (d+1)<=n+1->Od [41] rest->RW (MQ lf n) (tx (d+1) q++rest)=some (q,rest):=fun b n rest hn hr=>
   Vw (J8 b n rest hn (hr.mono (by simp))) (fun h=>by have:=hr 124 h;simp at this)
  have P1:∀ n rest,2 * (d+1)<=n->Od [38,124,41] rest->MQ lf n (par (tx (d+1)) [8,9] q++rest)=some (q,rest):=fun n rest hn hr=>by
   obtain⟨n,rfl⟩:∃ k,n=k+1:=⟨n - 1,by omega⟩
   by_cases i:q.f.1<=7
   ·rw [KE (by simp;omega)];obtain⟨c,t,ht,j,l⟩:=hst d q hv i;have:=hlf d q rest hq hv i hr;rw [ht] at this ⊢;rw [List.cons_append] at this ⊢;rw [MQ,List.head?_cons,if_neg (by simpa using j),if_neg (by simpa using l),this]
   by_cases g:q.f.1=10
   ·rw [KE (by simp;omega),Ae2 g];have p:=(OL hF).2.2.2.1 g;obtain⟨s,hs⟩:=List.length_eq_one_iff.1 p;have hnode:=Tq hF (by omega);rw [g,hs] at hnode;rw [hs,List.map_cons,List.map_nil,join_one,List.append_assoc,List.singleton_append,MQ,List.head?_cons,if_pos rfl,List.tail_cons,(ih s (by rw [hs];simp)).1 n rest (by omega) hr,hnode]
    rfl
   ·rw [Ts (by simp;omega),List.append_assoc,List.append_assoc,List.singleton_append,MQ,List.head?_cons,if_neg (by decide),if_pos rfl,List.tail_cons]
    have:RW (MQ lf n) (tx (d+1) q++41::rest)=some (q,41::rest):=by
     by_cases b:q.f.1=8
     ·exact Q8 b n _ (by omega) (Od.cons (by simp))
     ·exact J9 (by omega) n _ (by omega) (Od.cons (by simp))
    rw [List.singleton_append,this,Option.bind_some,List.head?_cons,if_pos rfl,List.tail_cons]
  have P2:∀ n rest,2 * (d+1)<=n+1->(q.f.1≠8->2 * (d+1)<=n)->Od [124,41] rest->V8 (MQ lf n) 8 38 (par (tx (d+1)) [9] q++rest)=some (q,rest):=fun n rest hn m hr=>by
   by_cases b:q.f.1=8
   ·rw [KE (by simp;omega)];exact J8 b n rest hn hr
   ·have e:par (tx (d+1)) [9] q=par (tx (d+1)) [8,9] q:=by
     by_cases a:q.f.1=9
     ·rw [Ts (by simp [a]),Ts (by simp [a])]
     ·rw [KE (by simp [a]),KE (by simp [a,b])]
    rw [e];exact Vw (P1 n rest (m b) (hr.mono (by simp))) (fun h=>by have:=hr 38 h;simp at this)
  refine⟨P1,P2,fun n rest hn o hr=>?_⟩
  by_cases b:q.f.1=8
  ·exact Q8 b n rest hn hr
  by_cases a:q.f.1=9
  ·exact J9 a n rest hn hr
  ·have:=P2 n rest hn (fun _=>o b a) (hr.mono (by simp));rw [KE (by simp [a])] at this;exact Vw this (fun h=>by have:=hr 124 h;simp at this)
end Go.Proofs.YtekmbcbgknmhiaaGreatDoor
end
noncomputable section
namespace Go.L
open Go
def Nq(cs r:List UInt8):List UInt8×List UInt8:=(r.takeWhile fun c=>!cs.contains c,r.dropWhile fun c=>!cs.contains c)
theorem M8{cs:List UInt8}:∀ {w rest:List UInt8},(∀ c∈w,c∉cs)->Od cs rest->Nq cs (w++rest)=(w,rest)
 | [],rest,_,hr=>by
  unfold Nq
  cases rest with
  | nil=>rfl
  | cons c r=>
   have:cs.contains c=true:=List.contains_iff_mem.2 (hr c rfl);rw [List.nil_append,List.takeWhile_cons,List.dropWhile_cons,this]
   rfl
 | c::w,rest,h,hr=>by
  have ih:=M8 (cs:=cs) (w:=w) (fun c hc=>h c (List.mem_cons_of_mem _ hc)) hr
  have:cs.contains c=false:=by
   rw [Bool.eq_false_iff];exact fun e=>h c (List.mem_cons_self ..) (List.contains_iff_mem.1 e)
  unfold Nq at ih ⊢;rw [List.cons_append,List.takeWhile_cons,List.dropWhile_cons,this];simp only [Bool.not_false,if_true];rw [(Prod.mk.inj ih).1,(Prod.mk.inj ih).2]
def dln:List UInt8->Nat
 | []=>0
 | c::r=>if 48<=c.toNat/\c.toNat<=57 then dln r+1 else 0
def nln:List UInt8->Nat
 | []=>0
 | c::r=>if(48<=c.toNat/\c.toNat<=57)\/c=45 then dln r+1 else 0
theorem Yg:∀ {w rest:List UInt8},(∀ c∈w,R8 c)->(∀ c,rest.head? = some c->¬ R8 c)->dln (w++rest)=w.length
 | [],[],_,_=>rfl
 | [],c::r,_,h=>by
  have:=h c rfl;unfold R8 at this;rw [List.nil_append,dln,if_neg this]
  rfl
 | c::w,rest,h,hr=>by
  have:=h c (List.mem_cons_self ..);unfold R8 at this;rw [List.cons_append,dln,if_pos this,Yg (fun c hc=>h c (List.mem_cons_of_mem _ hc)) hr]
  rfl
def RX(r:List UInt8):Option (Int×List UInt8):=match Lib.atoiAll (r.take (nln r)) with
 | .ok v=>some (v,r.drop (nln r))
 | _=>none
theorem Tu{n:Int}{rest:List UInt8}(hn:B0 n)(hr:∀ c,rest.head? = some c->¬ R8 c):RX (Lib.itoa n++rest)=some (n,rest):=by
 have ha:=YW hn;obtain⟨c,r,h,hc,hd⟩:=Pg n
 have hl:nln (Lib.itoa n++rest)=(Lib.itoa n).length:=by
  rw [h,List.cons_append,nln,if_pos (by unfold R8 at hc;exact hc),Yg hd hr]
  rfl
 unfold RX;rw [hl,List.take_left',List.drop_left',ha]
 ·rfl
 ·rfl
def Yh(c:UInt8)(r:List UInt8):Option (List UInt8):=if r.head? = some c then some r.tail else none
def QF(c:UInt8):Int:=Lib.indexByte [48,49,50,51,52,53,54,55,56,57,97,98,99,100,101,102] c
def W0:List UInt8->List UInt8->Option (List UInt8×List UInt8)
 | [],_=>none
 | c::r,o=>if c=39 then some (o,r) else if c=92 then(match r with
  | a::b::t=>if 0<=QF a/\0<=QF b then W0 t (o++[UInt8.ofNat (16 * (QF a).toNat+(QF b).toNat)]) else none
  | _=>none) else W0 r (o++[c])
theorem Nr(c:UInt8)(r o:List UInt8):W0 (c::r) o=if c=39 then some (o,r) else if c=92 then(match r with
  | a::b::t=>if 0<=QF a/\0<=QF b then W0 t (o++[UInt8.ofNat (16 * (QF a).toNat+(QF b).toNat)]) else none
  | _=>none) else W0 r (o++[c]):=by
 rcases r with _ | ⟨a,_ | ⟨b,t⟩⟩ <;> rfl
theorem Yi{n:Nat}(h:n<16):QF (hxd n)=n:=by
 have:∀ k:Fin 16,QF (hxd k.val)=(k.val:Int):=by decide
 exact this ⟨n,h⟩
theorem Q9{rest:List UInt8}:∀ (l o:List UInt8),W0 (l.flatMap Ww++39::rest) o=some (o++l,rest)
 | [],o=>by rw [List.flatMap_nil,List.nil_append,Nr,if_pos rfl,List.append_nil]
 | c::l,o=>by
  have ih:=Q9 (rest:=rest) l (o++[c]);rw [List.append_assoc,List.singleton_append] at ih;rw [List.flatMap_cons,List.append_assoc]
  by_cases h:(32<=c.toNat/\c.toNat<=126)/\c.toNat≠39/\c.toNat≠92
  ·rw [show Ww c=[c] from if_pos h,List.singleton_append,Nr,if_neg (fun e=>h.2.1 (by rw [e];rfl)),if_neg (fun e=>h.2.2 (by rw [e];rfl)),ih]
  ·have hc:c.toNat<256:=UInt8.toNat_lt _;rw [show Ww c=[92,hxd (c.toNat / 16),hxd (c.toNat % 16)] from if_neg h,List.cons_append,List.cons_append,List.cons_append,List.nil_append,Nr,if_neg (by decide),if_pos rfl];simp only;rw [Yi (by omega),Yi (by omega),if_pos ⟨by omega,by omega⟩]
   have:UInt8.ofNat (16 * ((c.toNat / 16:Nat):Int).toNat+((c.toNat % 16:Nat):Int).toNat)=c:=by
    rw [Int.toNat_natCast,Int.toNat_natCast,show 16 * (c.toNat / 16)+c.toNat % 16=c.toNat by omega,UInt8.ofNat_toNat]
   rw [this,ih]
def ppa(r:List UInt8):Option (Qv×List UInt8):=
 if(Nq [61,38,124,41] r).2.head? = some 61 then
  (
   if(Nq [61,38,124,41] r).2.tail.head? = some 39 then(W0 (Nq [61,38,124,41] r).2.tail.tail []).map fun x=>(.mk 7 [] (Nq [61,38,124,41] r).1 x.1 0 0 [],x.2)
   else(RX (Nq [61,38,124,41] r).2.tail).bind fun x=>if x.2.head? = some 46/\x.2.tail.head? = some 46 then(RX x.2.tail.tail).map fun y=>(.mk 6 [] (Nq [61,38,124,41] r).1 [] x.1 y.1 [],y.2) else none)
 else some (.mk 5 [] (Nq [61,38,124,41] r).1 [] 0 0 [],(Nq [61,38,124,41] r).2)
def pwd(r:List UInt8):Option (Qv×List UInt8):=
 if(Nq [126,38,124,41] r).2.head? = some 126 then
  (RX (Nq [126,38,124,41] r).2.tail).bind fun x=>(Yh 126 x.2).map fun t=>(.mk 3 [(Nq [126,38,124,41] r).1,(Nq [126,38,124,41] t).1] [] [] x.1 0 [],(Nq [126,38,124,41] t).2)
 else some (.mk 1 [(Nq [126,38,124,41] r).1] [] [] 0 0 [],(Nq [126,38,124,41] r).2)
def Sn(r:List UInt8):Option (Qv×List UInt8):=
 if r.head? = some 34 then(Yh 34 (Nq [34] r.tail).2).map fun t=>(.mk 2 (Lib.split (Nq [34] r.tail).1 [32]) [] [] 0 0 [],t)
 else if r.head? = some 39 then(W0 r.tail []).map fun x=>(.mk 4 [] [] x.1 0 0 [],x.2)
 else if r.head? = some 47 then ppa r.tail
 else pwd r
theorem PY{c:UInt8}(h:wb c):c∉([126,38,124,41,34,32,39,47,33,40]:List UInt8):=by
 intro hc;unfold wb at h;simp only [List.mem_cons,List.not_mem_nil,or_false] at hc
 rcases hc with rfl | rfl | rfl | rfl | rfl | rfl | rfl | rfl | rfl | rfl <;> revert h <;> decide
theorem Xs{c:UInt8}(h:pb c):c∉([61,38,124,41]:List UInt8):=by
 intro hc;unfold pb at h;simp only [List.mem_cons,List.not_mem_nil,or_false] at hc
 rcases hc with rfl | rfl | rfl | rfl <;> revert h <;> decide
theorem Acw{rest:List UInt8}(h:Od [38,124,41] rest):∀ c,rest.head? = some c->¬ R8 c:=fun c hc=>by
 have:=h c hc;simp only [List.mem_cons,List.not_mem_nil,or_false] at this
 rcases this with rfl | rfl | rfl <;> (unfold R8;decide)
end Go.L
namespace Go.Proofs.YtekmbcbgknmhiaaGreatDoor
open Go Go.L
theorem Rk{q:Qv}(h:Wv q=true)(hk:1<=q.f.1/\q.f.1<=7):∃ ws p d lo hi,q=.mk q.f.1 ws p d lo hi []/\q.f=(q.f.1,ws,p,d,lo,hi,[])/\
  (q.f.1=1->(∃ w,ws=[w])/\p=[]/\d=[]/\lo=0/\hi=0)/\(q.f.1=2->(∃ w v r,ws=w::v::r)/\p=[]/\d=[]/\lo=0/\hi=0)/\(q.f.1=3->(∃ w v,ws=[w,v])/\p=[]/\d=[]/\hi=0)/\
  (q.f.1=4->ws=[]/\p=[]/\lo=0/\hi=0)/\(q.f.1=5->ws=[]/\d=[]/\lo=0/\hi=0)/\(q.f.1=6->ws=[]/\d=[])/\(q.f.1=7->ws=[]/\lo=0/\hi=0):=by
 have hh:(q.f.1=1->q.f.2.1.length=1)/\(q.f.1=2->2<=q.f.2.1.length)/\(q.f.1=3->q.f.2.1.length=2)/\(4<=q.f.1->q.f.2.1=[])/\(q.f.1<5->q.f.2.2.1=[])/\(q.f.1≠4->q.f.1≠7->q.f.2.2.2.1=[])/\(q.f.1≠3->q.f.1≠6->q.f.2.2.2.2.1=0)/\(q.f.1≠6->q.f.2.2.2.2.2.1=0)/\q.f.2.2.2.2.2.2=[]:=by
  have hfk:=OL h;unfold Wv at h;simp only [Bool.and_eq_true,Bool.or_eq_true] at h;obtain⟨⟨⟨⟨⟨j,h2⟩,h3⟩,b⟩,c⟩,a⟩:=h;refine⟨hfk.1,hfk.2.1,hfk.2.2.1,fun e=>?_,fun e=>?_,fun e e'=>?_,fun e e'=>?_,fun e=>?_,?_⟩
  ·rw [if_neg (by omega),if_neg (by omega),if_neg (by omega)] at j;exact List.eq_nil_of_length_eq_zero (of_decide_eq_true j)
  ·exact of_decide_eq_true (h2.resolve_left (fun e=>by have:=of_decide_eq_true e;omega))
  ·exact of_decide_eq_true (h3.resolve_left (fun e=>by have:=of_decide_eq_true e;omega))
  ·exact of_decide_eq_true (b.resolve_left (fun e=>by have:=of_decide_eq_true e;omega))
  ·exact of_decide_eq_true (c.resolve_left (fun e=>by have:=of_decide_eq_true e;omega))
  ·rw [if_neg (by omega),if_neg (by omega)] at a;exact List.eq_nil_of_length_eq_zero (of_decide_eq_true a)
 obtain⟨k,ws,p,dd,lo,hi,ss⟩:=q;obtain⟨j,h2,h3,b,c,a,i,g,l⟩:=hh;rw [Qf] at hk j h2 h3 b c a i g l ⊢;simp only at hk j h2 h3 b c a i g l ⊢;subst l
 refine⟨ws,p,dd,lo,hi,rfl,rfl,fun e=>⟨?_,c (by omega),a (by omega) (by omega),i (by omega) (by omega),g (by omega)⟩,fun e=>⟨?_,c (by omega),a (by omega) (by omega),i (by omega) (by omega),g (by omega)⟩,
  fun e=>⟨?_,c (by omega),a (by omega) (by omega),g (by omega)⟩,fun e=>⟨b (by omega),c (by omega),i (by omega) (by omega),g (by omega)⟩,fun e=>⟨b (by omega),a (by omega) (by omega),i (by omega) (by omega),g (by omega)⟩,
  fun e=>⟨b (by omega),a (by omega) (by omega)⟩,fun e=>⟨b (by omega),i (by omega) (by omega),g (by omega)⟩⟩
 ·exact List.length_eq_one_iff.1 (j e)
 ·have:=h2 e
  match ws,this with
  | w::v::r,_=>exact⟨w,v,r,rfl⟩
 ·have:=h3 e
  match ws,this with
  | [w,v],_=>exact⟨w,v,rfl⟩
theorem AdB:Ad9 Sn:=fun d q rest hq hv o hr=>by
 obtain⟨hk,hF,hw,hp,ht⟩:=NL hv.1;obtain⟨ws,p,dd,lo,hi,he,hf,f1,f2,f3,f4,f5,f6,f7⟩:=Rk hF ⟨hk.1,o⟩;have hlo:B0 lo:=by have:=hq.open.2.2.2.2.2.1;rw [hf] at this;exact this
 have hhi:B0 hi:=by have:=hq.open.2.2.2.2.2.2;rw [hf] at this;exact this
 have hws:∀ w∈ws,w≠[]/\∀ c∈w,wb c:=fun w h=>Aa7 (hw w (by rw [hf];exact h));have hpp:∀ c∈p,pb c:=by rw [hf] at hp;exact AcU hp
 have wout:∀ w∈ws,∀ c∈w,c∉([126,38,124,41]:List UInt8):=fun w hw c hc h=>PY ((hws w hw).2 c hc) (by simp at h ⊢;rcases h with h | h | h | h <;> simp [h])
 have whd:∀ w∈ws,∀ t,∃ c u,w++t=c::u/\c≠34/\c≠39/\c≠47:=fun w hw t=>by
  obtain⟨hne,hb⟩:=hws w hw;obtain⟨c,u,rfl⟩:=List.exists_cons_of_ne_nil hne;have:=PY (hb c (List.mem_cons_self ..));exact⟨c,u++t,rfl,fun e=>this (by simp [e]),fun e=>this (by simp [e]),fun e=>this (by simp [e])⟩
 have b:Od [126,38,124,41] rest:=hr.mono (by simp);unfold tx tb;rw [hf];simp only;obtain h | h | h | h | h | h | h:q.f.1=1\/q.f.1=2\/q.f.1=3\/q.f.1=4\/q.f.1=5\/q.f.1=6\/q.f.1=7:=by omega
 ·obtain⟨⟨w,rfl⟩,rfl,rfl,rfl,rfl⟩:=f1 h;rw [if_pos h]
  show Sn (w++rest)=_
  have hp:=M8 (wout w (by simp)) b;obtain⟨c,u,e,g,i,j⟩:=whd w (by simp) rest;unfold Sn;rw [e,List.head?_cons,if_neg (by simpa using g),if_neg (by simpa using i),if_neg (by simpa using j),<- e];unfold pwd;rw [hp,if_neg (fun h=>by have:=hr _ h;simp at this)];rw [h] at he;rw [he]
 ·obtain⟨⟨w,v,r,rfl⟩,rfl,rfl,rfl,rfl⟩:=f2 h;rw [if_neg (by omega),if_pos h]
  have hout:∀ c∈Lib.join (w::v::r) [32],c∉([34]:List UInt8):=by
   intro c hc a;rw [Lib.join_cons] at hc
   have key:∀ l:List (List UInt8),(∀ x∈l,∀ c∈x,wb c)->c∉Lib.joinTail [32] l:=by
    intro l
    induction l with
    | nil=>intro _ h;cases h
    | cons x l ih=>
     intro hx h;rw [Jl] at h
     rcases List.mem_cons.1 h with rfl | h
     ·simp at a
     rcases List.mem_append.1 h with h | h
     ·exact PY (hx x (List.mem_cons_self ..) c h) (by simp at a ⊢;simp [a])
     ·exact ih (fun y hy=>hx y (List.mem_cons_of_mem _ hy)) h
   rcases List.mem_append.1 hc with h | h
   ·exact PY ((hws w (by simp)).2 c h) (by simp at a ⊢;simp [a])
   ·exact key (v::r) (fun x hx=>(hws x (List.mem_cons_of_mem _ hx)).2) h
  have hu:=M8 (rest:=34::rest) hout (Od.cons (by simp));unfold Sn;rw [List.append_assoc,List.append_assoc,List.singleton_append,List.singleton_append,List.head?_cons,if_pos rfl,List.tail_cons,hu];simp only;unfold Yh;rw [List.head?_cons,if_pos rfl,Xr _ _ (fun x hx hc=>PY ((hws x hx).2 _ hc) (by simp))];rw [h] at he;rw [he]
  rfl
 ·obtain⟨⟨w,v,rfl⟩,rfl,rfl,rfl⟩:=f3 h;rw [if_neg (by omega),if_neg (by omega),if_pos h]
  show Sn (((((w++[126])++Lib.itoa lo)++[126])++v)++rest)=_
  have hu:=M8 (rest:=126::(Lib.itoa lo++126::(v++rest))) (wout w (by simp)) (Od.cons (by simp));have k:=M8 (wout v (by simp)) b;obtain⟨c,u,e,g,i,j⟩:=whd w (by simp) (126::(Lib.itoa lo++126::(v++rest)));have ee:((((w++[126])++Lib.itoa lo)++[126])++v)++rest=w++126::(Lib.itoa lo++126::(v++rest)):=by simp
  rw [ee];unfold Sn;rw [e,List.head?_cons,if_neg (by simpa using g),if_neg (by simpa using i),if_neg (by simpa using j),<- e];unfold pwd;rw [hu];simp only [List.head?_cons,if_true,List.tail_cons];rw [Tu hlo (fun c hc=>by simp at hc;subst hc;unfold R8;decide),Option.bind_some];unfold Yh;simp only [List.head?_cons,if_true,List.tail_cons];rw [Option.map_some,k];rw [h] at he;rw [he]
 ·obtain⟨rfl,rfl,rfl,rfl⟩:=f4 h;rw [if_neg (by omega),if_neg (by omega),if_neg (by omega),if_pos h];unfold quo Sn;rw [List.append_assoc,List.cons_append,List.singleton_append,List.head?_cons,if_neg (by decide),if_pos rfl,List.tail_cons,Q9];rw [h] at he;rw [he]
  rfl
 ·obtain⟨rfl,rfl,rfl,rfl⟩:=f5 h;rw [if_neg (by omega),if_neg (by omega),if_neg (by omega),if_neg (by omega),if_pos h];unfold Sn;rw [List.append_assoc,List.singleton_append,List.head?_cons,if_neg (by decide),if_neg (by decide),if_pos rfl,List.tail_cons];unfold ppa;rw [M8 (fun c hc=>Xs (hpp c hc)) (hr.mono (by simp)),if_neg (fun h=>by have:=hr _ h;simp at this)];rw [h] at he;rw [he]
 ·obtain⟨rfl,rfl⟩:=f6 h;rw [if_neg (by omega),if_neg (by omega),if_neg (by omega),if_neg (by omega),if_neg (by omega),if_pos h];have ee:(((([47]++p)++[61])++Lib.itoa lo)++[46,46])++Lib.itoa hi++rest=47::(p++61::(Lib.itoa lo++46::46::(Lib.itoa hi++rest))):=by simp
  rw [ee];unfold Sn;rw [List.head?_cons,if_neg (by decide),if_neg (by decide),if_pos rfl,List.tail_cons];unfold ppa;rw [M8 (fun c hc=>Xs (hpp c hc)) (Od.cons (by simp))];simp only [List.head?_cons,if_true,List.tail_cons];obtain⟨c,r,m,n,_⟩:=Pg lo
  rw [if_neg (by
   rw [m];intro e;simp at e;subst e
   rcases n with h | h
   ·unfold R8 at h;revert h;decide
   ·revert h;decide)]
  rw [Tu hlo (fun c hc=>by simp at hc;subst hc;unfold R8;decide),Option.bind_some];simp only [List.head?_cons,List.tail_cons,and_self,if_true];rw [Tu hhi (Acw hr)];rw [h] at he;rw [he]
  rfl
 ·obtain⟨rfl,rfl,rfl⟩:=f7 h;rw [if_neg (by omega),if_neg (by omega),if_neg (by omega),if_neg (by omega),if_neg (by omega),if_neg (by omega),if_pos h];have ee:(([47]++p)++[61])++quo dd++rest=47::(p++61::39::(dd.flatMap Ww++39::rest)):=by simp [quo]
  rw [ee];unfold Sn;rw [List.head?_cons,if_neg (by decide),if_neg (by decide),if_pos rfl,List.tail_cons];unfold ppa;rw [M8 (fun c hc=>Xs (hpp c hc)) (Od.cons (by simp))];simp only [List.head?_cons,if_true,List.tail_cons];rw [Q9];rw [h] at he;rw [he]
  rfl
theorem Yj(d:Nat)(q:Qv)(hv:Vq (d+1) q)(a:q.f.1<=7):∃ c t,tx (d+1) q=c::t/\c≠33/\c≠40:=by
 obtain⟨hk,hF,hw,hp,ht⟩:=NL hv.1;obtain⟨ws,p,dd,lo,hi,he,hf,f1,f2,f3,f4,f5,f6,f7⟩:=Rk hF ⟨hk.1,a⟩
 have whd:∀ w∈ws,∀ t,∃ c u,w++t=c::u/\c≠33/\c≠40:=fun w h t=>by
  obtain⟨hne,hb⟩:=Aa7 (hw w (by rw [hf];exact h));obtain⟨c,u,rfl⟩:=List.exists_cons_of_ne_nil hne;have:=PY (hb c (List.mem_cons_self ..));exact⟨c,u++t,rfl,fun e=>this (by simp [e]),fun e=>this (by simp [e])⟩
 unfold tx tb;rw [hf];simp only;obtain h | h | h | h | h | h | h:q.f.1=1\/q.f.1=2\/q.f.1=3\/q.f.1=4\/q.f.1=5\/q.f.1=6\/q.f.1=7:=by omega
 ·obtain⟨⟨w,rfl⟩,_⟩:=f1 h;rw [if_pos h];have:=whd w (by simp) [];rw [List.append_nil] at this;exact this
 ·rw [if_neg (by omega),if_pos h];exact⟨34,_,rfl,by decide,by decide⟩
 ·obtain⟨⟨w,v,rfl⟩,_⟩:=f3 h;rw [if_neg (by omega),if_neg (by omega),if_pos h];have:=whd w (by simp) ([126]++(Lib.itoa lo++([126]++v)));rw [show w++([126]++(Lib.itoa lo++([126]++v)))=(((w++[126])++Lib.itoa lo)++[126])++v by simp] at this;exact this
 ·rw [if_neg (by omega),if_neg (by omega),if_neg (by omega),if_pos h];exact⟨39,_,rfl,by decide,by decide⟩
 ·rw [if_neg (by omega),if_neg (by omega),if_neg (by omega),if_neg (by omega),if_pos h];exact⟨47,_,rfl,by decide,by decide⟩
 ·rw [if_neg (by omega),if_neg (by omega),if_neg (by omega),if_neg (by omega),if_neg (by omega),if_pos h];exact⟨47,_,rfl,by decide,by decide⟩
 ·rw [if_neg (by omega),if_neg (by omega),if_neg (by omega),if_neg (by omega),if_neg (by omega),if_neg (by omega),if_pos h];exact⟨47,_,rfl,by decide,by decide⟩
theorem YX{d:Nat}{q:Qv}(hq:Sq q)(hv:Vq d q){n:Nat}(hn:2 * d<=n):RW (MQ Sn n) (tx d q)=some (q,[]):=by
 have:=(Tt AdB Yj d q hq hv).2.2 n [] (by omega) (fun _ _=>hn) (fun c hc=>by cases hc)
 rwa [List.append_nil] at this
end Go.Proofs.YtekmbcbgknmhiaaGreatDoor
end
noncomputable section
namespace Go.L
open Go
theorem Acx{l:List UInt8}{p:Nat}(hp:p<l.length):(bt l p<128->Md l p=(bt l p,1))/\(128<=bt l p->(128<=(Md l p).1/\(Md l p).1<=1114111)/\1<=(Md l p).2/\∀ k,k<(Md l p).2->p+k<l.length/\128<=bt l (p+k)):=by
 have hg:∀ k,p+k<l.length->((ByteArray.mk l.toArray).get! (p+k)).toNat=bt l (p+k):=fun k hk=>by
  unfold bt ByteArray.get!;simp [List.getD_eq_getElem?_getD,hk]
 have c:=hg 0 (by omega);have d:bt l p<256:=UInt8.toNat_lt _;rw [Nat.add_zero] at c;unfold Md Go.Utf8.decode;simp only [Nat.add_zero,c];refine⟨fun h=>by rw [if_pos h],fun h=>?_⟩;rw [if_neg (by omega)];have hsz:(ByteArray.mk l.toArray).size=l.length:=by simp [ByteArray.size]
 simp only [hsz]
 have hc:∀ k,(decide (p+k<l.length)&&((ByteArray.mk l.toArray).get! (p+k)).toNat / 64==2)=true->p+k<l.length/\128<=bt l (p+k):=fun k hk=>by
  rw [Bool.and_eq_true,decide_eq_true_eq,beq_iff_eq] at hk;have:=hg k hk.1;omega
 have a:(∀ k,k<1->p+k<l.length/\128<=bt l (p+k)):=fun k hk=>by
  obtain rfl:k=0:=by omega
  exact⟨hp,h⟩
 have hE:(128<=(Go.Utf8.runeError,1).1/\(Go.Utf8.runeError,1).1<=1114111)/\1<=(Go.Utf8.runeError,1).2/\∀ k,k<(Go.Utf8.runeError,1).2->p+k<l.length/\128<=bt l (p+k):=⟨by decide,by decide,a⟩
 split
 ·rename_i e;rw [Bool.and_eq_true] at e;have c1:=hc 1 e.2
  split
  ·refine⟨⟨by simpa using ‹_›,?_⟩,by simp only;omega,fun k hk=>?_⟩
   ·simp only;omega
   ·obtain rfl | rfl:k=0\/k=1:=by simp only at hk;omega
    ·exact a 0 (by omega)
    ·exact c1
  ·exact hE
 ·split
  ·rename_i e;rw [Bool.and_eq_true,Bool.and_eq_true] at e;have c1:=hc 1 e.1.2;have c2:=hc 2 e.2
   split
   ·rename_i b;rw [Bool.and_eq_true,decide_eq_true_eq] at b;refine⟨⟨by simp only;omega,?_⟩,by simp only;omega,fun k hk=>?_⟩
    ·simp only;omega
    ·obtain rfl | rfl | rfl:k=0\/k=1\/k=2:=by simp only at hk;omega
     ·exact a 0 (by omega)
     ·exact c1
     ·exact c2
   ·exact hE
  ·split
   ·rename_i e;rw [Bool.and_eq_true,Bool.and_eq_true,Bool.and_eq_true] at e;have c1:=hc 1 e.1.1.2;have c2:=hc 2 e.1.2;have c3:=hc 3 e.2
    split
    ·rename_i b;rw [Bool.and_eq_true,decide_eq_true_eq] at b;have hv:=b.2;simp only [Go.Utf8.valid,Bool.or_eq_true,Bool.and_eq_true,decide_eq_true_eq] at hv;refine⟨⟨by simp only;omega,?_⟩,by simp only;omega,fun k hk=>?_⟩
     ·simp only;omega
     ·obtain rfl | rfl | rfl | rfl:k=0\/k=1\/k=2\/k=3:=by simp only at hk;omega
      ·exact a 0 (by omega)
      ·exact c1
      ·exact c2
      ·exact c3
    ·exact hE
   ·exact hE
end Go.L
namespace Go.Proofs.YtekmbcbgknmhiaaGreatDoor
open Go Go.L
def sgn(cs:List UInt8):Prop:=cs=[61,38,124,41]\/cs=[126,38,124,41]
theorem Acy{cs:List UInt8}{c:UInt8}(h:c.toNat<128):BT cs (c.toNat:Int)=some (Lib.indexByte cs c):=by
 unfold BT;rw [if_pos ⟨by omega,by omega⟩];unfold OA;rw [Aeg]
 rfl
theorem Acz{cs:List UInt8}(hc:sgn cs):C7 cs 0=some (-1):=by
 have key:∀ cs:List UInt8,B8 cs 0=some (.inl 1)->B8 cs 1=some (.inl 2)->B8 cs 2=some (.inl 3)->B8 cs 3=some (.inl 4)->B8 cs 4=some (.inr (-1))->C7 cs 0=some (-1):=fun cs r0 r1 r2 r3 r4=>by
  unfold C7;rw [B2 r0,B2 r1,B2 r2,B2 r3];exact Bh (m:=some (-1)) r4
 rcases hc with rfl | rfl
 ·exact key _ rfl rfl rfl rfl rfl
 ·exact key _ rfl rfl rfl rfl rfl
theorem Ac0{cs:List UInt8}(hc:sgn cs){x:Int}(d:128<=x)(hx:x<=1114111):BT cs x=some (-1):=by
 have hlen:cs.length=4:=by rcases hc with rfl | rfl <;> rfl
 have hasc:∀ b∈cs,b.toNat<128:=by rcases hc with rfl | rfl <;> decide
 unfold BT;rw [if_neg (by omega)]
 by_cases h2:x=65533
 ·rw [if_pos h2,Acz hc]
 ·rw [if_neg h2]
  by_cases hv:Go.Utf8.valid x=true
  ·have e:BA x=some true:=by
    unfold BA;simp only [Go.Utf8.valid,Bool.or_eq_true,Bool.and_eq_true,decide_eq_true_eq] at hv
    by_cases h3:0<=x/\x<55296
    ·rw [if_pos h3]
    ·rw [if_neg h3,if_pos (by omega)]
   rw [e];obtain⟨k,hk,f,g,hl⟩:=Ur (by omega) hx hv;simp only [Option.bind_some,Bool.not_true,Bool.false_eq_true,if_false,hk];rw [Al (by unfold B0;omega)];refine Bh ?_;unfold Dn;have a:((k:Int) - 1).toNat=k - 1:=by omega
   have key:∀ (l:List UInt8) (c:UInt8),(∀ b∈l,b.toNat<128)->128<=c.toNat->Lib.indexByte l c = -1:=by
    intro l c hl hc;refine Rj l fun h=>?_;have:=hl c h;omega
   simp only [hk,a]
   have hget:(cs.getD (k - 1) default).toNat<128:=by
    rw [List.getD_eq_getElem?_getD,List.getElem?_eq_getElem (by omega)];exact hasc _ (List.getElem_mem _)
   rw [if_pos (by omega),Al (by omega),Al (by omega),if_neg (by omega),Al (by unfold B0;omega),Al (by omega),Al (by omega)];unfold OA;rw [Option.bind_some,key _ _ (fun b hb=>hasc b (List.mem_of_mem_drop hb)) hl,if_pos (by decide)]
  ·have e:BA x=some false:=by
    unfold BA;simp only [Go.Utf8.valid,Bool.or_eq_true,Bool.and_eq_true,decide_eq_true_eq] at hv;rw [if_neg (by omega),if_neg (by omega)]
   rw [e]
   rfl
def Tv(s cs:List UInt8)(p:Nat):Int:=if Lib.indexAny (s.drop p) cs<0 then -1 else Lib.indexAny (s.drop p) cs+p
theorem Uz{s cs:List UInt8}{p:Nat}(hp:p<s.length)(h:s.getD p default∉cs):Tv s cs p=Tv s cs (p+1):=by
 have hg:s.getD p default=s[p]:=by rw [List.getD_eq_getElem?_getD,List.getElem?_eq_getElem hp];rfl
 have hn:cs.contains s[p]=false:=by
  rw [Bool.eq_false_iff,<- hg];exact fun e=>h (List.contains_iff_mem.1 e)
 unfold Tv;rw [List.drop_eq_getElem_cons hp,Lib.indexAny,hn];have:=Lib.indexAny_ge cs (s.drop (p+1))
 by_cases a:Lib.indexAny (s.drop (p+1)) cs = -1
 ·rw [a];rfl
 ·have h2:(Lib.indexAny (s.drop (p+1)) cs == -1)=false:=by simpa using a
  rw [h2];simp only [Bool.false_eq_true,if_false];rw [if_neg (by omega),if_neg (by omega)];omega
theorem Tw{s cs:List UInt8}(hc:sgn cs):∀ (w p:Nat),(∀ k,k<w->p+k<s.length/\128<=bt s (p+k))->Tv s cs p=Tv s cs (p+w)
 | 0,p,_=>rfl
 | w+1,p,h=>by
  have a:=h 0 (by omega);have hasc:∀ b∈cs,b.toNat<128:=by rcases hc with rfl | rfl <;> decide
  rw [Nat.add_zero] at a;rw [Uz a.1 (fun hm=>by have:=hasc _ hm;have a:=a.2;unfold bt at a;omega),Tw hc w (p+1) (fun k hk=>by have:=h (k+1) (by omega);rwa [show p+(k+1)=p+1+k by omega] at this)]
  congr 1
  omega
theorem AdD{s cs:List UInt8}(hc:sgn cs):∀ (d p:Nat),s.length<=p+d->Fc s cs p=some (Tv s cs p):=by
 intro d
 induction d using Nat.strongRecOn with
 | ind d ih=>
  intro p hd;unfold Fc at ih ⊢
  by_cases hp:p<s.length
  ·obtain⟨lo,hi⟩:=Acx hp;have hg:s.getD p default=s[p]:=by rw [List.getD_eq_getElem?_getD,List.getElem?_eq_getElem hp];rfl
   by_cases h:bt s p<128
   ·have hb:BT cs ((Md s p).1:Int)=some (Lib.indexByte cs s[p]):=by
     rw [lo h,<- hg];exact Acy h
    by_cases hm:s[p]∈cs
    ·refine Bh (m:=some (Tv s cs p)) ?_;obtain⟨w,t,e,hw⟩:=List.eq_append_cons_of_mem hm;unfold BZ;rw [if_pos hp,hb,Option.bind_some]
     conv=>lhs;rw [e,To w hw]
     rw [if_pos (by omega)];unfold Tv;rw [List.drop_eq_getElem_cons hp,Lib.indexAny,if_pos (List.contains_iff_mem.2 hm),if_neg (by decide),Int.zero_add]
    ·have e:BZ s cs p=some (.inl (p+1)):=by
      unfold BZ;rw [if_pos hp,hb,Option.bind_some,Rj cs hm,if_neg (by decide),lo h]
     rw [B2 e,ih (d - 1) (by omega) (p+1) (by omega),Uz hp (by rw [hg];exact hm)]
   ·obtain⟨⟨a1,a2⟩,a3,a4⟩:=hi (by omega)
    have e:BZ s cs p=some (.inl (p+(Md s p).2)):=by
     unfold BZ;rw [if_pos hp,Ac0 hc (by omega) (by omega),Option.bind_some,if_neg (by decide)]
    rw [B2 e,ih (d - (Md s p).2) (by omega) _ (by omega),Tw hc _ p a4]
  ·refine Bh (m:=some (Tv s cs p)) ?_;unfold BZ Fb Tv;rw [if_neg hp,List.drop_eq_nil_of_le (by omega)]
   rfl
theorem any_eq{s cs:List UInt8}(hs:s.length<=1000000)(hc:sgn cs\/cs=[34]):NH s cs=some (Lib.indexAny s cs):=by
 unfold NH;have hasc:∀ b∈cs,b.toNat<128:=by rcases hc with (rfl | rfl) | rfl <;> decide
 have hlen:cs.length=4\/cs.length=1:=by rcases hc with (rfl | rfl) | rfl <;> simp
 by_cases h:8<s.length\/cs.length=1
 ·rw [if_pos h,Al ⟨by omega,by omega,by omega,hasc⟩]
 ·rw [if_neg h];have hc:sgn cs:=hc.resolve_right (fun e=>h (.inr (by rw [e];rfl)));unfold strings_IndexAny;rw [if_neg (by intro e;rw [e] at hlen;simp at hlen),if_neg (by omega),if_neg (by omega)];unfold Fe;rw [AdD hc s.length 0 (by omega)];unfold Tv;rw [List.drop_zero];have:=Lib.indexAny_ge cs s
  congr 1
  split <;> omega
end Go.Proofs.YtekmbcbgknmhiaaGreatDoor
end
noncomputable section
namespace Go.L
open Go
def KU(c:UInt8):Bool:=decide (48<=c.toNat/\c.toNat<=57)||decide (97<=c.toNat/\c.toNat<=122)||decide (128<=c.toNat)
def TS(c:UInt8):Bool:=decide (48<=c.toNat/\c.toNat<=57)||decide (97<=c.toNat/\c.toNat<=122)||decide (c=47)||decide (c=35)||decide (c=42)||decide (c=45)||decide (c=95)||decide (c=46)
def GL(p:UInt8->Bool)(r:List UInt8):List UInt8×List UInt8:=(r.takeWhile p,r.dropWhile p)
theorem KF{p:UInt8->Bool}:∀ {w rest:List UInt8},(∀ c∈w,p c=true)->(∀ c,rest.head? = some c->p c=false)->GL p (w++rest)=(w,rest)
 | [],rest,_,hr=>by
  unfold GL
  cases rest with
  | nil=>rfl
  | cons c r=>
   rw [List.nil_append,List.takeWhile_cons,List.dropWhile_cons,hr c rfl]
   rfl
 | c::w,rest,h,hr=>by
  have ih:=KF (p:=p) (w:=w) (fun c hc=>h c (List.mem_cons_of_mem _ hc)) hr;unfold GL at ih ⊢;rw [List.cons_append,List.takeWhile_cons,List.dropWhile_cons,h c (List.mem_cons_self ..)];simp only [if_true];rw [(Prod.mk.inj ih).1,(Prod.mk.inj ih).2]
theorem AdE{c:UInt8}(h:wb c):KU c=true:=by
 unfold wb at h;unfold KU;simp only [Bool.or_eq_true,decide_eq_true_eq];omega
theorem AeO{c:UInt8}(h:pb c):TS c=true:=by
 unfold pb at h;unfold TS;simp only [Bool.or_eq_true,decide_eq_true_eq];have e:∀ d:UInt8,c.toNat=d.toNat->c=d:=fun d h=>UInt8.toNat_inj.1 h
 rcases h with h | h | h | h | h | h | h | h
 ·simp [h]
 ·simp [h]
 ·have:=e 47 h;simp [this]
 ·have:=e 35 h;simp [this]
 ·have:=e 42 h;simp [this]
 ·have:=e 45 h;simp [this]
 ·have:=e 95 h;simp [this]
 ·have:=e 46 h;simp [this]
def rph:Nat->List (List UInt8)->List UInt8->Option (List (List UInt8)×List UInt8)
 | 0,_,_=>none
 | k+1,l,r=>if(GL KU r).2.head? = some 34 then some (l++[(GL KU r).1],(GL KU r).2.tail)
  else if(GL KU r).2.head? = some 32 then rph k (l++[(GL KU r).1]) (GL KU r).2.tail else none
theorem Yk{rest:List UInt8}:∀ (ws:List (List UInt8)) (w:List UInt8) (l:List (List UInt8)) (k:Nat),(∀ x∈w::ws,∀ c∈x,wb c)->ws.length<k->rph k l (w++(Lib.joinTail [32] ws++34::rest))=some (l++w::ws,rest)
 | ws,w,l,0,_,hk=>by omega
 | [],w,l,k+1,h,_=>by
  have hu:=KF (p:=KU) (w:=w) (rest:=34::rest) (fun c hc=>AdE (h w (by simp) c hc)) (fun c hc=>by obtain rfl:=Option.some.inj hc;decide)
  show rph (k+1) l (w++([]++34::rest))=_
  rw [List.nil_append,rph,hu,if_pos (by rfl)]
  rfl
 | x::ws,w,l,k+1,h,hk=>by
  rw [Jl];have hu:=KF (p:=KU) (w:=w) (rest:=32::(x++Lib.joinTail [32] ws)++34::rest) (fun c hc=>AdE (h w (by simp) c hc)) (fun c hc=>by obtain rfl:=Option.some.inj hc;decide);rw [rph,hu,if_neg (by simp),if_pos (by rfl)];have:=Yk (rest:=rest) ws x (l++[w]) k (fun y hy=>h y (List.mem_cons_of_mem _ hy)) (by simp at hk;omega);simp only [List.cons_append,List.tail_cons,List.append_assoc] at this ⊢;rw [this];simp
def rpa(num:List UInt8->Option (Int×List UInt8))(r:List UInt8):Option (Qv×List UInt8):=
 if(GL TS r).2.head? = some 61 then
  (
   if(GL TS r).2.tail.head? = some 39 then(W0 (GL TS r).2.tail.tail []).map fun x=>(.mk 7 [] (GL TS r).1 x.1 0 0 [],x.2)
   else(num (GL TS r).2.tail).bind fun x=>if x.2.head? = some 46/\x.2.tail.head? = some 46 then(num x.2.tail.tail).map fun y=>(.mk 6 [] (GL TS r).1 [] x.1 y.1 [],y.2) else none)
 else some (.mk 5 [] (GL TS r).1 [] 0 0 [],(GL TS r).2)
def rwd(num:List UInt8->Option (Int×List UInt8))(r:List UInt8):Option (Qv×List UInt8):=
 if(GL KU r).1=[] then none
 else if(GL KU r).2.head? = some 126 then
  (num (GL KU r).2.tail).bind fun x=>(Yh 126 x.2).map fun t=>(.mk 3 [(GL KU r).1,(GL KU t).1] [] [] x.1 0 [],(GL KU t).2)
 else some (.mk 1 [(GL KU r).1] [] [] 0 0 [],(GL KU r).2)
def RY(num:List UInt8->Option (Int×List UInt8))(r:List UInt8):Option (Qv×List UInt8):=
 if r.head? = some 47 then rpa num r.tail
 else if r.head? = some 34 then(rph (r.length+1) [] r.tail).map fun x=>(.mk 2 x.1 [] [] 0 0 [],x.2)
 else if r.head? = some 39 then(W0 r.tail []).map fun x=>(.mk 4 [] [] x.1 0 0 [],x.2)
 else rwd num r
def Aa9(num:List UInt8->Option (Int×List UInt8)):Prop:=∀ (n:Int) (rest:List UInt8),B0 n->(∀ c,rest.head? = some c->¬ R8 c/\c≠45)->num (Lib.itoa n++rest)=some (n,rest)
theorem Vx{rest:List UInt8}(h:Od [38,124,41,126,46] rest):∀ c,rest.head? = some c->¬ R8 c/\c≠45:=fun c hc=>by
 have:=h c hc;simp only [List.mem_cons,List.not_mem_nil,or_false] at this
 rcases this with rfl | rfl | rfl | rfl | rfl <;> (unfold R8;decide)
theorem AaA{rest:List UInt8}(h:Od [38,124,41,126,34,32] rest):∀ c,rest.head? = some c->KU c=false:=fun c hc=>by
 have:=h c hc;simp only [List.mem_cons,List.not_mem_nil,or_false] at this
 rcases this with rfl | rfl | rfl | rfl | rfl | rfl <;> decide
theorem Xt{rest:List UInt8}(h:Od [38,124,41,61] rest):∀ c,rest.head? = some c->TS c=false:=fun c hc=>by
 have:=h c hc;simp only [List.mem_cons,List.not_mem_nil,or_false] at this
 rcases this with rfl | rfl | rfl | rfl <;> decide
end Go.L
namespace Go.Proofs.YtekmbcbgknmhiaaGreatDoor
open Go Go.L
theorem AdG{num:List UInt8->Option (Int×List UInt8)}(hnum:Aa9 num):Ad9 (RY num):=fun d q rest hq hv m hr=>by
 obtain⟨hk,hF,hw,hp,ht⟩:=NL hv.1;obtain⟨ws,p,dd,lo,hi,he,hf,f1,f2,f3,f4,f5,f6,f7⟩:=Rk hF ⟨hk.1,m⟩;have hlo:B0 lo:=by have:=hq.open.2.2.2.2.2.1;rw [hf] at this;exact this
 have hhi:B0 hi:=by have:=hq.open.2.2.2.2.2.2;rw [hf] at this;exact this
 have hws:∀ w∈ws,w≠[]/\∀ c∈w,wb c:=fun w h=>Aa7 (hw w (by rw [hf];exact h));have hpp:∀ c∈p,TS c=true:=by rw [hf] at hp;exact fun c hc=>AeO (AcU hp c hc)
 have wout:∀ w∈ws,∀ c∈w,KU c=true:=fun w hw c hc=>AdE ((hws w hw).2 c hc)
 have whd:∀ w∈ws,∀ t,∃ c u,w++t=c::u/\c≠34/\c≠39/\c≠47:=fun w hw t=>by
  obtain⟨hne,hb⟩:=hws w hw;obtain⟨c,u,rfl⟩:=List.exists_cons_of_ne_nil hne;have:=PY (hb c (List.mem_cons_self ..));exact⟨c,u++t,rfl,fun e=>this (by simp [e]),fun e=>this (by simp [e]),fun e=>this (by simp [e])⟩
 have hrw:∀ c,rest.head? = some c->KU c=false:=AaA (hr.mono (by simp));unfold tx tb;rw [hf];simp only;obtain h | h | h | h | h | h | h:q.f.1=1\/q.f.1=2\/q.f.1=3\/q.f.1=4\/q.f.1=5\/q.f.1=6\/q.f.1=7:=by omega
 ·obtain⟨⟨w,rfl⟩,rfl,rfl,rfl,rfl⟩:=f1 h;rw [if_pos h]
  show RY num (w++rest)=_
  have hp:=KF (wout w (by simp)) hrw;obtain⟨c,u,e,a,b,g⟩:=whd w (by simp) rest;unfold RY;rw [e,List.head?_cons,if_neg (by simpa using g),if_neg (by simpa using a),if_neg (by simpa using b),<- e];unfold rwd;rw [hp,if_neg (hws w (by simp)).1,if_neg (fun h=>by have:=hr _ h;simp at this)];rw [h] at he;rw [he]
 ·obtain⟨⟨w,v,r,rfl⟩,rfl,rfl,rfl,rfl⟩:=f2 h;rw [if_neg (by omega),if_pos h];unfold RY;rw [List.append_assoc,List.append_assoc,List.singleton_append,List.singleton_append,List.head?_cons,if_neg (by decide),if_pos rfl,List.tail_cons,Lib.join_cons,List.append_assoc,Yk _ _ _ _ (fun x hx=>(hws x hx).2)]
  ·rw [h] at he;rw [he]
   rfl
  ·have:∀ l:List (List UInt8),l.length<=(Lib.joinTail [32] l).length:=by
    intro l
    induction l with
    | nil=>simp
    | cons x l ih=>rw [Jl];simp;omega
   have:=this (v::r);simp only [List.length_cons,List.length_append] at this ⊢;omega
 ·obtain⟨⟨w,v,rfl⟩,rfl,rfl,rfl⟩:=f3 h;rw [if_neg (by omega),if_neg (by omega),if_pos h]
  show RY num (((((w++[126])++Lib.itoa lo)++[126])++v)++rest)=_
  have hu:=KF (rest:=126::(Lib.itoa lo++126::(v++rest))) (wout w (by simp)) (AaA (Od.cons (by simp)));have i:=KF (wout v (by simp)) hrw;obtain⟨c,u,e,a,b,g⟩:=whd w (by simp) (126::(Lib.itoa lo++126::(v++rest)));have ee:((((w++[126])++Lib.itoa lo)++[126])++v)++rest=w++126::(Lib.itoa lo++126::(v++rest)):=by simp
  rw [ee];unfold RY;rw [e,List.head?_cons,if_neg (by simpa using g),if_neg (by simpa using a),if_neg (by simpa using b),<- e];unfold rwd;rw [hu];simp only [List.head?_cons,if_true,List.tail_cons];rw [if_neg (hws w (by simp)).1,hnum lo _ hlo (Vx (Od.cons (by simp))),Option.bind_some];unfold Yh;simp only [List.head?_cons,if_true,List.tail_cons];rw [Option.map_some,i];rw [h] at he;rw [he]
 ·obtain⟨rfl,rfl,rfl,rfl⟩:=f4 h;rw [if_neg (by omega),if_neg (by omega),if_neg (by omega),if_pos h];unfold quo RY;rw [List.append_assoc,List.cons_append,List.singleton_append,List.head?_cons,if_neg (by decide),if_neg (by decide),if_pos rfl,List.tail_cons,Q9];rw [h] at he;rw [he]
  rfl
 ·obtain⟨rfl,rfl,rfl,rfl⟩:=f5 h;rw [if_neg (by omega),if_neg (by omega),if_neg (by omega),if_neg (by omega),if_pos h];unfold RY;rw [List.append_assoc,List.singleton_append,List.head?_cons,if_pos rfl,List.tail_cons];unfold rpa;rw [KF hpp (Xt (hr.mono (by simp))),if_neg (fun h=>by have:=hr _ h;simp at this)];rw [h] at he;rw [he]
 ·obtain⟨rfl,rfl⟩:=f6 h;rw [if_neg (by omega),if_neg (by omega),if_neg (by omega),if_neg (by omega),if_neg (by omega),if_pos h];have ee:(((([47]++p)++[61])++Lib.itoa lo)++[46,46])++Lib.itoa hi++rest=47::(p++61::(Lib.itoa lo++46::46::(Lib.itoa hi++rest))):=by simp
  rw [ee];unfold RY;rw [List.head?_cons,if_pos rfl,List.tail_cons];unfold rpa;rw [KF hpp (Xt (Od.cons (by simp)))];simp only [List.head?_cons,if_true,List.tail_cons];obtain⟨c,r,j,k,_⟩:=Pg lo
  rw [if_neg (by
   rw [j];intro e;simp at e;subst e
   rcases k with h | h
   ·unfold R8 at h;revert h;decide
   ·revert h;decide)]
  rw [hnum lo _ hlo (Vx (Od.cons (by simp))),Option.bind_some];simp only [List.head?_cons,List.tail_cons,and_self,if_true];rw [hnum hi _ hhi (Vx (hr.mono (by simp)))];rw [h] at he;rw [he]
  rfl
 ·obtain⟨rfl,rfl,rfl⟩:=f7 h;rw [if_neg (by omega),if_neg (by omega),if_neg (by omega),if_neg (by omega),if_neg (by omega),if_neg (by omega),if_pos h];have ee:(([47]++p)++[61])++quo dd++rest=47::(p++61::39::(dd.flatMap Ww++39::rest)):=by simp [quo]
  rw [ee];unfold RY;rw [List.head?_cons,if_pos rfl,List.tail_cons];unfold rpa;rw [KF hpp (Xt (Od.cons (by simp)))];simp only [List.head?_cons,if_true,List.tail_cons];rw [Q9];rw [h] at he;rw [he]
  rfl
theorem AaB{num:List UInt8->Option (Int×List UInt8)}(hnum:Aa9 num){d:Nat}{q:Qv}(hq:Sq q)(hv:Vq d q){n:Nat}(hn:2 * d<=n):RW (MQ (RY num) n) (tx d q)=some (q,[]):=by
 have:=(Tt (AdG hnum) Yj d q hq hv).2.2 n [] (by omega) (fun _ _=>hn) (fun c hc=>by cases hc)
 rwa [List.append_nil] at this
end Go.Proofs.YtekmbcbgknmhiaaGreatDoor
end
noncomputable section
namespace Go.L
open Go
def Dp:Nat->Qv->Prop
 | 0,_=>False
 | n+1,q=>∀ s∈q.f.2.2.2.2.2.2,Dp n s
end Go.L
namespace Go.Proofs.YtekmbcbgknmhiaaGreatDoor
open Go Go.L
theorem Vq.dp:∀ {n:Nat} {q:Qv},Vq n q->Dp n q
 | 0,_,h=>h.elim
 | _+1,_,h=>fun s hs=>Vq.dp (h.2 s hs)
theorem Sq.mk{k:Int}{ss:List Qv}(hl:ss.length<=1048576)(h:∀ s∈ss,Sq s):Sq (.mk k [] [] [] 0 0 ss):=fun d=>by
 cases d with
 | zero=>exact trivial
 | succ d=>exact⟨by simp [Qf],by simp [Qf],by simp [Qf],hl,by simp [Qf],(show B0 0 from⟨by decide,by decide⟩),(show B0 0 from⟨by decide,by decide⟩),fun s hs=>h s hs d⟩
theorem Xu(l:List (List UInt8))(hl:l.length<=1000000000):Kv l l=some true:=by
 unfold Kv K7;rw [if_pos rfl];refine QM (fun i=>(i:Int)) l.length (fun i hi=>?_) ?_ 0 (by omega)
 ·unfold GR;rw [if_pos (by omega),Al ⟨by omega,by omega⟩,Al ⟨by omega,by omega⟩,if_pos rfl,Al (by constructor <;> omega)]
  rfl
 ·unfold GR Je;rw [if_neg (by omega)]
theorem AaC:∀ (n:Nat) (q:Qv),Sq q->Dp n q->∀ m,n<=m->El m q q=some true
 | 0,_,_,h,_,_=>h.elim
 | n+1,q,hq,hd,m,hm=>by
  obtain⟨m,rfl⟩:∃ k,m=k+1:=⟨m - 1,by omega⟩;have hl:=hq.len
  show Di _ q q=_
  unfold Di GQ;rw [if_neg (by simp),Option.bind_some,if_neg (by simp),Xu _ (by have:=hq.open.1;omega),Option.bind_some,if_neg (by simp)];refine QM (fun i=>(i:Int)) q.f.2.2.2.2.2.2.length (fun i hi=>?_) ?_ 0 (by omega)
  ·unfold CI;rw [if_pos (by omega),Al ⟨by omega,by omega⟩,Al ⟨by omega,by omega⟩,Int.toNat_natCast,AaC n _ (hq.sub (Rh hi)) (hd _ (Rh hi)) m (by omega),Option.bind_some,if_neg (by decide),Al (by constructor <;> omega)]
   rfl
  ·unfold CI DO;rw [if_neg (by omega)]
theorem AaD{n:Nat}{q:Qv}(hq:Sq q)(hd:Dp n q)(hn:n<=1000):DP q q=some true:=AaC n q hq hd 1000 hn
theorem AaE:DP (.mk 0 [] [] [] 0 0 []) (.mk 0 [] [] [] 0 0 [])=some true:=AaD (n:=1) (Sq.mk (by simp) (fun s hs=>by cases hs)) (fun s hs=>by cases hs) (by omega)
end Go.Proofs.YtekmbcbgknmhiaaGreatDoor
end
noncomputable section
namespace Go.L
open Go
theorem U0(sep:List UInt8):∀ (k:Nat) (s:List UInt8),(Lib.splitK sep 0 k s).length<=k+1/\∀ x∈Lib.splitK sep 0 k s,x.length<=s.length
 | 0,s=>⟨by simp [Lib.splitK],fun x hx=>by rw [Lib.splitK] at hx;rw [List.mem_singleton.1 hx];omega⟩
 | k+1,s=>by
  rw [Lib.splitK]
  split
  ·exact⟨by simp,fun x hx=>by rw [List.mem_singleton.1 hx];omega⟩
  ·obtain⟨a,h2⟩:=U0 sep k (s.drop ((Lib.index s sep).toNat+sep.length));refine⟨by rw [List.length_cons];omega,fun x hx=>?_⟩
   rcases List.mem_cons.1 hx with rfl | hx
   ·rw [List.length_take];omega
   ·have:=h2 x hx;rw [List.length_drop] at this;omega
theorem AaF(c:UInt8)(s:List UInt8):(Lib.split s [c]).length<=s.length+1/\∀ x∈Lib.split s [c],x.length<=s.length:=by
 obtain⟨b,h2⟩:=U0 [c] (Lib.count s [c]) s;refine⟨?_,h2⟩;have:=List.count_le_length (a:=c) (l:=s);rw [Lib.count_one] at b;unfold Lib.split;rw [Lib.count_one];omega
theorem Xv(p:UInt8->Bool):∀ r:List UInt8,(r.takeWhile p).length+(r.dropWhile p).length=r.length
 | []=>rfl
 | c::r=>by
  have:=Xv p r;rw [List.takeWhile_cons,List.dropWhile_cons]
  split
  ·simp only [List.length_cons];omega
  ·simp
theorem M9(cs r:List UInt8):(Nq cs r).1.length+(Nq cs r).2.length=r.length:=Xv _ r
theorem Ph(p:UInt8->Bool)(r:List UInt8):(GL p r).1.length+(GL p r).2.length=r.length:=Xv _ r
theorem BR{r:List UInt8}{c:UInt8}(h:r.head? = some c):r.tail.length+1=r.length:=by
 cases r with
 | nil=>cases h
 | cons a r=>rfl
theorem Pj:∀ (n:Nat) (r o:List UInt8) (x:List UInt8×List UInt8),r.length<=n->W0 r o=some x->x.1.length+x.2.length+1<=o.length+r.length
 | _,[],_,_,_,h=>by cases h
 | 0,_::_,_,_,hn,_=>by simp at hn
 | n+1,c::r,o,x,hn,h=>by
  rw [Nr] at h;simp only [List.length_cons] at hn ⊢
  split at h
  ·obtain rfl:=Option.some.inj h;simp only;omega
  split at h
  ·split at h
   ·split at h
    ·have:=Pj n _ _ x (by simp only [List.length_cons] at hn;omega) h;simp only [List.length_append,List.length_cons,List.length_nil] at this ⊢;omega
    ·cases h
   ·cases h
  ·have:=Pj n _ _ x (by omega) h;simp only [List.length_append,List.length_cons,List.length_nil] at this;omega
theorem AaG{l:List UInt8}{v:Int}(h:Lib.atoiAll l=.ok v):B0 v:=by
 unfold Lib.atoiAll at h
 split at h
 ·cases h
 ·simp only at h
  split at h
  ·cases h
  ·cases h
  ·rename_i u hu
   split at h
   ·cases h
   split at h
   ·cases h
   ·injection h with h
    subst h;unfold B0
    split <;> constructor <;> omega
def AaH(num:List UInt8->Option (Int×List UInt8)):Prop:=∀ r x,num r=some x->B0 x.1/\x.2.length<=r.length
theorem QA:AaH RX:=fun r x h=>by
 unfold RX at h
 split at h
 ·rename_i v hv;obtain rfl:=Option.some.inj h;exact⟨AaG hv,by simp only [List.length_drop];omega⟩
 ·cases h
theorem Sp{c:UInt8}{r t:List UInt8}(h:Yh c r=some t):t.length+1=r.length:=by
 unfold Yh at h
 split at h
 ·rename_i e;obtain rfl:=Option.some.inj h;exact BR e
 ·cases h
end Go.L
namespace Go.Proofs.YtekmbcbgknmhiaaGreatDoor
open Go Go.L
theorem Sq.leaf{k:Int}{ws:List (List UInt8)}{p d:List UInt8}{l h:Int}(a:ws.length<=1048576)(h2:p.length<=1048576)(h3:d.length<=1048576)(b:∀ x∈ws,x.length<=1048576)(c:B0 l)(e:B0 h):Sq (.mk k ws p d l h []):=fun n=>by
 cases n with
 | zero=>exact trivial
 | succ n=>exact⟨a,h2,h3,by simp [Qf],b,c,e,fun s hs=>by simp [Qf] at hs⟩
def Px(lf:List UInt8->Option (Qv×List UInt8)):Prop:=∀ r x,r.length<=1000000->lf r=some x->Sq x.1/\x.2.length<=r.length
theorem z64:B0 0:=⟨by decide,by decide⟩
theorem Gk{α β:Type}{o:Option α}{f:α->β}{y:β}(h:o.map f=some y):∃ x,o=some x/\f x=y:=Option.map_eq_some_iff.1 h
theorem I2{α β:Type}{o:Option α}{f:α->Option β}{y:β}(h:o.bind f=some y):∃ x,o=some x/\f x=some y:=Option.bind_eq_some_iff.1 h
theorem Tx:Px Sn:=fun r x hr h=>by
 unfold Sn at h
 split at h
 ·rename_i e;have ht:=BR e;obtain⟨t,a,rfl⟩:=Gk h;have:=Sp a;have hu:=M9 [34] r.tail;obtain⟨s1,f⟩:=AaF 32 (Nq [34] r.tail).1;exact⟨Sq.leaf (by omega) (by simp) (by simp) (fun y hy=>by have:=f y hy;omega) z64 z64,by simp only;omega⟩
 split at h
 ·rename_i e;have ht:=BR e;obtain⟨t,a,rfl⟩:=Gk h;have:=Pj _ _ _ _ (Nat.le_refl _) a;simp only [List.length_nil] at this;exact⟨Sq.leaf (by simp) (by simp) (by omega) (by simp) z64 z64,by simp only;omega⟩
 split at h
 ·rename_i e;have ht:=BR e;unfold ppa at h;have hu:=M9 [61,38,124,41] r.tail
  split at h
  ·rename_i g;have l:=BR g
   split at h
   ·rename_i i;have m:=BR i;obtain⟨t,a,rfl⟩:=Gk h;have:=Pj _ _ _ _ (Nat.le_refl _) a;simp only [List.length_nil] at this;exact⟨Sq.leaf (by simp) (by omega) (by omega) (by simp) z64 z64,by simp only;omega⟩
   ·obtain⟨t,a,h2⟩:=I2 h;obtain⟨b,j⟩:=QA _ _ a
    split at h2
    ·rename_i c;have n:=BR c.1;have o:=BR c.2;obtain⟨d,h3,rfl⟩:=Gk h2;obtain⟨k,q⟩:=QA _ _ h3;exact⟨Sq.leaf (by simp) (by omega) (by simp) (by simp) b k,by simp only;omega⟩
    ·cases h2
  ·obtain rfl:=Option.some.inj h;exact⟨Sq.leaf (by simp) (by omega) (by simp) (by simp) z64 z64,by simp only;omega⟩
 ·unfold pwd at h;have hu:=M9 [126,38,124,41] r
  split at h
  ·rename_i e;have ht:=BR e;obtain⟨t,a,h2⟩:=I2 h;obtain⟨b,j⟩:=QA _ _ a;obtain⟨d,h3,rfl⟩:=Gk h2;have:=Sp h3;have p:=M9 [126,38,124,41] d;refine⟨Sq.leaf (by simp) (by simp) (by simp) (fun y hy=>?_) b z64,by simp only;omega⟩;simp only [List.mem_cons,List.not_mem_nil,or_false] at hy
   rcases hy with rfl | rfl <;> omega
  ·obtain rfl:=Option.some.inj h;refine⟨Sq.leaf (by simp) (by simp) (by simp) (fun y hy=>?_) z64 z64,by simp only;omega⟩;simp only [List.mem_cons,List.not_mem_nil,or_false] at hy;subst hy;omega
theorem AaI:∀ (k:Nat) (l:List (List UInt8)) (r:List UInt8) (x:List (List UInt8)×List UInt8) (B:Nat),(∀ y∈l,y.length<=B)->r.length<=B->rph k l r=some x->x.1.length+x.2.length<=l.length+r.length/\∀ y∈x.1,y.length<=B
 | 0,_,_,_,_,_,_,h=>by cases h
 | k+1,l,r,x,B,hl,hr,h=>by
  rw [rph] at h;have hu:=Ph KU r
  have hl':∀ y∈l++[(GL KU r).1],y.length<=B:=fun y hy=>by
   rcases List.mem_append.1 hy with hy | hy
   ·exact hl y hy
   ·rw [List.mem_singleton.1 hy];omega
  split at h
  ·rename_i e;have:=BR e;obtain rfl:=Option.some.inj h;exact⟨by simp only [List.length_append,List.length_cons,List.length_nil];omega,hl'⟩
  split at h
  ·rename_i e;have:=BR e;obtain⟨a,h2⟩:=AaI k _ _ x B hl' (by omega) h;simp only [List.length_append,List.length_cons,List.length_nil] at a;exact⟨by omega,h2⟩
  ·cases h
theorem Vy{num:List UInt8->Option (Int×List UInt8)}(hnum:AaH num):Px (RY num):=fun r x hr h=>by
 unfold RY at h
 split at h
 ·rename_i e;have ht:=BR e;unfold rpa at h;have hu:=Ph TS r.tail
  split at h
  ·rename_i f;have l:=BR f
   split at h
   ·rename_i g;have m:=BR g;obtain⟨t,a,rfl⟩:=Gk h;have:=Pj _ _ _ _ (Nat.le_refl _) a;simp only [List.length_nil] at this;exact⟨Sq.leaf (by simp) (by omega) (by omega) (by simp) z64 z64,by simp only;omega⟩
   ·obtain⟨t,a,h2⟩:=I2 h;obtain⟨b,i⟩:=hnum _ _ a
    split at h2
    ·rename_i c;have n:=BR c.1;have o:=BR c.2;obtain⟨d,h3,rfl⟩:=Gk h2;obtain⟨j,q⟩:=hnum _ _ h3;exact⟨Sq.leaf (by simp) (by omega) (by simp) (by simp) b j,by simp only;omega⟩
    ·cases h2
  ·obtain rfl:=Option.some.inj h;exact⟨Sq.leaf (by simp) (by omega) (by simp) (by simp) z64 z64,by simp only;omega⟩
 split at h
 ·rename_i e;have ht:=BR e;obtain⟨t,a,rfl⟩:=Gk h;obtain⟨s1,k⟩:=AaI _ _ _ _ 1000000 (by simp) (by omega) a;simp only [List.length_nil] at s1;exact⟨Sq.leaf (by omega) (by simp) (by simp) (fun y hy=>by have:=k y hy;omega) z64 z64,by simp only;omega⟩
 split at h
 ·rename_i e;have ht:=BR e;obtain⟨t,a,rfl⟩:=Gk h;have:=Pj _ _ _ _ (Nat.le_refl _) a;simp only [List.length_nil] at this;exact⟨Sq.leaf (by simp) (by simp) (by omega) (by simp) z64 z64,by simp only;omega⟩
 ·unfold rwd at h;have hu:=Ph KU r
  split at h
  ·cases h
  split at h
  ·rename_i e;have ht:=BR e;obtain⟨t,a,h2⟩:=I2 h;obtain⟨b,i⟩:=hnum _ _ a;obtain⟨d,h3,rfl⟩:=Gk h2;have:=Sp h3;have p:=Ph KU d;refine⟨Sq.leaf (by simp) (by simp) (by simp) (fun y hy=>?_) b z64,by simp only;omega⟩;simp only [List.mem_cons,List.not_mem_nil,or_false] at hy
   rcases hy with rfl | rfl <;> omega
  ·obtain rfl:=Option.some.inj h;refine⟨Sq.leaf (by simp) (by simp) (by simp) (fun y hy=>?_) z64 z64,by simp only;omega⟩;simp only [List.mem_cons,List.not_mem_nil,or_false] at hy;subst hy;omega
theorem AaJ{one:List UInt8->Option (Qv×List UInt8)}(a:Px one){sg:UInt8}:∀ (k:Nat) (l:List Qv) (r:List UInt8) (x:List Qv×List UInt8),r.length<=1000000->(∀ s∈l,Sq s)->Tp one sg k l r=some x->x.1.length+x.2.length<=l.length+r.length/\x.2.length<=r.length/\∀ s∈x.1,Sq s
 | 0,_,_,_,_,_,h=>by cases h
 | k+1,l,r,x,hr,hl,h=>by
  rw [Tp] at h
  split at h
  ·rename_i e;have ht:=BR e;obtain⟨y,h2,h3⟩:=I2 h;obtain⟨s1,d⟩:=a _ _ (by omega) h2
   obtain⟨b,f,c⟩:=AaJ a k _ _ x (by omega) (fun s hs=>by
    rcases List.mem_append.1 hs with hs | hs
    ·exact hl s hs
    ·rw [List.mem_singleton.1 hs];exact s1) h3
   simp only [List.length_append,List.length_cons,List.length_nil] at b;exact⟨by omega,by omega,c⟩
  ·obtain rfl:=Option.some.inj h;exact⟨Nat.le_refl _,Nat.le_refl _,hl⟩
theorem Rl{one:List UInt8->Option (Qv×List UInt8)}(a:Px one){kind:Int}{sg:UInt8}:Px (V8 one kind sg):=fun r x hr h=>by
 unfold V8 at h;obtain⟨y,h2,h3⟩:=I2 h;obtain⟨s1,e⟩:=a _ _ hr h2;obtain⟨z,b,rfl⟩:=Gk h3;obtain⟨c,f,d⟩:=AaJ a _ _ _ z (by omega) (fun s hs=>by rw [List.mem_singleton.1 hs];exact s1) b;simp only [List.length_cons,List.length_nil] at c;refine⟨?_,by simp only;omega⟩;simp only
 split
 ·exact s1
 ·exact Sq.mk (by omega) d
theorem Rm{lf:List UInt8->Option (Qv×List UInt8)}(a:Px lf):∀ n,Px (MQ lf n)
 | 0=>fun r x hr h=>by cases h
 | n+1=>fun r x hr h=>by
  have ih:=Rm a n;rw [MQ] at h
  split at h
  ·rename_i e;have ht:=BR e;obtain⟨y,h2,rfl⟩:=Gk h;obtain⟨s1,b⟩:=ih _ _ (by omega) h2;exact⟨Sq.mk (by simp) (fun s hs=>by rw [List.mem_singleton.1 hs];exact s1),by simp only;omega⟩
  split at h
  ·rename_i e;have ht:=BR e;obtain⟨y,h2,h3⟩:=I2 h;obtain⟨s1,b⟩:=Rl (Rl ih) _ _ (by omega) h2
   split at h3
   ·rename_i c;have d:=BR c;obtain rfl:=Option.some.inj h3;exact⟨s1,by simp only;omega⟩
   ·cases h3
  ·exact a r x hr h
theorem Ty{lf:List UInt8->Option (Qv×List UInt8)}(a:Px lf)(n:Nat):Px (RW (MQ lf n)):=Rl (Rl (Rm a n))
end Go.Proofs.YtekmbcbgknmhiaaGreatDoor
end
noncomputable section
namespace Go.L
open Go
def T8{α:Type}(k:Int)(o:Option (α×List UInt8)):Option (Option (α×(List UInt8×Int))):=some (o.map fun x=>(x.1,(x.2,k)))
theorem AdH{r:List UInt8}{c:UInt8}:r.head? = some c↔∃ t,r=c::t:=by
 cases r with
 | nil=>simp
 | cons a t=>simp
end Go.L
namespace Go.Proofs.YtekmbcbgknmhiaaGreatDoor
open Go Go.L
theorem ON{c:UInt8}{r:List UInt8}{k:Int}(h:r.head? = some c):Bl (r,k) [c]=some (true,(r.tail,k)):=by
 obtain⟨t,rfl⟩:=AdH.1 h;unfold Bl DQ BM BL;simp only [List.length_cons,List.length_nil];have:decide (List.take (((0+1:Nat):Int).toNat) (c::t)=[c])=true:=decide_eq_true rfl;rw [if_pos (by omega),Al (by omega),Al (by omega),this]
 rfl
theorem NV{c:UInt8}{r:List UInt8}{k:Int}(h:r.head?≠some c):Bl (r,k) [c]=some (false,(r,k)):=by
 unfold Bl DQ BM BL;simp only [List.length_cons,List.length_nil]
 cases r with
 | nil=>rfl
 | cons a t=>
  rw [if_pos (by simp only [List.length_cons];omega),Al (by simp only [List.length_cons];omega)]
  have:decide (List.take (((0+1:Nat):Int).toNat) (a::t)=[c])=false:=by
   rw [decide_eq_false_iff_not];intro e;exact h (by rw [List.head?_cons,(List.cons.inj e).1])
  rw [this]
  rfl
theorem AaK{c:UInt8}{r:List UInt8}{k:Int}:B7 (r,k) [c]=some ((Yh c r).map fun t=>(t,k)):=by
 unfold B7 Yh
 by_cases h:r.head? = some c
 ·rw [ON h,if_pos h]
  rfl
 ·rw [NV h,if_neg h]
  rfl
theorem Ae4{c d:UInt8}{r:List UInt8}{k:Int}:B7 (r,k) [c,d]=some (if r.head? = some c/\r.tail.head? = some d then some (r.tail.tail,k) else none):=by
 unfold B7 Bl DQ BM BL;simp only [List.length_cons,List.length_nil]
 rcases r with _ | ⟨a,_ | ⟨b,t⟩⟩
 ·rfl
 ·rw [if_neg (by simp),if_neg (by simp)]
  rfl
 ·rw [if_pos (by simp only [List.length_cons];omega),Al (by simp only [List.length_cons];omega)]
  by_cases h:a=c/\b=d
  ·obtain⟨rfl,rfl⟩:=h;rw [Al (by simp only [List.length_cons];omega),if_pos ⟨rfl,rfl⟩];have:decide (List.take (((0+1+1:Nat):Int).toNat) (a::b::t)=[a,b])=true:=decide_eq_true rfl;rw [this]
   rfl
  ·have:decide (List.take (((0+1+1:Nat):Int).toNat) (a::b::t)=[c,d])=false:=by
    rw [decide_eq_false_iff_not];intro e;have f:=List.cons.inj e;exact h ⟨f.1,(List.cons.inj f.2).1⟩
   rw [this,if_neg (fun e=>h ⟨Option.some.inj e.1,Option.some.inj e.2⟩)]
   rfl
theorem Ae5{cs r:List UInt8}:(if Lib.indexAny r cs<0 then(r.length:Int) else Lib.indexAny r cs)=((Nq cs r).1.length:Int):=by
 induction r with
 | nil=>rfl
 | cons b r ih=>
  have hge:=Lib.indexAny_ge cs r;unfold Nq at ih ⊢;simp only at ih ⊢;rw [Lib.indexAny,List.takeWhile_cons]
  by_cases hb:cs.contains b=true
  ·rw [hb];rfl
  ·rw [Bool.not_eq_true] at hb;rw [hb];simp only [Bool.not_false,if_true,List.length_cons,Bool.false_eq_true,if_false]
   by_cases a:Lib.indexAny r cs = -1
   ·rw [a] at ih ⊢;rw [if_pos (by decide)] at ih;rw [if_pos (by decide)]
    push_cast
    omega
   ·have h2:(Lib.indexAny r cs == -1)=false:=by simpa using a
    rw [h2];rw [if_neg (by omega)] at ih;simp only [Bool.false_eq_true,if_false];rw [if_neg (by omega)]
    push_cast
    omega
theorem Ac1(cs r:List UInt8):(Nq cs r).1++(Nq cs r).2=r:=List.takeWhile_append_dropWhile
theorem QB{cs r:List UInt8}{k:Int}(hr:r.length<=1000000)(hc:sgn cs\/cs=[34]):Cn (r,k) cs=some ((Nq cs r).1,((Nq cs r).2,k)):=by
 unfold Cn Dd;rw [any_eq hr hc,Option.bind_some];have h:=Ae5 (cs:=cs) (r:=r);have hl:=M9 cs r;have hcat:=Ac1 cs r
 have key:∀ n:Int,n=((Nq cs r).1.length:Int)->Go.L.AS (0<=n/\n<=(r.length:Int)) (Go.L.AS (0<=n/\n<=(r.length:Int)) (some (r.take n.toNat,(r.drop n.toNat,k))))=some ((Nq cs r).1,((Nq cs r).2,k)):=fun n hn=>by
  rw [Al (by omega),Al (by omega),hn,Int.toNat_natCast];generalize (Nq cs r).1=a at *;generalize (Nq cs r).2=b at *;subst hcat;rw [List.take_left',List.drop_left'] <;> rfl
 split
 ·rename_i c;rw [if_pos c] at h;exact key _ h
 ·rename_i c;rw [if_neg c] at h;exact key _ h
theorem AaL:∀ r:List UInt8,dln r<=r.length
 | []=>Nat.le_refl _
 | c::r=>by
  have:=AaL r;unfold dln
  split <;> simp <;> omega
theorem AdI(r:List UInt8):nln r<=r.length:=by
 cases r with
 | nil=>exact Nat.le_refl _
 | cons c r=>
  have:=AaL r;rw [nln]
  split <;> simp <;> omega
theorem Yl{r:List UInt8}{k:Int}(hr:r.length<=1000000):∀ (d i:Nat),d+i=r.length->1<=i->C5 (r,k) (i:Int)=BE (r,k) ((i+dln (r.drop i):Nat):Int)
 | 0,i,h,_=>by
  refine Bh ?_;unfold B9;rw [if_neg (by simp only;omega),List.drop_eq_nil_of_le (by omega)]
  rfl
 | d+1,i,h,b=>by
  have hi:i<r.length:=by omega
  have hg:r.getD ((i:Int)).toNat default=r[i]:=by rw [Int.toNat_natCast,List.getD_eq_getElem?_getD,List.getElem?_eq_getElem hi];rfl
  rw [List.drop_eq_getElem_cons hi,dln]
  by_cases hd:48<=r[i].toNat/\r[i].toNat<=57
  ·have e:B9 (r,k) (i:Int)=some (.inl ((i+1:Nat):Int)):=by
    unfold B9;simp only;rw [if_pos (by omega),Al (by omega),hg,if_pos (by omega),Al (by omega),if_pos (by omega),Al (by unfold B0;omega)]
    rfl
   rw [if_pos hd];unfold C5;rw [B2 e];have:=Yl (k:=k) hr d (i+1) (by omega) (by omega);unfold C5 at this;rw [this,show i+1+dln (r.drop (i+1))=i+(dln (r.drop (i+1))+1) by omega]
  ·rw [if_neg hd];refine Bh ?_;unfold B9;simp only;rw [if_pos (by omega),Al (by omega),hg]
   by_cases a:48<=(r[i].toNat:Int)
   ·rw [if_pos a,Al (by omega),if_neg (by omega),if_neg (by omega)]
    rfl
   ·rw [if_neg a,if_neg (by omega)]
    rfl
theorem Rn{r:List UInt8}{k:Int}(hr:r.length<=1000000):Cc (r,k)=T8 k (RX r):=by
 have hk:Cc (r,k)=BE (r,k) (nln r:Int):=by
  unfold Cc
  cases r with
  | nil=>exact Bh (by rfl)
  | cons c t=>
   simp only [List.length_cons] at hr;have hn:=Yl (r:=c::t) (k:=k) (by simp only [List.length_cons];omega) t.length 1 (by simp) (by omega);rw [List.drop_succ_cons,List.drop_zero] at hn;have hg:(c::t).getD ((0:Int)).toNat default=c:=rfl;unfold C5 at hn ⊢;have hl:((c::t).length:Int)=t.length+1:=by simp
   by_cases hc:(48<=c.toNat/\c.toNat<=57)\/c=45
   ·have e:B9 (c::t,k) 0=some (.inl ((1:Nat):Int)):=by
     unfold B9;simp only;rw [hl,if_pos (by omega),Al (by omega),hg]
     by_cases a:48<=(c.toNat:Int)
     ·rw [if_pos a,Al (by omega)]
      by_cases b:(c.toNat:Int)<=57
      ·rw [if_pos b,Al (by unfold B0;omega)];rfl
      ·exfalso
       rcases hc with hc | rfl
       ·omega
       ·exact b (by decide)
     ·rw [if_neg a,if_pos True.intro,Al (by omega)];have:c=45:=hc.resolve_left (by omega);rw [if_pos (by rw [this];rfl),Al (by unfold B0;omega)];rfl
    rw [B2 e,hn,nln,if_pos hc,Nat.add_comm]
   ·rw [nln,if_neg hc];refine Bh ?_;unfold B9;simp only;rw [hl,if_pos (by omega),Al (by omega),hg];have d : ¬ (c.toNat:Int)=45:=fun e=>hc (.inr (UInt8.toNat_inj.1 (by have:(45:UInt8).toNat=45:=rfl;omega)))
    by_cases a:48<=(c.toNat:Int)
    ·rw [if_pos a,Al (by omega),if_neg (by omega),if_pos True.intro,Al (by omega),if_neg d]
     rfl
    ·rw [if_neg a,if_pos True.intro,Al (by omega),if_neg d]
     rfl
 have hle:=AdI r;rw [hk];unfold BE D8 RX T8 XW;simp only;rw [Al (by omega),Int.toNat_natCast,Al (by rw [List.length_take];omega),Option.bind_some]
 cases Lib.atoiAll (r.take (nln r)) with
 | ok v=>
  simp only [if_true];rw [Al (by omega)]
  rfl
 | range=>rfl
 | _=>rfl
end Go.Proofs.YtekmbcbgknmhiaaGreatDoor
end
noncomputable section
namespace Go.L
open Go
def Py(c:UInt8):Bool:=decide (48<=c.toNat/\c.toNat<=57)||decide (c=45)
def Zf(n:Int)(c:UInt8):Int:=if c=45 then n else IntKind.i64.wrap (IntKind.i64.wrap (10 * n) - ((c.toNat:Int) - 48))
def YY(t:List UInt8):Int:=if t.getD 0 45=45 then t.foldl Zf 0 else IntKind.i64.wrap (-(t.foldl Zf 0))
def TT(r:List UInt8):Option (Int×List UInt8):=if Lib.itoa (YY (GL Py r).1)=(GL Py r).1 then some (YY (GL Py r).1,(GL Py r).2) else none
theorem Vz{n:Int}(h:B0 n):IntKind.i64.wrap n=n:=by
 have a:=h.1;have h2:=h.2;rw [IntKind.wrap_i64];omega
theorem W2(n:Int):B0 (IntKind.i64.wrap n):=by
 rw [IntKind.wrap_i64];unfold B0;omega
theorem W3(u:Nat):u<=9223372036854775808->(Lib.decDigits u).foldl Zf 0 = -(u:Int):=by
 induction u using Nat.strongRecOn with
 | ind u ih=>
  intro hu
  have b:∀ (a:Nat) (k:Nat),k<10->10 * a+k<=9223372036854775808->Zf (-(a:Int)) (UInt8.ofNat (48+k)) = -((10 * a+k:Nat):Int):=by
   intro a k hk hb
   have hne:UInt8.ofNat (48+k)≠45:=fun e=>by
    have:=OM hk;rw [e] at this;have c:(45:UInt8).toNat=45:=rfl;omega
   unfold Zf;rw [if_neg hne,OM hk,Vz (n:=10 * -(a:Int)) ⟨by omega,by omega⟩,Vz ⟨by omega,by omega⟩];omega
  rw [Lib.decDigits]
  by_cases h:u<10
  ·rw [dif_pos h];have:=b 0 u h (by omega);simp only [List.foldl_cons,List.foldl_nil];rw [show(0:Int) = -((0:Nat):Int) from rfl,this];omega
  ·rw [dif_neg h,List.foldl_append,ih (u / 10) (by omega) (by omega)];simp only [List.foldl_cons,List.foldl_nil];rw [b _ _ (by omega) (by omega)]
   congr 2
   omega
theorem AdJ{c:UInt8}(h:R8 c):c≠45:=fun e=>by
 subst e
 revert h
 unfold R8
 decide
theorem AaM{c:UInt8}(h:R8 c\/c=45):Py c=true:=by
 unfold Py
 rcases h with h | h
 ·unfold R8 at h;simp [h]
 ·simp [h]
theorem AaN{n:Int}(h:B0 n):YY (Lib.itoa n)=n:=by
 have a:=h.1;have h2:=h.2;unfold Lib.itoa
 split
 ·unfold YY;rw [if_pos (by rfl)];simp only [List.foldl_cons];rw [show Zf 0 45=0 from rfl,W3 _ (by omega)];omega
 ·obtain⟨e,hd⟩:=Q7 n.toNat;unfold YY;rw [if_neg,W3 _ (by omega),Vz ⟨by omega,by omega⟩]
  ·omega
  ·obtain⟨c,r,e⟩:=List.exists_cons_of_ne_nil e;rw [e] at hd ⊢;exact AdJ (hd c (List.mem_cons_self ..))
theorem AaO(t:List UInt8):B0 (t.foldl Zf 0)/\B0 (YY t):=by
 have key:∀ (t:List UInt8) (a:Int),B0 a->B0 (t.foldl Zf a):=by
  intro t
  induction t with
  | nil=>intro a h;exact h
  | cons c t ih=>
   intro a h;refine ih _ ?_;unfold Zf
   split
   ·exact h
   ·exact W2 _
 have b:=key t 0 ⟨by decide,by decide⟩;refine⟨b,?_⟩;unfold YY
 split
 ·exact b
 ·exact W2 _
end Go.L
namespace Go.Proofs.YtekmbcbgknmhiaaGreatDoor
open Go Go.L
theorem AdK:Aa9 TT:=fun n rest hn hr=>by
 have:GL Py (Lib.itoa n++rest)=(Lib.itoa n,rest):=by
  refine KF (fun c hc=>?_) (fun c hc=>?_)
  ·obtain⟨b,r,e,hb,hd⟩:=Pg n;rw [e] at hc
   rcases List.mem_cons.1 hc with rfl | hc
   ·exact AaM hb
   ·exact AaM (.inl (hd c hc))
  ·obtain⟨a,b⟩:=hr c hc;unfold R8 at a;unfold Py;simp [a,b]
 unfold TT;rw [this];simp only;rw [AaN hn,if_pos rfl]
theorem V0:AaH TT:=fun r x h=>by
 unfold TT at h
 split at h
 ·obtain rfl:=Option.some.inj h;exact⟨(AaO _).2,by have:=Ph Py r;simp only;omega⟩
 ·cases h
end Go.Proofs.YtekmbcbgknmhiaaGreatDoor
end
noncomputable section
namespace Go.Proofs.YtekmbcbgknmhiaaGreatDoor
open Go Go.L
def acc(p:List UInt8->Option (Qv×List UInt8))(s:List UInt8):Option Qv:=(p s).bind fun x=>if x.2=[]/\(Ye x.1).1=0/\tx 8 x.1=s then some x.1 else none
theorem Tz{p:List UInt8->Option (Qv×List UInt8)}(hp:Px p){s:List UInt8}(hs:s.length<=1000000){q:Qv}(h:acc p s=some q):Sq q/\(Ye q).1=0/\tx 8 q=s:=by
 obtain⟨x,hx,h⟩:=I2 h
 split at h
 ·rename_i a;obtain rfl:=Option.some.inj h;exact⟨(hp s x hs hx).1,a.2.1,a.2.2⟩
 ·cases h
theorem W4{p:List UInt8->Option (Qv×List UInt8)}{q:Qv}(h:p (tx 8 q)=some (q,[]))(hv:(Ye q).1=0):acc p (tx 8 q)=some q:=by
 unfold acc;rw [h,Option.bind_some,if_pos ⟨rfl,hv,rfl⟩]
theorem AdL{s:List UInt8}(hs:s.length<=1000000):acc (RW (MQ Sn 201)) s=acc (RW (MQ (RY TT) 201)) s:=by
 cases h:acc (RW (MQ Sn 201)) s with
 | some q=>
  obtain⟨a,h2,rfl⟩:=Tz (Ty Tx 201) hs h;rw [W4 (AaB AdK a (Tn h2).1 (by omega)) h2]
 | none=>
  cases h':acc (RW (MQ (RY TT) 201)) s with
  | none=>rfl
  | some q=>
   obtain⟨a,h2,rfl⟩:=Tz (Ty (Vy V0) 201) hs h';rw [W4 (YX a (Tn h2).1 (by omega)) h2] at h
   cases h
end Go.Proofs.YtekmbcbgknmhiaaGreatDoor
end
noncomputable section
namespace Go.L
open Go
def Ps{α:Type}(s:List UInt8)(o:Option (α×List UInt8))(R:Option (α×Int)):Prop:=match o with
 | some y=>∃ e:Nat,e<=s.length/\y.2=s.drop e/\R=some (y.1,(e:Int))
 | none=>∃ g,R=some (g,-1)
theorem GM{s:List UInt8}{i:Nat}{c:UInt8}(h:(s.drop i).head? = some c):i<s.length/\s.getD i default=c/\(s.drop i).tail=s.drop (i+1)/\s.drop i=c::s.drop (i+1):=by
 have hi:i<s.length:=by
  apply Nat.lt_of_not_le;intro e;rw [List.drop_eq_nil_of_le e] at h
  cases h
 rw [List.drop_eq_getElem_cons hi] at h ⊢;have hc:s[i]=c:=Option.some.inj h;refine⟨hi,?_,rfl,by rw [hc]⟩;rw [List.getD_eq_getElem?_getD,List.getElem?_eq_getElem hi];exact hc
theorem drop_at{s:List UInt8}{i:Nat}(h:i<s.length):s.drop i=s.getD i default::s.drop (i+1):=by
 rw [List.drop_eq_getElem_cons h,List.getD_eq_getElem?_getD,List.getElem?_eq_getElem h]
 rfl
theorem T0{p:UInt8->Bool}{s:List UInt8}{i:Nat}(h:i<=s.length):i+(GL p (s.drop i)).1.length<=s.length/\(s.drop i).take (GL p (s.drop i)).1.length=(GL p (s.drop i)).1/\s.drop (i+(GL p (s.drop i)).1.length)=(GL p (s.drop i)).2:=by
 have hl:=Ph p (s.drop i);have hc:(GL p (s.drop i)).1++(GL p (s.drop i)).2=s.drop i:=List.takeWhile_append_dropWhile;rw [List.length_drop] at hl;refine⟨by omega,?_,?_⟩
 ·conv=>lhs;rw [<- hc]
  rw [List.take_left'];rw [hc]
 ·rw [<- List.drop_drop]
  conv=>lhs;rw [<- hc]
  rw [List.drop_left'];rw [hc]
theorem AaP(p:UInt8->Bool)(c:UInt8)(r:List UInt8):GL p (c::r)=if p c=true then(c::(GL p r).1,(GL p r).2) else([],c::r):=by
 unfold GL;rw [List.takeWhile_cons,List.dropWhile_cons]
 cases p c <;> rfl
end Go.L
namespace Go.Proofs.YtekmbcbgknmhiaaGreatDoor
open Go Go.L
theorem MA{s:List UInt8}{i:Nat}{c:UInt8}(hi:i<=s.length)(hs:s.length<=1000000):CO s (i:Int) [c]=some (decide ((s.drop i).head? = some c)):=by
 unfold CO;simp only [List.length_cons,List.length_nil];rw [Al (by unfold B0;omega)]
 by_cases h:i<s.length
 ·rw [if_pos (by omega),Al (by unfold B0;omega),Al (by omega),Int.toNat_natCast,drop_at h]
  congr 1
  rw [List.head?_cons,decide_eq_decide,show(((i:Int)+((0+1:Nat):Int)).toNat - i)=1 by omega];simp
 ·rw [if_neg (by omega),List.drop_eq_nil_of_le (by omega)]
  rfl
theorem Ae6{s:List UInt8}{i:Nat}{c d:UInt8}(hi:i<=s.length)(hs:s.length<=1000000):CO s (i:Int) [c,d]=some (decide ((s.drop i).head? = some c/\(s.drop i).tail.head? = some d)):=by
 unfold CO;simp only [List.length_cons,List.length_nil];rw [Al (by unfold B0;omega)]
 by_cases h:i+1<s.length
 ·rw [if_pos (by omega),Al (by unfold B0;omega),Al (by omega),Int.toNat_natCast,drop_at (i:=i) (by omega),drop_at h]
  congr 1
  rw [List.head?_cons,List.tail_cons,List.head?_cons,decide_eq_decide,show(((i:Int)+((0+1+1:Nat):Int)).toNat - i)=2 by omega];simp
 ·rw [if_neg (by omega)]
  congr 1
  refine(decide_eq_false ?_).symm;rintro⟨a,h2⟩;obtain⟨_,_,e,_⟩:=GM a;rw [e] at h2;exact h (GM h2).1
def knd(k:Int):UInt8->Bool:=if k=2 then TS else if k=1 then Py else KU
theorem AaQ{s:List UInt8}{k:Int}(hk:k=0\/k=1\/k=2){i:Nat}(hs:s.length<=1000000)(hi:i<s.length):JW s k (i:Int)=if knd k (s.getD i default)=true then some (.inl ((i+1:Nat):Int)) else some (.inr (i:Int)):=by
 unfold JW Mw Mv;rw [if_pos (by omega),Al (by omega),Al (by unfold B0;omega),Int.toNat_natCast];generalize s.getD i default=c;have e:∀ (n:Nat) (d:UInt8),d.toNat=n->(((c.toNat:Int)=(n:Int))↔c=d):=fun n d h=>⟨fun h2=>UInt8.toNat_inj.1 (by omega),fun h2=>by rw [h2];omega⟩;have f:=e 47 47 rfl;have g:=e 35 35 rfl;have j:=e 42 42 rfl;have a:=e 45 45 rfl;have l:=e 95 95 rfl;have m:=e 46 46 rfl;have o:((48:Int)<=(c.toNat:Int)/\(c.toNat:Int)<=57)↔(48<=c.toNat/\c.toNat<=57):=by omega
 have p:((97:Int)<=(c.toNat:Int)/\(c.toNat:Int)<=122)↔(97<=c.toNat/\c.toNat<=122):=by omega
 simp only [Int.cast_ofNat_Int] at f g j a l m
 have fin:∀ (b:Bool) (B:UInt8->Bool),b=B c->(if(!b)=true then Option.map Sum.inr (some (i:Int)) else some (Sum.inl ((i:Int)+1)))=(if B c=true then some (.inl ((i+1:Nat):Int)) else some (.inr (i:Int)):Option (Int ⊕ Int)):=fun b B hb=>by
  rw [hb]
  cases B c <;> rfl
 rcases hk with rfl | rfl | rfl
 ·rw [if_neg (by decide),if_neg (by decide)];refine fin _ KU ?_;unfold KU;rw [Bool.eq_iff_iff];simp only [decide_eq_true_eq,Bool.or_eq_true];omega
 ·rw [if_pos rfl,if_neg (by decide)];refine fin _ Py ?_;unfold Py;rw [Bool.eq_iff_iff];simp only [decide_eq_true_eq,Bool.or_eq_true,a,o]
 ·rw [if_neg (by decide),if_pos rfl];refine fin _ TS ?_;unfold TS;rw [Bool.eq_iff_iff];simp only [decide_eq_true_eq,Bool.or_eq_true,f,g,j,a,l,m,o,p]
theorem run_eq{s:List UInt8}{k:Int}(hk:k=0\/k=1\/k=2)(hs:s.length<=1000000):∀ (d i:Nat),d+i=s.length->JX s (i:Int) k=some ((i+(GL (knd k) (s.drop i)).1.length:Nat):Int)
 | 0,i,h=>by
  unfold JX O9;rw [List.drop_eq_nil_of_le (by omega)];refine Bh (m:=some ((i:Nat):Int)) ?_;unfold JW;rw [if_neg (by omega)]
  rfl
 | d+1,i,h=>by
  have ih:=run_eq hk hs d (i+1) (by omega);have hb:=AaQ hk hs (i:=i) (by omega);unfold JX O9 at ih ⊢;rw [drop_at (by omega),AaP]
  by_cases hc:knd k (s.getD i default)=true
  ·rw [if_pos hc] at hb ⊢;rw [B2 hb,ih];simp only [List.length_cons]
   congr 2
   omega
  ·rw [if_neg hc] at hb ⊢;exact Bh (m:=some (i:Int)) hb
theorem W5{s:List UInt8}{at' e:Nat}(hs:s.length<=1000000)(he:e<=s.length):∀ (d i:Nat) (n:Int),d+i=e->(∀ c∈(s.drop i).take d,Py c=true)->KX s (at':Int) (e:Int) (n,(i:Int))=Jq s (at':Int) (e:Int) (((s.drop i).take d).foldl Zf n)
 | 0,i,n,h,_=>by
  refine Bh ?_;unfold ID;simp only;rw [if_neg (by omega)]
  rfl
 | d+1,i,n,h,hr=>by
  have hi:i<s.length:=by omega
  rw [drop_at hi,List.take_succ_cons] at hr ⊢;have hc:=hr _ (List.mem_cons_self ..);have ih:=fun n=>W5 (at':=at') hs he d (i+1) n (by omega) (fun c hc=>hr c (List.mem_cons_of_mem _ hc));unfold KX at ih ⊢;rw [List.foldl_cons,<- ih];refine B2 ?_;unfold ID;simp only;rw [if_pos (by omega),Al (by omega),Int.toNat_natCast];generalize s.getD i default=c at hc;unfold Py at hc;unfold Zf;have b:(45:UInt8).toNat=45:=rfl
  by_cases a:c=45
  ·rw [if_pos (by rw [a];rfl),Al (by unfold B0;omega),if_pos a]
   rfl
  ·rw [if_neg (fun e=>a (UInt8.toNat_inj.1 (by omega))),Al (by omega),Al (by unfold B0;omega),if_neg a];have f:(48:UInt8).toNat=48:=rfl;simp [a] at hc
   have:((c - 48:UInt8).toNat:Int)=(c.toNat:Int) - 48:=by
    rw [UInt8.toNat_sub_of_le _ _ (by rw [UInt8.le_iff_toNat_le];omega)];omega
   rw [this]
   rfl
theorem PZ{s:List UInt8}{i:Nat}(hs:s.length<=1000000)(hi:i<=s.length):Ps s (TT (s.drop i)) (Hy s (i:Int)):=by
 have hk:knd 1=Py:=rfl;obtain⟨d,h2,h3⟩:=T0 (p:=Py) hi
 have hr:Hy s (i:Int)=(if Lib.itoa (YY (GL Py (s.drop i)).1)=(GL Py (s.drop i)).1 then some (YY (GL Py (s.drop i)).1,((i+(GL Py (s.drop i)).1.length:Nat):Int)) else some (0,-1)):=by
  have hrnd:∀ c∈(GL Py (s.drop i)).1,Py c=true:=fun c hc=>by
   exact List.all_eq_true.1 List.all_takeWhile c hc
  unfold Hy;rw [run_eq (.inr (.inl rfl)) hs (s.length - i) i (by omega),hk,Option.bind_some,W5 hs d ((GL Py (s.drop i)).1.length) i 0 (by omega) (by rw [h2];exact hrnd),h2];have a:B0 (((GL Py (s.drop i)).1).foldl Zf 0)/\B0 (YY (GL Py (s.drop i)).1):=AaO _
  have b:∀ v:Int,B0 v->Gg s (i:Int) ((i+(GL Py (s.drop i)).1.length:Nat):Int) v=if Lib.itoa v=(GL Py (s.drop i)).1 then some (v,((i+(GL Py (s.drop i)).1.length:Nat):Int)) else some (0,-1):=fun v hv=>by
   unfold Gg;rw [NK hv,Option.bind_some,Al (by omega),Int.toNat_natCast,Int.toNat_natCast,show i+(GL Py (s.drop i)).1.length - i=(GL Py (s.drop i)).1.length by omega,h2]
  unfold Jq;generalize (GL Py (s.drop i)).1=t at *
  cases t with
  | nil=>
   rw [if_neg (by simp),b _ a.1]
   rfl
  | cons c t=>
   have hc:s.getD i default=c:=by
    have hlt:i<s.length:=by simp at d;omega
    rw [drop_at hlt] at h2
    simpa using (List.cons.inj h2).1
   simp only [List.length_cons] at d;rw [if_pos (by simp only [List.length_cons];omega),Al (by omega),Int.toNat_natCast,hc];unfold YY;have g:(45:UInt8).toNat=45:=rfl
   by_cases f:c=45
   ·rw [if_pos (by rw [f];rfl),b _ a.1,if_pos (show List.getD (c::t) 0 45=45 from f)]
   ·have:=a.2;unfold YY at this;rw [if_neg (show ¬ List.getD (c::t) 0 45=45 from f)] at this ⊢;rw [if_neg (fun e=>f (UInt8.toNat_inj.1 (by omega))),b _ this]
 unfold TT;rw [hr]
 by_cases h:Lib.itoa (YY (GL Py (s.drop i)).1)=(GL Py (s.drop i)).1
 ·rw [if_pos h,if_pos h];exact⟨_,d,h3.symm,rfl⟩
 ·rw [if_neg h,if_neg h];exact⟨_,rfl⟩
end Go.Proofs.YtekmbcbgknmhiaaGreatDoor
end
noncomputable section
namespace Go.Proofs.YtekmbcbgknmhiaaGreatDoor
open Go Go.L
theorem Ae7:∀ a b:Fin 16,Go.L.u8 ((((((a.val:Int) * 16).toNat ||| ((b.val:Int)).toNat:Nat)):Int))=UInt8.ofNat (16 * a.val+b.val):=by decide
theorem Xw(c:UInt8):QF c<16:=by
 have key:∀ (l:List UInt8) (c:UInt8),Lib.indexByte l c<l.length\/(l=[]/\Lib.indexByte l c = -1):=by
  intro l c
  induction l with
  | nil=>exact .inr ⟨rfl,rfl⟩
  | cons b l ih=>
   refine .inl ?_;unfold Lib.indexByte;simp only [List.length_cons]
   split
   ·omega
   ·split
    ·omega
    ·rcases ih with h | ⟨rfl,h⟩
     ·omega
     ·rw [h];simp
 have:=key [48,49,50,51,52,53,54,55,56,57,97,98,99,100,101,102] c;unfold QF;simp only [List.length_cons,List.length_nil] at this
 rcases this with h | ⟨h,_⟩
 ·omega
 ·cases h
theorem V1{k:Int}:∀ (n:Nat) (r o:List UInt8),r.length<=n->o.length+r.length<=2000000->D6 (o,r,k)=T8 k (W0 r o)
 | n,[],o,_,_=>by
  refine Bh (m:=some none) ?_;unfold Ca;simp only;rw [NV (by simp)]
  rfl
 | 0,c::r,o,h,_=>by simp at h
 | n+1,c::r,o,h,ho=>by
  simp only [List.length_cons] at h ho;rw [Nr];unfold D6
  by_cases d:c=39
  ·subst d;rw [if_pos rfl];refine Bh (m:=T8 k (some (o,r))) ?_;unfold Ca;simp only;rw [ON (by rfl)]
   rfl
  ·rw [if_neg d]
   have hbl:Ca (o,c::r,k)=CK o (false,(c::r,k)):=by
    unfold Ca;simp only;rw [NV (by simpa using d),Option.bind_some]
    rfl
   have g:∀ (t:List UInt8) (b:UInt8),C4 o (false,(c::r,k)) t b=some (.inl (o++[b],t,k)):=fun t b=>by
    unfold C4;rw [Al (by unfold Go.E.J3;simp only [List.length_cons,List.length_nil];omega)]
   have hl:((c::r).length:Int)=r.length+1:=by simp
   unfold CK at hbl;simp only at hbl;rw [hl,Al (by omega),Al (by omega)] at hbl;have i:(c::r).drop (1:Int).toNat=r:=rfl;have j:(c::r).getD (0:Int).toNat default=c:=rfl;rw [i,j] at hbl
   by_cases f:c=92
   ·subst f;rw [if_pos rfl];rw [if_pos (by rfl)] at hbl
    rcases r with _ | ⟨a,_ | ⟨b,t⟩⟩
    ·exact Bh (m:=some none) hbl
    ·exact Bh (m:=some none) hbl
    ·rw [if_neg (by simp only [List.length_cons];omega)] at hbl;unfold D5 at hbl;simp only at hbl;have hlt:(((92::a::b::t:List UInt8).drop (1:Int).toNat).length:Int)=t.length+2:=by show((a::b::t).length:Int)=_;simp;omega
     have ga:((92::a::b::t:List UInt8).drop (1:Int).toNat).getD (0:Int).toNat default=a:=rfl;have gb:((92::a::b::t:List UInt8).drop (1:Int).toNat).getD (1:Int).toNat default=b:=rfl;rw [hlt,Al (by omega),ga,gb] at hbl;unfold OA at hbl;rw [Option.bind_some,Al (by omega),Option.bind_some] at hbl;have ea:Lib.indexByte [48,49,50,51,52,53,54,55,56,57,97,98,99,100,101,102] a=QF a:=rfl;have eb:Lib.indexByte [48,49,50,51,52,53,54,55,56,57,97,98,99,100,101,102] b=QF b:=rfl;rw [ea,eb] at hbl;simp only
     by_cases hh:0<=QF a/\0<=QF b
     ·rw [if_pos hh];rw [if_neg (by omega)] at hbl;have la:=Xw a;have lb:=Xw b;unfold D4 at hbl;simp only at hbl;have h2:((92::a::b::t:List UInt8).drop (1:Int).toNat).drop (2:Int).toNat=t:=rfl;rw [hlt,h2,Al (by unfold B0;omega),Al (by omega),Al (by omega),g] at hbl;have ho:=Ae7 ⟨(QF a).toNat,by omega⟩ ⟨(QF b).toNat,by omega⟩;simp only [Int.toNat_of_nonneg hh.1,Int.toNat_of_nonneg hh.2] at ho;rw [ho] at hbl;rw [B2 hbl];simp only [List.length_cons] at h ho;exact V1 n t _ (by omega) (by simp only [List.length_append,List.length_cons,List.length_nil] at *;omega)
     ·rw [if_neg hh];rw [if_pos (by omega)] at hbl;exact Bh (m:=some none) hbl
   ·rw [if_neg f];rw [if_neg (fun e=>f (UInt8.toNat_inj.1 (by have:(92:UInt8).toNat=92:=rfl;omega))),g] at hbl;rw [B2 hbl];exact V1 n r _ (by omega) (by simp only [List.length_append,List.length_cons,List.length_nil] at *;omega)
theorem W6{r:List UInt8}{k:Int}(hr:r.length<=1000000):D7 (r,k)=T8 k (W0 r []):=V1 r.length r [] (Nat.le_refl _) (by simp;omega)
theorem Ac2{r:List UInt8}{k:Int}(hr:r.length<=1000000):En (r,k)=T8 k (ppa r):=by
 unfold En ppa;have hl:=M9 [61,38,124,41] r;rw [QB hr (.inl (.inl rfl)),Option.bind_some]
 by_cases h:(Nq [61,38,124,41] r).2.head? = some 61
 ·have b:=BR h;rw [ON h,if_pos h,Option.bind_some];simp only [Bool.not_true,Bool.false_eq_true,if_false]
  by_cases h2:(Nq [61,38,124,41] r).2.tail.head? = some 39
  ·have h3:=BR h2;rw [ON h2,if_pos h2,Option.bind_some];simp only [if_true];rw [W6 (by omega)]
   cases W0 (Nq [61,38,124,41] r).2.tail.tail [] <;> rfl
  ·rw [NV h2,if_neg h2,Option.bind_some];simp only [Bool.false_eq_true,if_false];rw [Rn (by omega)]
   cases hp:RX (Nq [61,38,124,41] r).2.tail with
   | none=>rfl
   | some x=>
    obtain⟨_,hx⟩:=QA _ _ hp
    show Option.bind (B7 (x.2,k) [46,46]) _=_
    rw [Ae4,Option.bind_some,Option.bind_some]
    by_cases a:x.2.head? = some 46/\x.2.tail.head? = some 46
    ·have:=BR a.1;have:=BR a.2;rw [if_pos a,if_pos a]
     show Option.bind (Cc (x.2.tail.tail,k)) _=_
     rw [Rn (by omega)]
     cases RX x.2.tail.tail <;> rfl
    ·rw [if_neg a,if_neg a]
     rfl
 ·rw [NV h,if_neg h]
  rfl
end Go.Proofs.YtekmbcbgknmhiaaGreatDoor
end
noncomputable section
namespace Go.L
open Go
theorem Ps.mk{α:Type}{s:List UInt8}{y:α×List UInt8}{e:Nat}{R:Option (α×Int)}(a:e<=s.length)(h2:y.2=s.drop e)(h3:R=some (y.1,(e:Int))):Ps s (some y) R:=⟨e,a,h2,h3⟩
theorem Ps.no{α:Type}{s:List UInt8}{g:α}{R:Option (α×Int)}(h:R=some (g,-1)):Ps s none R:=⟨g,h⟩
theorem Ps.map{α β:Type}{s:List UInt8}{o:Option (α×List UInt8)}{R:Option (α×Int)}{f:α->β}(h:Ps s o R):Ps s (o.map fun x=>(f x.1,x.2)) (Option.bind R fun x=>some (f x.1,x.2)):=by
 cases o with
 | none=>obtain⟨g,rfl⟩:=h;exact⟨_,rfl⟩
 | some y=>obtain⟨e,a,h2,rfl⟩:=h;exact⟨e,a,h2,rfl⟩
end Go.L
namespace Go.Proofs.YtekmbcbgknmhiaaGreatDoor
open Go Go.L
set_option maxRecDepth 20000 in
theorem Ac3:∀ n:Fin 256,LU (UInt8.ofNat n.val)=some (QF (UInt8.ofNat n.val)):=by decide
theorem Xx(c:UInt8):LU c=some (QF c):=by
 have:=Ac3 ⟨c.toNat,UInt8.toNat_lt _⟩
 simpa using this
theorem AaR(c:UInt8): -1<=QF c/\QF c<16:=⟨by
 unfold QF
 have:∀ l:List UInt8,-1<=Lib.indexByte l c:=by
  intro l
  induction l with
  | nil=>exact Int.le_refl _
  | cons b l ih=>
   unfold Lib.indexByte
   repeat' split
   all_goals omega
 exact this _,Xw c⟩
theorem AdN{a b:Int}(ha:0<=a)(hb:0<=b):Go.L.u8 ((16 * a)+b)=UInt8.ofNat (16 * a.toNat+b.toNat):=by
 unfold Go.L.u8;apply UInt8.toNat_inj.1;rw [UInt8.toNat_ofNat',UInt8.toNat_ofNat'];omega
theorem AaS{s:List UInt8}(hs:s.length<=1000000):∀ (d i:Nat) (o:List UInt8),s.length<=i+d->i<=s.length->o.length+s.length<=2000000+i->Ps s (W0 (s.drop i) o) (NF s (o,(i:Int))):=by
 intro d
 induction d using Nat.strongRecOn with
 | ind d ih=>
  intro i o hd hi ho;unfold NF at ih ⊢;have hlen:∀ c:UInt8,(o.length+[c].length) * 1<=140737488355328/\o.length+[c].length<=9223372036854775807:=fun c=>by simp only [List.length_cons,List.length_nil];omega
  by_cases h:i<s.length
  ·rw [drop_at h,Nr];generalize hc:s.getD i default=c;have hg:s.getD ((i:Int)).toNat default=c:=by rw [Int.toNat_natCast];exact hc
   by_cases f:c=39
   ·rw [if_pos f];refine Ps.mk (e:=i+1) (by omega) rfl<|Bh ?_;unfold HN JY;simp only;rw [if_pos (by omega),Al (by omega),hg,if_pos (by rw [f];rfl),if_neg (by omega),Al (by unfold B0;omega)]
    rfl
   ·rw [if_neg f];have h39' : ¬ (c.toNat:Int)=39:=fun e=>f (UInt8.toNat_inj.1 (by have:(39:UInt8).toNat=39:=rfl;omega))
    have hbl:HN s (o,(i:Int))=Lw s o (i:Int):=by
     unfold HN;simp only;rw [if_pos (by omega),Al (by omega),hg,if_neg h39']
    unfold Lw at hbl;rw [Al (by omega),hg] at hbl
    by_cases j:c=92
    ·rw [if_pos j];rw [if_pos (by rw [j];rfl),Al (by unfold B0;omega)] at hbl
     by_cases h2:i+2<s.length
     ·rw [drop_at (i:=i+1) (by omega),drop_at (i:=i+1+1) (by omega)];simp only;generalize ha:s.getD (i+1) default=a;generalize hb:s.getD (i+1+1) default=b;have ga:s.getD ((i:Int)+1).toNat default=a:=by rw [show((i:Int)+1).toNat=i+1 by omega];exact ha
      have gb:s.getD ((i:Int)+2).toNat default=b:=by rw [show((i:Int)+2).toNat=i+1+1 by omega];exact hb
      have la:=AaR a;have lb:=AaR b;rw [if_neg (by omega),Al (by unfold B0;omega),Al (by omega),ga,Xx,Option.bind_some] at hbl
      by_cases hh:0<=QF a/\0<=QF b
      ·rw [if_pos hh];rw [if_neg (by omega),Al (by unfold B0;omega),Al (by omega),gb,Xx,Option.bind_some,if_neg (by omega),Al (by unfold B0;omega),Al (by omega),Option.bind_some,Al (by unfold B0;omega),Al (by unfold B0;omega),Al (by omega),Option.bind_some,Al (by unfold B0;omega),AdN hh.1 hh.2,Al (hlen _),Al (by unfold B0;omega)] at hbl;rw [B2 hbl];have:=ih (d - 3) (by omega) (i+3) (o++[UInt8.ofNat (16 * (QF a).toNat+(QF b).toNat)]) (by omega) (by omega) (by simp;omega);exact this
      ·rw [if_neg hh];refine Ps.no (g:=[]) (Bh ?_);rw [hbl]
       by_cases hha:QF a<0
       ·rw [if_pos hha]
       ·rw [if_neg hha,Al (by unfold B0;omega),Al (by omega),gb,Xx,Option.bind_some,if_pos (by omega)]
     ·have hl:(s.drop (i+1)).length<=1:=by rw [List.length_drop];omega
      rw [if_pos (by omega)] at hbl;have:=Bh (m:=some (([]:List UInt8),(-1:Int))) hbl;rw [this];generalize s.drop (i+1)=r at hl ⊢
      rcases r with _ | ⟨a,_ | ⟨b,t⟩⟩
      ·exact⟨_,rfl⟩
      ·exact⟨_,rfl⟩
      ·simp at hl
    ·rw [if_neg j];have h92' : ¬ (c.toNat:Int)=92:=fun e=>j (UInt8.toNat_inj.1 (by have:(92:UInt8).toNat=92:=rfl;omega));rw [if_neg h92',Al (by omega),Al (hlen _),Al (by unfold B0;omega)] at hbl;rw [B2 hbl];have:=ih (d - 1) (by omega) (i+1) (o++[c]) (by omega) (by omega) (by simp;omega);exact this
  ·rw [List.drop_eq_nil_of_le (by omega)];refine Ps.no (g:=[]) (Bh ?_);unfold HN JY;simp only;rw [if_neg (by omega),if_pos (by omega)]
theorem Ym{s:List UInt8}{i:Nat}(hs:s.length<=1000000)(h:(s.drop i).head? = some 39):Ps s (W0 (s.drop i).tail []) (Nh s (i:Int)):=by
 obtain⟨a,_,h2,_⟩:=GM h;unfold Nh;rw [MA (by omega) hs,decide_eq_true h,Option.bind_some];simp only [Bool.not_true,Bool.false_eq_true,if_false];rw [Al (by unfold B0;omega),h2];exact AaS hs (s.length - (i+1)) (i+1) [] (by omega) (by omega) (by simp;omega)
theorem AaT{s:List UInt8}{i:Nat}(hs:s.length<=1000000)(hi:i<=s.length):Ps s (rpa TT (s.drop i)) (JZ s (i:Int)):=by
 have hk:knd 2=TS:=rfl;obtain⟨d,h2,h3⟩:=T0 (p:=TS) hi;unfold JZ rpa;rw [run_eq (.inr (.inr rfl)) hs (s.length - i) i (by omega),hk,Option.bind_some,Al (by omega),Int.toNat_natCast,Int.toNat_natCast,show i+(GL TS (s.drop i)).1.length - i=(GL TS (s.drop i)).1.length by omega,h2];rw [MA d hs,Option.bind_some,h3];generalize (GL TS (s.drop i)).1=w at *;rw [<- h3];generalize i+w.length=j at *
 by_cases h:(s.drop j).head? = some 61
 ·obtain⟨j1,_,j2,_⟩:=GM h;rw [decide_eq_true h,if_pos h,j2];simp only [Bool.not_true,Bool.false_eq_true,if_false];have hj:((j:Int)+1)=((j+1:Nat):Int):=by omega
  rw [Al (by unfold B0;omega),hj,MA (by omega) hs,Option.bind_some]
  by_cases c:(s.drop (j+1)).head? = some 39
  ·rw [decide_eq_true c,if_pos c,if_pos rfl,Al (by unfold B0;omega)];exact Ps.map (f:=fun b=>Qv.mk 7 [] w b 0 0 []) (Ym hs c)
  ·rw [decide_eq_false c,if_neg c,if_neg (by decide),Al (by unfold B0;omega)];have hn:=PZ hs (i:=j+1) (by omega)
   cases hr:TT (s.drop (j+1)) with
   | none=>
    rw [hr] at hn;obtain⟨g,hn⟩:=hn;rw [hn,Option.bind_some];simp only;rw [if_pos (by decide)];exact⟨_,rfl⟩
   | some x=>
    rw [hr] at hn;obtain⟨e,m,n,hn⟩:=hn;rw [hn,Option.bind_some,Option.bind_some];simp only;have hE : ¬ ((e:Int)<0):=by omega
    rw [if_neg hE,Ae6 m hs,Option.bind_some,n]
    by_cases a:(s.drop e).head? = some 46/\(s.drop e).tail.head? = some 46
    ·obtain⟨q,_,k,_⟩:=GM a.1;have l:=a.2;rw [k] at l;obtain⟨r,_,o,_⟩:=GM l;rw [decide_eq_true a,if_pos a,k,o];simp only [Bool.not_true,Bool.false_eq_true,if_false];rw [Al (by unfold B0;omega),show((e:Int)+2)=((e+1+1:Nat):Int) by omega];exact Ps.map (f:=fun b=>Qv.mk 6 [] w [] x.1 b []) (PZ hs (by omega))
    ·rw [decide_eq_false a,if_neg a];exact⟨_,rfl⟩
 ·rw [decide_eq_false h,if_neg h];exact⟨j,d,rfl,rfl⟩
theorem AaU{s:List UInt8}{i:Nat}(hs:s.length<=1000000)(hi:i<=s.length):Ps s (rwd TT (s.drop i)) (Kb s (i:Int)):=by
 have hk:knd 0=KU:=rfl;obtain⟨c,h2,h3⟩:=T0 (p:=KU) hi;unfold Kb rwd;rw [run_eq (.inl rfl) hs (s.length - i) i (by omega),hk,Option.bind_some,Al (by omega)];simp only [Int.toNat_natCast];rw [show i+(GL KU (s.drop i)).1.length - i=(GL KU (s.drop i)).1.length by omega,h2];rw [MA c hs,h3]
 by_cases b:(GL KU (s.drop i)).1=[]
 ·rw [if_pos b,if_pos (by rw [b];simp)];exact⟨_,rfl⟩
 have hpos:0<(GL KU (s.drop i)).1.length:=List.length_pos_iff.2 b;have hne : ¬ ((i+(GL KU (s.drop i)).1.length:Nat):Int)=(i:Int):=by omega
 rw [if_neg b,if_neg hne,Option.bind_some];generalize (GL KU (s.drop i)).1=w at *;rw [<- h3];have hij:i<=i+w.length:=by omega
 generalize i+w.length=j at *
 by_cases h:(s.drop j).head? = some 126
 ·obtain⟨j1,_,j2,_⟩:=GM h;rw [decide_eq_true h,if_pos h,j2];simp only [Bool.not_true,Bool.false_eq_true,if_false];have hj:((j:Int)+1)=((j+1:Nat):Int):=by omega
  rw [Al (by unfold B0;omega),hj];have hn:=PZ hs (i:=j+1) (by omega)
  cases hr:TT (s.drop (j+1)) with
  | none=>
   rw [hr] at hn;obtain⟨g,hn⟩:=hn;rw [hn,Option.bind_some];simp only;rw [if_pos (by decide)];exact⟨_,rfl⟩
  | some x=>
   rw [hr] at hn;obtain⟨e,d,f,hn⟩:=hn;rw [hn,Option.bind_some,Option.bind_some];simp only;have hE : ¬ ((e:Int)<0):=by omega
   rw [if_neg hE,MA d hs,Option.bind_some,f];unfold Yh
   by_cases a:(s.drop e).head? = some 126
   ·obtain⟨o,_,k,_⟩:=GM a;obtain⟨l,m,n⟩:=T0 (p:=KU) (s:=s) (i:=e+1) (by omega);rw [decide_eq_true a,if_pos a,k];simp only [Bool.not_true,Bool.false_eq_true,if_false];rw [Al (by unfold B0;omega),show((e:Int)+1)=((e+1:Nat):Int) by omega,run_eq (.inl rfl) hs (s.length - (e+1)) (e+1) (by omega),hk,Option.bind_some,Al (by unfold B0;omega),Al (by omega),Al (by omega)];unfold Ka;rw [Int.toNat_natCast,Int.toNat_natCast,show e+1+(GL KU (s.drop (e+1))).1.length - (e+1)=(GL KU (s.drop (e+1))).1.length by omega,m];exact⟨_,l,n.symm,rfl⟩
   ·rw [decide_eq_false a,if_neg a];exact⟨_,rfl⟩
 ·rw [decide_eq_false h,if_neg h];exact⟨j,c,rfl,rfl⟩
theorem T1{s:List UInt8}(hs:s.length<=1000000):∀ (f i:Nat) (l:List (List UInt8)),i<=s.length->s.length<i+f->l.length+s.length<=2000000+i->Ps s ((rph f l (s.drop i)).map fun x=>(Qv.mk 2 x.1 [] [] 0 0 [],x.2)) (IY s (l,(i:Int)))
 | 0,i,l,hi,h,_=>by omega
 | f+1,i,l,hi,h,hl=>by
  have hk:knd 0=KU:=rfl;obtain⟨c,h2,h3⟩:=T0 (p:=KU) hi;unfold IY
  have hb:Gq s (l,(i:Int))=Option.bind (CO s ((i+(GL KU (s.drop i)).1.length:Nat):Int) [34]) (fun d=>if d then Go.L.AS (Go.L.B0 (((i+(GL KU (s.drop i)).1.length:Nat):Int)+(1:Int))) (Option.map Sum.inr (some ((Go.L.Qv.mk (2:Int) (l++[(GL KU (s.drop i)).1]) ([]:List UInt8) ([]) (0:Int) (0:Int) ([])),(((i+(GL KU (s.drop i)).1.length:Nat):Int)+(1:Int))))) else Option.bind (CO s ((i+(GL KU (s.drop i)).1.length:Nat):Int) [32]) (fun e=>if !e then Option.map Sum.inr (some ((Go.L.Qv.mk (2:Int) (l++[(GL KU (s.drop i)).1]) ([]:List UInt8) ([]) (0:Int) (0:Int) ([])),(-1:Int))) else Go.L.AS (Go.L.B0 (((i+(GL KU (s.drop i)).1.length:Nat):Int)+(1:Int))) (some (Sum.inl ((l++[(GL KU (s.drop i)).1]),(((i+(GL KU (s.drop i)).1.length:Nat):Int)+(1:Int))))))):=by
   unfold Gq;simp only;rw [run_eq (.inl rfl) hs (s.length - i) i (by omega),hk,Option.bind_some,Al (by omega),Al (by unfold Go.E.J3;simp only [List.length_cons,List.length_nil];omega)];simp only [Int.toNat_natCast];rw [show i+(GL KU (s.drop i)).1.length - i=(GL KU (s.drop i)).1.length by omega,h2]
  rw [MA c hs,MA c hs] at hb;rw [rph];rw [<- h3];generalize (GL KU (s.drop i)).1=w at *;have hij:i<=i+w.length:=by omega
  generalize i+w.length=j at *
  by_cases a:(s.drop j).head? = some 34
  ·obtain⟨j1,_,j2,_⟩:=GM a;rw [decide_eq_true a,Option.bind_some,if_pos rfl,Al (by unfold B0;omega)] at hb;rw [if_pos a,j2];exact⟨j+1,by omega,rfl,Bh hb⟩
  ·rw [decide_eq_false a,Option.bind_some,if_neg (by decide),Option.bind_some] at hb;rw [if_neg a]
   by_cases b:(s.drop j).head? = some 32
   ·obtain⟨j1,_,j2,_⟩:=GM b;rw [decide_eq_true b,if_neg (by decide),Al (by unfold B0;omega)] at hb;rw [if_pos b,j2,B2 hb];exact T1 hs f (j+1) (l++[w]) (by omega) (by omega) (by simp;omega)
   ·rw [decide_eq_false b,if_pos (by decide)] at hb;rw [if_neg b];exact⟨_,Bh hb⟩
end Go.Proofs.YtekmbcbgknmhiaaGreatDoor
end
noncomputable section
namespace Go.L
open Go
theorem AaV{one:List UInt8->Option (Qv×List UInt8)}{sg:UInt8}:∀ (k:Nat) (l:List Qv) (r:List UInt8) (y:List Qv×List UInt8),Tp one sg k l r=some y->l.length<=y.1.length
 | 0,_,_,_,h=>by cases h
 | k+1,l,r,y,h=>by
  rw [Tp] at h
  split at h
  ·obtain⟨x,_,h⟩:=Option.bind_eq_some_iff.1 h;have:=AaV k _ _ _ h;simp at this;omega
  ·obtain rfl:=Option.some.inj h;exact Nat.le_refl _
theorem Qv.eta(q:Qv):Qv.mk q.f.1 q.f.2.1 q.f.2.2.1 q.f.2.2.2.1 q.f.2.2.2.2.1 q.f.2.2.2.2.2.1 q.f.2.2.2.2.2.2=q:=by
 cases q
 rfl
def pjl(one:List UInt8->Option (Qv×List UInt8))(kind:Int)(sg:UInt8)(f:Nat)(l:List Qv)(r:List UInt8):Option (Qv×List UInt8):=
 (one r).bind fun x=>(Tp one sg f (l++[x.1]) x.2).map fun y=>(if y.1.length=1 then x.1 else .mk kind [] [] [] 0 0 y.1,y.2)
end Go.L
namespace Go.Proofs.YtekmbcbgknmhiaaGreatDoor
open Go Go.L
theorem W7{one:List UInt8->Option (Qv×List UInt8)}(a:Px one){sg:UInt8}:∀ (f g:Nat) (l:List Qv) (r:List UInt8),r.length<f->r.length<g->r.length<=1000000->Tp one sg f l r=Tp one sg g l r
 | 0,_,_,_,h,_,_=>by omega
 | _+1,0,_,_,_,h,_=>by omega
 | f+1,g+1,l,r,hf,hg,hr=>by
  rw [Tp,Tp]
  by_cases h:r.head? = some sg
  ·have:=BR h;rw [if_pos h,if_pos h]
   cases ho:one r.tail with
   | none=>rfl
   | some x=>
    obtain⟨_,hx⟩:=a r.tail x (by omega) ho;exact W7 a f g _ _ (by omega) (by omega) (by omega)
  ·rw [if_neg h,if_neg h]
theorem AaW(n:Nat):(BF (n+1)).1=IE (BF n).1 (BF n).2:=rfl
theorem AaX(n:Nat):(BF (n+1)).2=Is (BF n).1 (BF n).2:=rfl
theorem Yn{s:List UInt8}{kind:Int}{sg:UInt8}{l:List Qv}{q:Qv}{e:Int}(hl:l.length<=2000000):EK s kind l [sg] q.f.1 q.f.2.1 q.f.2.2.1 q.f.2.2.2.1 q.f.2.2.2.2.1 q.f.2.2.2.2.2.1 q.f.2.2.2.2.2.2 e =
  if(0:Int)<=e then Option.bind (CO s e [sg]) (fun a=>if a then Go.L.AS (Go.L.B0 (e+(1:Int))) (some (Sum.inl ((l++[q]),(e+(1:Int))))) else(if(l++[q]).length=1 then some (.inr (q,e)) else some (.inr (Qv.mk kind [] [] [] 0 0 (l++[q]),e))))
  else if(l++[q]).length=1 then some (.inr (q,e)) else some (.inr (Qv.mk kind [] [] [] 0 0 (l++[q]),e)):=by
 unfold EK;rw [Qv.eta,Al (by unfold Go.E.J3;simp only [List.length_cons,List.length_nil];omega)]
 have b:((((l++[q]).length:Nat):Int)=1)=((l++[q]).length=1):=by
  apply propext;omega
 simp only [b]
 rfl
theorem W8{s:List UInt8}(hs:s.length<=1000000){one:List UInt8->Option (Qv×List UInt8)}{m:Nat}(hone:Px one){a2:Bool}{kind:Int}{sg:UInt8}{self1:List UInt8->Int->Option (Qv×Int)}{self2:List UInt8->Int->Bool->Option (Qv×Int)}
  (H:∀ i,i<=s.length->(s.drop i).length<m->Ps s (one (s.drop i)) (if a2 then self2 s (i:Int) false else self1 s (i:Int))) :
  ∀ (f i:Nat) (l:List Qv),i<=s.length->s.length<i+m->s.length<i+f->l.length+s.length<=1000000+i->Ps s (pjl one kind sg f l (s.drop i)) (Gr s a2 kind [sg] self1 self2 (l,(i:Int)))
 | 0,i,l,hi,_,h,_=>by omega
 | f+1,i,l,hi,hm,h,hl=>by
  have a:=H i hi (by rw [List.length_drop];omega)
  have hb:Hz s a2 kind [sg] self1 self2 (l,(i:Int))=Option.bind (if a2 then self2 s (i:Int) false else self1 s (i:Int)) (fun x=>EK s kind l [sg] x.1.f.1 x.1.f.2.1 x.1.f.2.2.1 x.1.f.2.2.2.1 x.1.f.2.2.2.2.1 x.1.f.2.2.2.2.2.1 x.1.f.2.2.2.2.2.2 x.2):=by
   unfold Hz;simp only
   cases a2 <;> rfl
  unfold Gr pjl;generalize (if a2 then self2 s (i:Int) false else self1 s (i:Int))=R at a hb
  cases ho:one (s.drop i) with
  | none=>
   rw [ho] at a;obtain⟨g,rfl⟩:=a;rw [Option.bind_some,Yn (by omega),if_neg (by show ¬ ((0:Int)<=-1);decide)] at hb;rw [Option.bind_none]
   by_cases h2:(l++[g]).length=1
   ·rw [if_pos h2] at hb;exact⟨_,Bh (m:=some (g,(-1:Int))) hb⟩
   ·rw [if_neg h2] at hb;exact⟨_,Bh (m:=some (Qv.mk kind [] [] [] 0 0 (l++[g]),(-1:Int))) hb⟩
  | some x=>
   obtain⟨_,hx⟩:=hone (s.drop i) x (by rw [List.length_drop];omega) ho;rw [ho] at a;obtain⟨e,b,c,rfl⟩:=a;rw [c,List.length_drop,List.length_drop] at hx;rw [Option.bind_some,Yn (by omega)] at hb;simp only at hb;rw [if_pos (by omega),MA b hs,Option.bind_some] at hb;rw [Option.bind_some,Tp,c]
   by_cases h3:(s.drop e).head? = some sg
   ·obtain⟨j,_,d,_⟩:=GM h3;rw [decide_eq_true h3,if_pos rfl,Al (by unfold B0;omega)] at hb;rw [if_pos h3,d,B2 hb];have:=W8 hs hone H (kind:=kind) (sg:=sg) f (e+1) (l++[x.1]) (by omega) (by omega) (by omega) (by simp;omega);unfold Gr at this;rw [show((e:Int)+1)=((e+1:Nat):Int) by omega]
    have he:pjl one kind sg f (l++[x.1]) (s.drop (e+1))=Option.map (fun y:List Qv×List UInt8=>(if y.1.length=1 then x.1 else .mk kind [] [] [] 0 0 y.1,y.2)) ((one (s.drop (e+1))).bind fun x_1=>Tp one sg f (l++[x.1]++[x_1.1]) x_1.2):=by
     unfold pjl
     cases one (s.drop (e+1)) with
     | none=>rfl
     | some z=>
      rw [Option.bind_some,Option.bind_some]
      cases hj:Tp one sg f (l++[x.1]++[z.1]) z.2 with
      | none=>rfl
      | some y=>
       have:=AaV _ _ _ _ hj;simp only [List.length_append,List.length_cons,List.length_nil] at this;rw [Option.map_some,Option.map_some,if_neg (by omega),if_neg (by omega)]
    rw [<- he];exact this
   ·rw [decide_eq_false h3,if_neg (by decide)] at hb;rw [if_neg h3];refine⟨e,b,rfl,?_⟩;simp only
    by_cases h2:(l++[x.1]).length=1
    ·rw [if_pos h2] at hb ⊢;exact Bh (m:=some (x.1,(e:Int))) hb
    ·rw [if_neg h2] at hb ⊢;exact Bh (m:=some (Qv.mk kind [] [] [] 0 0 (l++[x.1]),(e:Int))) hb
theorem Yo{s:List UInt8}(hs:s.length<=1000000){one:List UInt8->Option (Qv×List UInt8)}{m:Nat}(hone:Px one){a2:Bool}{self1:List UInt8->Int->Option (Qv×Int)}{self2:List UInt8->Int->Bool->Option (Qv×Int)}
  (H:∀ i,i<=s.length->(s.drop i).length<m->Ps s (one (s.drop i)) (if a2 then self2 s (i:Int) false else self1 s (i:Int))) {i:Nat} (hi:i<=s.length) (hm:(s.drop i).length<m) :
  Ps s (V8 one (if a2 then 9 else 8) (if a2 then 124 else 38) (s.drop i)) (Is self1 self2 s (i:Int) a2):=by
 rw [List.length_drop] at hm
 have key:∀ (kind:Int) (sg:UInt8),Ps s (V8 one kind sg (s.drop i)) (Gr s a2 kind [sg] self1 self2 ([],(i:Int))):=fun kind sg=>by
  have:=W8 hs hone H (kind:=kind) (sg:=sg) (s.length - i+1) i [] hi (by omega) (by omega) (by simp;omega)
  have he:pjl one kind sg (s.length - i+1) [] (s.drop i)=V8 one kind sg (s.drop i):=by
   unfold pjl V8
   cases ho:one (s.drop i) with
   | none=>rfl
   | some x=>
    obtain⟨_,hx⟩:=hone (s.drop i) x (by rw [List.length_drop];omega) ho;rw [List.length_drop] at hx;rw [Option.bind_some,Option.bind_some,List.nil_append,W7 hone (s.length - i+1) (x.2.length+1) [x.1] x.2 (by omega) (by omega) (by omega)]
  rw [<- he];exact this
 unfold Is Ih
 cases a2 with
 | true=>exact key 9 124
 | false=>exact key 8 38
theorem AaY{s:List UInt8}(hs:s.length<=1000000){m k:Nat}(ih:∀ i,i<=s.length->(s.drop i).length<m->Ps s (MQ (RY TT) m (s.drop i)) ((BF k).1 s (i:Int))){i:Nat}(hi:i<=s.length)(hm:(s.drop i).length<m):
  Ps s (RW (MQ (RY TT) m) (s.drop i)) ((BF (k+1+1)).2 s (i:Int) true):=by
 rw [AaX];refine Yo (m:=m) hs (Rl (Rm (Vy V0) m)) (a2:=true) (fun j hj hjm=>?_) hi hm;rw [if_pos rfl,AaX];exact Yo (m:=m) hs (Rm (Vy V0) m) (a2:=false) (fun j hj hjm=>ih j hj hjm) hj hjm
theorem U1{s:List UInt8}(hs:s.length<=1000000):∀ (m n i:Nat),i<=s.length->(s.drop i).length<m->3 * m<=n->Ps s (MQ (RY TT) m (s.drop i)) ((BF n).1 s (i:Int))
 | 0,_,_,_,h,_=>by omega
 | m+1,0,_,_,_,h=>by omega
 | m+1,n+1,i,hi,hr,hn=>by
  have ih:∀ n i,i<=s.length->(s.drop i).length<m->3 * m<=n->Ps s (MQ (RY TT) m (s.drop i)) ((BF n).1 s (i:Int)):=fun n i hi h hn=>U1 hs m n i hi h hn;rw [List.length_drop] at hr;rw [AaW];unfold IE;rw [MQ,MA hi hs,Option.bind_some]
  by_cases a:(s.drop i).head? = some 33
  ·obtain⟨r,_,q,_⟩:=GM a;rw [decide_eq_true a,if_pos rfl,if_pos a,q,Al (by unfold B0;omega),show((i:Int)+1)=((i+1:Nat):Int) by omega];exact Ps.map (f:=fun x=>Qv.mk 10 [] [] [] 0 0 [x]) (ih n (i+1) (by omega) (by rw [List.length_drop];omega) (by omega))
  rw [decide_eq_false a,if_neg Bool.false_ne_true,if_neg a,MA hi hs,Option.bind_some]
  by_cases c:(s.drop i).head? = some 40
  ·obtain⟨r,_,q,_⟩:=GM c;rw [decide_eq_true c,if_pos rfl,if_pos c,q,Al (by unfold B0;omega),show((i:Int)+1)=((i+1:Nat):Int) by omega];obtain⟨n,rfl⟩:∃ k,n=k+1+1:=⟨n - 2,by omega⟩;have d:=AaY hs (fun k hk hkm=>ih n k hk hkm (by omega)) (i:=i+1) (by omega) (by rw [List.length_drop];omega)
   cases hp:RW (MQ (RY TT) m) (s.drop (i+1)) with
   | none=>
    rw [hp] at d;obtain⟨g,d⟩:=d;rw [d,Option.bind_some,Option.bind_none,if_pos (by show(-1:Int)<0;decide)];exact⟨_,rfl⟩
   | some x=>
    rw [hp] at d;obtain⟨e,t,u,d⟩:=d;rw [d,Option.bind_some,Option.bind_some];simp only;have hE : ¬ ((e:Int)<0):=by omega
    rw [if_neg hE,MA t hs,Option.bind_some,u]
    by_cases j:(s.drop e).head? = some 41
    ·obtain⟨w,_,v,_⟩:=GM j;rw [decide_eq_true j,if_pos j,v,if_neg (by decide),Al (by unfold B0;omega)];exact⟨e+1,by omega,rfl,rfl⟩
    ·rw [decide_eq_false j,if_neg j];exact⟨_,rfl⟩
  rw [decide_eq_false c,if_neg Bool.false_ne_true,if_neg c,MA hi hs,Option.bind_some];unfold RY;have eta:∀ R:Option (Qv×Int),Option.bind R (fun x=>some (x.1,x.2))=R:=fun R=>by cases R <;> rfl
  by_cases l:(s.drop i).head? = some 47
  ·obtain⟨r,_,q,_⟩:=GM l;rw [decide_eq_true l,if_pos rfl,if_pos l,q,Al (by unfold B0;omega),show((i:Int)+1)=((i+1:Nat):Int) by omega,eta];exact AaT hs (by omega)
  rw [decide_eq_false l,if_neg Bool.false_ne_true,if_neg l,MA hi hs,Option.bind_some]
  by_cases o:(s.drop i).head? = some 34
  ·obtain⟨r,_,q,_⟩:=GM o;rw [decide_eq_true o,if_pos rfl,if_pos o,q,Al (by unfold B0;omega),show((i:Int)+1)=((i+1:Nat):Int) by omega,eta];exact T1 hs ((s.drop i).length+1) (i+1) [] (by omega) (by rw [List.length_drop];omega) (by simp;omega)
  rw [decide_eq_false o,if_neg Bool.false_ne_true,if_neg o,MA hi hs,Option.bind_some]
  by_cases p:(s.drop i).head? = some 39
  ·rw [decide_eq_true p,if_pos rfl,if_pos p];exact Ps.map (f:=fun b=>Qv.mk 4 [] [] b 0 0 []) (Ym hs p)
  rw [decide_eq_false p,if_neg Bool.false_ne_true,if_neg p,eta];exact AaU hs hi
theorem Xy{s:List UInt8}(hs:s.length<=200):Lx s=some (match acc (RW (MQ (RY TT) 201)) s with
 | some q=>(q,true)
 | none=>(.mk 0 [] [] [] 0 0 [],false)):=by
 unfold Lx acc
 have d:∀ n,605<=n->Ps s (RW (MQ (RY TT) 201) (s.drop 0)) ((BF n).2 s ((0:Nat):Int) true):=fun n hn=>by
  obtain⟨k,rfl⟩:∃ k,n=k+1+1:=⟨n - 2,by omega⟩;exact AaY (by omega) (fun i hi him=>U1 (by omega) 201 k i hi him (by omega)) (by omega) (by rw [List.length_drop];omega)
 have a:Ps s (RW (MQ (RY TT) 201) (s.drop 0)) (QZ s ((0:Nat):Int) true):=d 1000 (by omega);rw [List.drop_zero] at a
 cases hp:RW (MQ (RY TT) 201) s with
 | none=>
  rw [hp] at a;obtain⟨g,a⟩:=a;rw [show(0:Int)=((0:Nat):Int) from rfl,a,Option.bind_some,if_neg (by show ¬ (-1:Int)=_;omega)]
  rfl
 | some x=>
  rw [hp] at a;obtain⟨e,f,c,a⟩:=a;obtain⟨hq,_⟩:=Ty (Vy V0) 201 s x (by omega) hp;rw [show(0:Int)=((0:Nat):Int) from rfl,a,Option.bind_some,Option.bind_some];simp only
  by_cases h2:x.2=[]
  ·have he:(e:Int)=(s.length:Int):=by
    rw [h2] at c;have:=congrArg List.length c;rw [List.length_drop] at this;simp at this;omega
   rw [if_pos he,TR hq,Option.bind_some]
   by_cases h3:(Ye x.1).1=0
   ·rw [if_pos (by simpa using h3),Vu hq h3,Option.bind_some]
    by_cases b:tx 8 x.1=s
    ·rw [if_pos b,if_pos ⟨h2,h3,b⟩]
    ·rw [if_neg b,if_neg (fun h=>b h.2.2)]
   ·rw [if_neg (by simpa using h3),if_neg (fun h=>h3 h.2.1)]
  ·have he : ¬ (e:Int)=(s.length:Int):=fun h=>h2 (by rw [c,List.drop_eq_nil_of_le (by omega)]);rw [if_neg he,if_neg (fun h=>h2 h.1)]
end Go.Proofs.YtekmbcbgknmhiaaGreatDoor
end
noncomputable section
namespace Go.Proofs.YtekmbcbgknmhiaaGreatDoor
open Go Go.E Go.RowKit Go.L
set_option maxHeartbeats 1000000
set_option maxRecDepth 10000
open _root_.Go.Proofs.Tryz
def H8(_a0:Go.L.Qv)(_a1:Int×Int):Option (Go.L.Qv×(Int×Int)):=
 Option.bind (DT (1:Int) (-1:Int)) (fun a=>some ((Go.L.Qv.mk (0:Int) ([]) ([]:Abk) ([]) (0:Int) (0:Int) ([])),(a.1,a.2)))
theorem Oe{a w:World}{H:PH}(hH:Le H (hp a)){O:List BS}{a0:Go.L.Qv}{a1:Int×Int}{ba0:Nat}{va0_1:Value}{xsa0_1:List Value}{va0_3:Value}{xsa0_3:List Value}{va0_6:Value}{xsa0_6:List Value}{ba1:Nat}(hL:Bd a (Ha [.box ba0 [No a0.f.1,va0_1,Abj a0.f.2.2.1,va0_3,No a0.f.2.2.2.2.1,No a0.f.2.2.2.2.2.1,va0_6] 26,.row va0_1 9 1 (a0.f.2.1).length xsa0_1,.row va0_3 5 1 (a0.f.2.2.2.1).length xsa0_3,.row va0_6 26 7 (a0.f.2.2.2.2.2.2).length xsa0_6,.box ba1 [No a1.1,No a1.2] 28] O) w)(_hea0_1:AJ .st (gz H a w (Ha [.box ba0 [No a0.f.1,va0_1,Abj a0.f.2.2.1,va0_3,No a0.f.2.2.2.2.1,No a0.f.2.2.2.2.2.1,va0_6] 26,.row va0_1 9 1 (a0.f.2.1).length xsa0_1,.row va0_3 5 1 (a0.f.2.2.2.1).length xsa0_3,.row va0_6 26 7 (a0.f.2.2.2.2.2.2).length xsa0_6,.box ba1 [No a1.1,No a1.2] 28] O)) (a0.f.2.1) xsa0_1)(_hea0_3:AJ .byte (gz H a w (Ha [.box ba0 [No a0.f.1,va0_1,Abj a0.f.2.2.1,va0_3,No a0.f.2.2.2.2.1,No a0.f.2.2.2.2.2.1,va0_6] 26,.row va0_1 9 1 (a0.f.2.1).length xsa0_1,.row va0_3 5 1 (a0.f.2.2.2.1).length xsa0_3,.row va0_6 26 7 (a0.f.2.2.2.2.2.2).length xsa0_6,.box ba1 [No a1.1,No a1.2] 28] O)) (a0.f.2.2.2.1) xsa0_3)(_hea0_6:AJ .Bg (gz H a w (Ha [.box ba0 [No a0.f.1,va0_1,Abj a0.f.2.2.1,va0_3,No a0.f.2.2.2.2.1,No a0.f.2.2.2.2.2.1,va0_6] 26,.row va0_1 9 1 (a0.f.2.1).length xsa0_1,.row va0_3 5 1 (a0.f.2.2.2.1).length xsa0_3,.row va0_6 26 7 (a0.f.2.2.2.2.2.2).length xsa0_6,.box ba1 [No a1.1,No a1.2] 28] O)) (a0.f.2.2.2.2.2.2) xsa0_6){r:Go.L.Qv×(Int×Int)}(h:H8 a0 a1=some r):
  OkF prog 38 [Abi ba0,Abi ba1] (.panicking (Zc (.iface 82 (.agg #[])))) (.panicking (Yt (.iface 82 (.agg #[])))) w (fun w'=>∃ (b:Value) (c:Value) (d:Value),Bd a (Ha [.box ba0 [No r.1.f.1,b,Abj r.1.f.2.2.1,c,No r.1.f.2.2.2.2.1,No r.1.f.2.2.2.2.2.1,d] 26,.box ba1 [No r.2.1,No r.2.2] 28] O) w'/\Le (fz w (Ha [.box ba0 [No a0.f.1,va0_1,Abj a0.f.2.2.1,va0_3,No a0.f.2.2.2.2.1,No a0.f.2.2.2.2.2.1,va0_6] 26,.row va0_1 9 1 (a0.f.2.1).length xsa0_1,.row va0_3 5 1 (a0.f.2.2.2.1).length xsa0_3,.row va0_6 26 7 (a0.f.2.2.2.2.2.2).length xsa0_6,.box ba1 [No a1.1,No a1.2] 28] O)) (fz w' (Ha [.box ba0 [No r.1.f.1,b,Abj r.1.f.2.2.1,c,No r.1.f.2.2.2.2.1,No r.1.f.2.2.2.2.2.1,d] 26,.box ba1 [No r.2.1,No r.2.2] 28] O))/\AI .st (gz H a w' (Ha [.box ba0 [No r.1.f.1,b,Abj r.1.f.2.2.1,c,No r.1.f.2.2.2.2.1,No r.1.f.2.2.2.2.2.1,d] 26,.box ba1 [No r.2.1,No r.2.2] 28] O)) b (r.1.f.2.1)/\AI .byte (gz H a w' (Ha [.box ba0 [No r.1.f.1,b,Abj r.1.f.2.2.1,c,No r.1.f.2.2.2.2.1,No r.1.f.2.2.2.2.2.1,d] 26,.box ba1 [No r.2.1,No r.2.2] 28] O)) c (r.1.f.2.2.2.1)/\AI .Bg (gz H a w' (Ha [.box ba0 [No r.1.f.1,b,Abj r.1.f.2.2.1,c,No r.1.f.2.2.2.2.1,No r.1.f.2.2.2.2.2.1,d] 26,.box ba1 [No r.2.1,No r.2.2] 28] O)) d (r.1.f.2.2.2.2.2.2)):=by
 refine QQ (pv:=.iface 82 (.agg #[])) (k:=16) [(0,(Abi ba0)),(1,(Abi ba1))] func38 rfl rfl rfl rfl rfl rfl rfl .yes (Ad rfl) ?_;have hT:=Le.refl (fz w (Ha [.box ba0 [No a0.f.1,va0_1,Abj a0.f.2.2.1,va0_3,No a0.f.2.2.2.2.1,No a0.f.2.2.2.2.2.1,va0_6] 26,.row va0_1 9 1 (a0.f.2.1).length xsa0_1,.row va0_3 5 1 (a0.f.2.2.2.1).length xsa0_3,.row va0_6 26 7 (a0.f.2.2.2.2.2.2).length xsa0_6,.box ba1 [No a1.1,No a1.2] 28] O));refine Bi 1 rfl<|Ag (Zz rfl AdT) rfl<|Ac<|Cg rfl<|Bi 1 rfl<|Ag (ZV rfl AfB rfl) rfl<|As 3 rfl<|AH AbI rfl rfl hL fun w2 b2 q g _=>Ah 0 rfl AbI q rfl Hj fun w3 e j=>A4 1 rfl<|AD 1 rfl<|Cg rfl<|Aw<|Ag (AR rfl (fun _=>Ln _)) rfl<|Ay h fun x4 s h=>AA rfl rfl e (EU _ _ (Ar hH e) s) fun w5 z t l=>Ah 1 rfl AO t rfl (Bc rfl) fun w6 u m=>Ah 5 rfl AW u rfl (Bc rfl) fun w7 v n=>AK ?_
 cases h
 refine JO rfl ?_;have x:=v.AQ (i:=0) rfl;have y:=x.AQ (i:=1) rfl;have o:=y.AQ (i:=1) rfl;have p:=o.AQ (i:=1) rfl;have hT:=hT.trans (g.trans (j.trans (l.trans (m.trans (n.trans ((Au (i:=0) rfl).trans ((Au (i:=1) rfl).trans ((Au (i:=1) rfl).trans (Au (i:=1) rfl)))))))));exact⟨Aa8,Aa8,Aa8,p,hT,(AI.nil _ _),(AI.nil _ _),(AI.nil _ _)⟩
def Ga(_a0:Go.L.Qv)(_a1:Int×Int):Option (Go.L.Qv×(Int×Int)):=
 Option.bind (DT (1:Int) (-1:Int)) (fun a=>some ((Go.L.Qv.mk (0:Int) ([]) ([]:Abk) ([]) (0:Int) (0:Int) ([])),(a.1,a.2)))
theorem MN{a w:World}{H:PH}(hH:Le H (hp a)){O:List BS}{a0:Go.L.Qv}{a1:Int×Int}{ba0:Nat}{va0_1 va0_3 va0_6:Value}{ba1:Nat}(hL:Bd a (Ha [.box ba0 [No a0.f.1,va0_1,Abj a0.f.2.2.1,va0_3,No a0.f.2.2.2.2.1,No a0.f.2.2.2.2.2.1,va0_6] 26,.box ba1 [No a1.1,No a1.2] 28] O) w)(_ha0_1:AI .st (gz H a w (Ha [.box ba0 [No a0.f.1,va0_1,Abj a0.f.2.2.1,va0_3,No a0.f.2.2.2.2.1,No a0.f.2.2.2.2.2.1,va0_6] 26,.box ba1 [No a1.1,No a1.2] 28] O)) va0_1 (a0.f.2.1))(_ha0_3:AI .byte (gz H a w (Ha [.box ba0 [No a0.f.1,va0_1,Abj a0.f.2.2.1,va0_3,No a0.f.2.2.2.2.1,No a0.f.2.2.2.2.2.1,va0_6] 26,.box ba1 [No a1.1,No a1.2] 28] O)) va0_3 (a0.f.2.2.2.1))(_ha0_6:AI .Bg (gz H a w (Ha [.box ba0 [No a0.f.1,va0_1,Abj a0.f.2.2.1,va0_3,No a0.f.2.2.2.2.1,No a0.f.2.2.2.2.2.1,va0_6] 26,.box ba1 [No a1.1,No a1.2] 28] O)) va0_6 (a0.f.2.2.2.2.2.2)){r:Go.L.Qv×(Int×Int)}(h:Ga a0 a1=some r):
  OkF prog 38 [Abi ba0,Abi ba1] (.panicking (Zc (.iface 82 (.agg #[])))) (.panicking (Yt (.iface 82 (.agg #[])))) w (fun w'=>∃ (b:Value) (c:Value) (d:Value),Bd a (Ha [.box ba0 [No r.1.f.1,b,Abj r.1.f.2.2.1,c,No r.1.f.2.2.2.2.1,No r.1.f.2.2.2.2.2.1,d] 26,.box ba1 [No r.2.1,No r.2.2] 28] O) w'/\Le (fz w (Ha [.box ba0 [No a0.f.1,va0_1,Abj a0.f.2.2.1,va0_3,No a0.f.2.2.2.2.1,No a0.f.2.2.2.2.2.1,va0_6] 26,.box ba1 [No a1.1,No a1.2] 28] O)) (fz w' (Ha [.box ba0 [No r.1.f.1,b,Abj r.1.f.2.2.1,c,No r.1.f.2.2.2.2.1,No r.1.f.2.2.2.2.2.1,d] 26,.box ba1 [No r.2.1,No r.2.2] 28] O))/\AI .st (gz H a w' (Ha [.box ba0 [No r.1.f.1,b,Abj r.1.f.2.2.1,c,No r.1.f.2.2.2.2.1,No r.1.f.2.2.2.2.2.1,d] 26,.box ba1 [No r.2.1,No r.2.2] 28] O)) b (r.1.f.2.1)/\AI .byte (gz H a w' (Ha [.box ba0 [No r.1.f.1,b,Abj r.1.f.2.2.1,c,No r.1.f.2.2.2.2.1,No r.1.f.2.2.2.2.2.1,d] 26,.box ba1 [No r.2.1,No r.2.2] 28] O)) c (r.1.f.2.2.2.1)/\AI .Bg (gz H a w' (Ha [.box ba0 [No r.1.f.1,b,Abj r.1.f.2.2.1,c,No r.1.f.2.2.2.2.1,No r.1.f.2.2.2.2.2.1,d] 26,.box ba1 [No r.2.1,No r.2.2] 28] O)) d (r.1.f.2.2.2.2.2.2)):=by
 refine QQ (pv:=.iface 82 (.agg #[])) (k:=16) [(0,(Abi ba0)),(1,(Abi ba1))] func38 rfl rfl rfl rfl rfl rfl rfl .yes (Ad rfl) ?_;have hT:=Le.refl (fz w (Ha [.box ba0 [No a0.f.1,va0_1,Abj a0.f.2.2.1,va0_3,No a0.f.2.2.2.2.1,No a0.f.2.2.2.2.2.1,va0_6] 26,.box ba1 [No a1.1,No a1.2] 28] O));refine Bi 1 rfl<|Ag (Zz rfl AdT) rfl<|Ac<|Cg rfl<|Bi 1 rfl<|Ag (ZV rfl AfB rfl) rfl<|As 3 rfl<|AH AbI rfl rfl hL fun x y o g _=>Ah 0 rfl AbI o rfl Hj fun z e j=>A4 1 rfl<|AD 1 rfl<|Cg rfl<|Aw<|Ag (AR rfl (fun _=>Ln _)) rfl<|Ay h fun x4 p h=>AA rfl rfl e (EU _ _ (Ar hH e) p) fun w5 v q l=>Ah 1 rfl AO q rfl (Bc rfl) fun w6 s m=>Ah 2 rfl AW s rfl (Bc rfl) fun w7 t n=>AK ?_
 cases h
 refine JO rfl ?_;have u:=t.AQ (i:=0) rfl;have hT:=hT.trans (g.trans (j.trans (l.trans (m.trans (n.trans (Au (i:=0) rfl))))));exact⟨Aa8,Aa8,Aa8,u,hT,(AI.nil _ _),(AI.nil _ _),(AI.nil _ _)⟩
def Ik(a0:Go.L.Qv)(a1:Int×Int):Option (Go.L.Qv×(Int×Int)):=
 some (a0,(a1.1,a1.2))
theorem OO{a w:World}{H:PH}(_hH:Le H (hp a)){O:List BS}{a0:Go.L.Qv}{a1:Int×Int}{ba0:Nat}{va0_1 va0_3 va0_6:Value}{ba1:Nat}(hL:Bd a (Ha [.box ba0 [No a0.f.1,va0_1,Abj a0.f.2.2.1,va0_3,No a0.f.2.2.2.2.1,No a0.f.2.2.2.2.2.1,va0_6] 26,.box ba1 [No a1.1,No a1.2] 28] O) w)(g:AI .st (gz H a w (Ha [.box ba0 [No a0.f.1,va0_1,Abj a0.f.2.2.1,va0_3,No a0.f.2.2.2.2.1,No a0.f.2.2.2.2.2.1,va0_6] 26,.box ba1 [No a1.1,No a1.2] 28] O)) va0_1 (a0.f.2.1))(i:AI .byte (gz H a w (Ha [.box ba0 [No a0.f.1,va0_1,Abj a0.f.2.2.1,va0_3,No a0.f.2.2.2.2.1,No a0.f.2.2.2.2.2.1,va0_6] 26,.box ba1 [No a1.1,No a1.2] 28] O)) va0_3 (a0.f.2.2.2.1))(j:AI .Bg (gz H a w (Ha [.box ba0 [No a0.f.1,va0_1,Abj a0.f.2.2.1,va0_3,No a0.f.2.2.2.2.1,No a0.f.2.2.2.2.2.1,va0_6] 26,.box ba1 [No a1.1,No a1.2] 28] O)) va0_6 (a0.f.2.2.2.2.2.2)){r:Go.L.Qv×(Int×Int)}(h:Ik a0 a1=some r):
  OkF prog 38 [Abi ba0,Abi ba1] .returning .returning w (fun w'=>∃ (b:Value) (c:Value) (d:Value),Bd a (Ha [.box ba0 [No r.1.f.1,b,Abj r.1.f.2.2.1,c,No r.1.f.2.2.2.2.1,No r.1.f.2.2.2.2.2.1,d] 26,.box ba1 [No r.2.1,No r.2.2] 28] O) w'/\Le (fz w (Ha [.box ba0 [No a0.f.1,va0_1,Abj a0.f.2.2.1,va0_3,No a0.f.2.2.2.2.1,No a0.f.2.2.2.2.2.1,va0_6] 26,.box ba1 [No a1.1,No a1.2] 28] O)) (fz w' (Ha [.box ba0 [No r.1.f.1,b,Abj r.1.f.2.2.1,c,No r.1.f.2.2.2.2.1,No r.1.f.2.2.2.2.2.1,d] 26,.box ba1 [No r.2.1,No r.2.2] 28] O))/\AI .st (gz H a w' (Ha [.box ba0 [No r.1.f.1,b,Abj r.1.f.2.2.1,c,No r.1.f.2.2.2.2.1,No r.1.f.2.2.2.2.2.1,d] 26,.box ba1 [No r.2.1,No r.2.2] 28] O)) b (r.1.f.2.1)/\AI .byte (gz H a w' (Ha [.box ba0 [No r.1.f.1,b,Abj r.1.f.2.2.1,c,No r.1.f.2.2.2.2.1,No r.1.f.2.2.2.2.2.1,d] 26,.box ba1 [No r.2.1,No r.2.2] 28] O)) c (r.1.f.2.2.2.1)/\AI .Bg (gz H a w' (Ha [.box ba0 [No r.1.f.1,b,Abj r.1.f.2.2.1,c,No r.1.f.2.2.2.2.1,No r.1.f.2.2.2.2.2.1,d] 26,.box ba1 [No r.2.1,No r.2.2] 28] O)) d (r.1.f.2.2.2.2.2.2)):=by
 refine QQ (pv:=.iface 82 (.agg #[])) (k:=16) [(0,(Abi ba0)),(1,(Abi ba1))] func38 rfl rfl rfl rfl rfl rfl rfl .no (Ad rfl) ?_;have hT:=Le.refl (fz w (Ha [.box ba0 [No a0.f.1,va0_1,Abj a0.f.2.2.1,va0_3,No a0.f.2.2.2.2.1,No a0.f.2.2.2.2.2.1,va0_6] 26,.box ba1 [No a1.1,No a1.2] 28] O));have e:=hL.rG H;refine Bi 1 rfl<|Ag (AcE rfl AdT) rfl<|Ac<|Cr rfl<|Av ?_
 cases h
 refine JO rfl ⟨va0_1,va0_3,va0_6,hL,hT,(g.mono e),(i.mono e),(j.mono e)⟩
def J0(y22:Go.L.Qv×(Abk×Int)):Option (Go.L.Qv×(Int×Int)):=
 Option.bind (Ik y22.1 (0,0)) (fun a=>some (a.1,(a.2.1,a.2.2)))
def Ex(a0:Abk):Option (Go.L.Qv×(Int×Int)):=
 if 200<(a0.length:Int) then Option.bind (DT (3:Int) (-1:Int)) (fun d=>some ((Go.L.Qv.mk (0:Int) ([]) ([]:Abk) ([]) (0:Int) (0:Int) ([])),(d.1,d.2))) else Option.bind (CF G2 (a0,0)) (fun e=>QP e (Option.bind (H8 (Go.L.Qv.mk (0:Int) ([]:List Abk) ([]:Abk) ([]:Abk) (0:Int) (0:Int) ([]:List Go.L.Qv)) (0,0)) (fun a=>some (a.1,(a.2.1,a.2.2)))) (fun y22=>Option.bind (Ev y22.1) (fun b=>if(((!decide (b.2.1=0/\b.2.2=0))||(!decide (y22.2.1=([]:Abk))))||(!decide (b.1=a0))) then Option.bind (Ga y22.1 (0,0)) (fun c=>some (c.1,(c.2.1,c.2.2))) else(J0 y22))))
theorem Lc(w:World)(H:PH)(hH:Le H (hp w))(hU:Eg H){a0:Abk}{r:Go.L.Qv×(Int×Int)}(h:Ex a0=some r):
  Ok prog 15 [Abj a0] w (fun v w'=>Ext w w'/\∃ u0 u1 u2,v=.tuple #[.agg #[No r.1.f.1,u0,Abj r.1.f.2.2.1,u1,No r.1.f.2.2.2.2.1,No r.1.f.2.2.2.2.2.1,u2],.agg #[No r.2.1,No r.2.2]]/\AI .st (un H (nw w w')) u0 (r.1.f.2.1)/\AI .byte (un H (nw w w')) u1 (r.1.f.2.2.2.1)/\AI .Bg (un H (nw w w')) u2 (r.1.f.2.2.2.2.2.2)):=by
 refine Yu (n:=42) [(0,(Abj a0))] func15 rfl rfl rfl rfl rfl ?_;have hL:=Bd.start w;refine Am<|AH AO rfl rfl hL fun w1 b1 b6 ct _=>AH AW rfl rfl b6 fun w2 b2 ar cu _=>Ac<|A7<|Bi 1 rfl<|Ag (Cv rfl Ab1) rfl<|A4 1 rfl<|AM rfl h (fun b7 h=>?_) (fun b7 h=>?_)
 ·refine Am<|Ag (AR rfl (fun _=>Ln _)) rfl<|Ay h fun x5 b8 h=>AA rfl rfl ar (EU _ _ (Ar hH ar) b8) fun w6 c0 b9 cv=>Ah 1 rfl AO b9 rfl (Bc rfl) fun w7 ca cw=>Ah 0 rfl AW ca rfl (Bc rfl) fun w8 au cx=>Ac<|Ax<|An ?_
  cases h
  refine Z0<|Bz rfl (.cell rfl AcF rfl AO (AL (i:=1) au rfl)) (.cell rfl Ack rfl AW (AL (i:=0) au rfl)) ⟨au.ext,_,_,_,rfl,(AI.nil _ _),(AI.nil _ _),(AI.nil _ _)⟩
 refine Av<|Ao<|Bi 1 rfl<|Ab7 rfl<|Ac<|Bi 1 rfl<|Ag (AR rfl (fun _=>AbL _ rfl _)) rfl<|CY (t:=86) rfl rfl rfl ar fun c1 z bl cd _=>A4 1 rfl<|Bi 1 rfl<|Ay h fun c2 bm h=>FA rfl rfl (Km (hself:=OK) (a0:=(a0,0)) (O:=[.box b2 [No 0,No 0] 28,.box b1 Abl 26]) hH hU bl bm) ?_ ?_
 ·rintro rfl bj ⟨bn,ce⟩;have h:=DG h;refine B6 ?_;obtain⟨bo,cf,af⟩:=C0 .st H 9 bn;obtain⟨bp,be,ag⟩:=C0 .byte H 5 bo;obtain⟨av,an,ah⟩:=C0 .Bg H 26 bp;have ai:Bd w [.row Aa8 9 1 (([]:List Abk)).length ([]),.row Aa8 5 1 (([]:Abk)).length ([]),.row Aa8 26 7 (([]:List Go.L.Qv)).length ([]),.box b2 [No 0,No 0] 28,.box b1 Abl 26] bj:=av.CC [1,2] rfl;have q:=BC [1,2] av ai rfl;have aw:Bd w [.box b1 Abl 26,.row Aa8 9 1 (([]:List Abk)).length ([]),.row Aa8 5 1 (([]:Abk)).length ([]),.row Aa8 26 7 (([]:List Go.L.Qv)).length ([]),.box b2 [No 0,No 0] 28] bj:=ai.CC [4] rfl;have u:=BC [4] ai aw rfl;refine Ay h fun c3 bq h=>?_;have af:=af.mono (Ab hH (be.trans (an.trans (q.trans u))));have ag:=ag.mono (Ab hH (an.trans (q.trans u)))
  have ah:=ah.mono (Ab hH (q.trans u));refine XG (Oe (a0:=(Go.L.Qv.mk (0:Int) ([]:List Abk) ([]:Abk) ([]:Abk) (0:Int) (0:Int) ([]:List Go.L.Qv))) (a1:=(0,0)) (O:=[]) hH aw af ag ah bq) ?_;rintro c4 ⟨cg,ch,ci,aj,cj,ax,ay,a2⟩ az frz
  cases h
  exact⟨_,SC rfl (.cell rfl AcF rfl AO (AL (i:=0) aj rfl)) (.cell rfl Ack rfl AW (AL (i:=1) aj rfl)) frz,aj.ext,_,_,_,rfl,(ax.mono (B5 hH)),(ay.mono (B5 hH)),(a2.mono (B5 hH))⟩
 rintro y22 rfl _ c5 ⟨l,m,o,rfl,br,ck,c,d,e⟩;have h:=DH h;refine Ah 2 rfl AO br rfl (AU rfl (AU c.one (AU rfl (AU d.one (AU rfl (AU rfl (AU e.one Hj))))))) fun c6 x y=>Ac<|Bo (σ:=Unit) (fun(_:Unit)=>[(2,(Abi b1)),(3,(Abi b2))]) (fun(_:Unit) wr=>DF w [.box z [Abj y22.2.1,No y22.2.2] 86,.box b2 [No 0,No 0] 28,.box b1 [No y22.1.f.1,l,Abj y22.1.f.2.2.1,m,No y22.1.f.2.2.2.2.1,No y22.1.f.2.2.2.2.2.1,o] 26] wr fun Oz=>AI .st (gz H w wr Oz) l (y22.1.f.2.1)/\AI .byte (gz H w wr Oz) m (y22.1.f.2.2.2.1)/\AI .Bg (gz H w wr Oz) o (y22.1.f.2.2.2.2.2.2)/\(J0 y22)=some r) ?_ ?_
 ·have a:=x.rG H;refine Am<|Ag (AE 2 rfl AcF rfl AO x rfl) rfl<|Ay h fun k bs h=>?_;have c:=c.mono (Ab hH y);have d:=d.mono (Ab hH y);have e:=e.mono (Ab hH y);refine AA rfl rfl x (Jz (a0:=y22.1) _ _ (Ar hH x) (hU.mono (Aj hH)) (c.mono a) (d.mono a) (e.mono a) bs) fun c7 cy bt ao=>As 3 rfl<|AH AW rfl rfl bt fun c8 bk bu ap _=>As 1 rfl<|Ah 0 rfl AW bu rfl (Bc rfl) fun cb p aq=>Ac<|Am<|Ag (AE 0 rfl Ack rfl AW p rfl) rfl<|Ag (AR rfl (fun _=>Cf _)) rfl<|Ag (Lh rfl rfl JF (MY _ _ _ _)) rfl<|As 1 rfl<|GP 6 32 (.bool ((!decide (k.2.1=0/\k.2.2=0))||(!decide (y22.2.1=([]:Abk))))) (fun a3=>?_) ?_
  ·refine AP (s:=26) rfl (fun b=>?_) (fun b=>?_)
   ·iterate 5 refine Ai rfl b rfl ?_
    refine Ag (A2 rfl b rfl) rfl<|a3.to 5 (PN b) rfl rfl
   refine Aa rfl b<|Ag (Ad rfl) rfl<|Aa rfl b<|Ag (CB rfl) rfl<|Aa rfl b<|Ag (Ae rfl Af9 rfl EZ) rfl<|Aa rfl b<|Ag (Af 1 rfl Ab1 rfl p rfl) rfl<|Aa rfl b<|Ag (Mn rfl rfl) rfl<|Ag (A9 rfl b rfl) rfl<|a3.to 5 (PO b) rfl rfl
  refine As 1 rfl<|GP 4 37 (.bool (((!decide (k.2.1=0/\k.2.2=0))||(!decide (y22.2.1=([]:Abk))))||(!decide (k.1=a0)))) (fun a4=>?_) ?_
  ·refine AP (s:=33) rfl (fun g=>?_) (fun g=>?_)
   ·iterate 3 refine Ai rfl g rfl ?_
    refine Ag (A2 rfl g rfl) rfl<|a4.to 3 (PN g) rfl rfl
   refine Aa rfl g<|Ag (Ad rfl) rfl<|Aa rfl g<|Ag (Ad rfl) rfl<|Aa rfl g<|Ag (Mn rfl rfl) rfl<|Ag (A9 rfl g rfl) rfl<|a4.to 3 (PO g) rfl rfl
  refine Ac<|Bb rfl h (fun bv h=>?_) (fun bv h=>?_)
  ·refine Aw<|Ag (AR rfl (fun _=>OY _)) rfl<|Ag (Ub rfl AfB rfl) rfl<|OS rfl rfl<|Fh ?_;have a5:Bd w [.box b1 [No y22.1.f.1,l,Abj y22.1.f.2.2.1,m,No y22.1.f.2.2.2.2.1,No y22.1.f.2.2.2.2.2.1,o] 26,.box b2 [No 0,No 0] 28,.box bk [No k.2.1,No k.2.2] 28,.box z [Abj y22.2.1,No y22.2.2] 86] cb:=p.CC [2,3] rfl;have bf:=BC [2,3] p a5 rfl;refine Ay h fun c9 bw h=>?_;have a:=a.trans (Ab hH (ao.trans (ap.trans (aq.trans bf))));refine XG (MN (a0:=y22.1) (a1:=(0,0)) (O:=[.box bk [No k.2.1,No k.2.2] 28,.box z [Abj y22.2.1,No y22.2.2] 86]) hH a5 (c.mono a) (d.mono a) (e.mono a) bw) ?_;rintro da ⟨cl,cm,cn,ak,co,a6,a7,a8⟩ az frz
   cases h
   exact⟨_,SC rfl (.cell rfl AcF rfl AO (AL (i:=0) ak rfl)) (.cell rfl Ack rfl AW (AL (i:=1) ak rfl)) frz,ak.ext,_,_,_,rfl,(a6.mono (B5 hH)),(a7.mono (B5 hH)),(a8.mono (B5 hH))⟩
  refine Av ?_;have bx:=p.AQ (i:=0) rfl;have a:=a.trans (Ab hH (ao.trans (ap.trans (aq.trans (Au (i:=0) rfl)))));refine A8 () (Sub.of rfl) ⟨bx,(c.mono a),(d.mono a),(e.mono a),h⟩
 rintro _ cz ⟨al,aa,ab,ac,h⟩;have j:=al.rG H;refine Am<|Ag (AE 2 rfl AcF rfl AO al rfl) rfl<|Ag (AR rfl (fun _=>Cf _)) rfl<|Ah 2 rfl AO al rfl (AU rfl (AU (aa.mono j).one (AU rfl (AU (ab.mono j).one (AU rfl (AU rfl (AU (ac.mono j).one Hj))))))) fun db bz bg=>Ah 1 rfl AW bz rfl (Bc rfl) fun cc a9 bh=>Ac<|Ax ?_;have ba:Bd w [.box b1 [No y22.1.f.1,l,Abj y22.1.f.2.2.1,m,No y22.1.f.2.2.2.2.1,No y22.1.f.2.2.2.2.2.1,o] 26,.box b2 [No 0,No 0] 28,.box z [Abj y22.2.1,No y22.2.2] 86] cc:=a9.CC [1,2] rfl;have bi:=BC [1,2] a9 ba rfl;refine Ay h fun dc b0 h=>?_;have j:=j.trans (Ab hH (bg.trans (bh.trans bi)));refine Ab8 (OO (a0:=y22.1) (a1:=(0,0)) (O:=[.box z [Abj y22.2.1,No y22.2.2] 86]) hH ba (aa.mono j) (ab.mono j) (ac.mono j) b0) ?_;rintro dd ⟨cp,cq,cr,am,cs,bb,bc,bd⟩ az frz
 cases h
 exact⟨_,SC rfl (.cell rfl AcF rfl AO (AL (i:=0) am rfl)) (.cell rfl Ack rfl AW (AL (i:=1) am rfl)) frz,am.ext,_,_,_,rfl,(bb.mono (B5 hH)),(bc.mono (B5 hH)),(bd.mono (B5 hH))⟩
end Go.Proofs.YtekmbcbgknmhiaaGreatDoor
end
noncomputable section
namespace Go.Proofs.YtekmbcbgknmhiaaGreatDoor
open Go Go.L
theorem YZ{s:List UInt8}{c:UInt8}(hs:s.length<=1000000):strings_Split s [c]=some (Lib.split s [c]):=by
 unfold strings_Split Nj;rw [Al ⟨by omega,rfl,rfl,rfl⟩]
 rfl
theorem AdO{α:Type}{k:Int}(o:Option (α×List UInt8)):Option.bind (T8 k o) (fun x=>QP x (some none) (fun y=>some (some (y.1,(y.2.1,y.2.2)))))=T8 k o:=by
 cases o <;> rfl
theorem T2{one:List UInt8->Option (Qv×List UInt8)}{self:(List UInt8×Int)->Option (Option (Qv×(List UInt8×Int)))}{k:Int}{n:Nat}(hn:n<=1000000)(a:Px one)(hs:∀ r,r.length<n->self (r,k)=T8 k (one r))
  {kind:Int} {sg:UInt8} {y:Qv×(List UInt8×Int)}:∀ (f:Nat) (l:List Qv) (r:List UInt8),r.length<f->r.length<n->l.length+r.length<=2000000->
  Ci kind [sg] self y (l,r,k)=T8 k ((Tp one sg f l r).map fun x=>(if x.1.length=1 then y.1 else .mk kind [] [] [] 0 0 x.1,x.2))
 | 0,_,_,h,_,_=>by omega
 | f+1,l,r,h,hr,hl=>by
  unfold Ci;rw [Tp]
  by_cases hsg:r.head? = some sg
  ·have ht:=BR hsg;rw [if_pos hsg]
   have hb:BK kind [sg] self y (l,r,k)=Option.bind (T8 k (one r.tail)) (fun b=>QP b (Option.map Sum.inr (some none)) (fun y86=>Go.L.AS (Go.E.J3 112 (l.length+([y86.1]).length)) (some (Sum.inl ((l++[y86.1]),y86.2.1,y86.2.2))))):=by
    unfold BK;simp only;rw [ON hsg,Option.bind_some];simp only [if_true];rw [hs _ (by omega)]
   cases ho:one r.tail with
   | none=>
    rw [ho] at hb;exact Bh (m:=some none) hb
   | some x=>
    rw [ho] at hb;obtain⟨_,hx⟩:=a r.tail x (by omega) ho
    have hb':BK kind [sg] self y (l,r,k)=some (.inl (l++[x.1],x.2,k)):=by
     rw [hb]
     show Go.L.AS _ _=_
     rw [Al (by unfold Go.E.J3;simp only [List.length_cons,List.length_nil];omega)]
    rw [B2 hb',Option.bind_some];have:=T2 (kind:=kind) (sg:=sg) (y:=y) hn a hs f (l++[x.1]) x.2 (by omega) (by omega) (by simp;omega);unfold Ci at this;exact this
  ·rw [if_neg hsg];refine Bh ?_;unfold BK;simp only;rw [NV hsg,Option.bind_some];simp only [Bool.false_eq_true,if_false];unfold CT T8;simp only [Option.map_some]
   by_cases he:l.length=1
   ·rw [if_pos he,if_pos (by omega)];rfl
   ·rw [if_neg he,if_neg (by omega)];rfl
theorem U2{one:List UInt8->Option (Qv×List UInt8)}{self:(List UInt8×Int)->Option (Option (Qv×(List UInt8×Int)))}{k:Int}{n:Nat}(hn:n<=1000000)(a:Px one)(hs:∀ r,r.length<n->self (r,k)=T8 k (one r))
  {kind:Int} {sg:UInt8} {r:List UInt8} (hr:r.length<n):C3 self (r,k) kind [sg]=T8 k (V8 one kind sg r):=by
 unfold C3 V8;simp only;rw [hs r hr]
 cases ho:one r with
 | none=>rfl
 | some x=>
  obtain⟨_,hx⟩:=a r x (by omega) ho
  show Ci kind [sg] self (x.1,(x.2,k)) ([x.1],x.2,k)=_
  rw [T2 hn a hs (x.2.length+1) [x.1] x.2 (by omega) (by omega) (by simp;omega)]
  rfl
theorem W9{lf:List UInt8->Option (Qv×List UInt8)}{self:(List UInt8×Int)->Option (Option (Qv×(List UInt8×Int)))}{k:Int}{n:Nat}(hn:n<=1000000)(a:Px lf)(hs:∀ r,r.length<n->self (r,k)=T8 k (lf r))
  {r:List UInt8} (hr:r.length<n):CF self (r,k)=T8 k (RW lf r):=by
 have b:∀ r,r.length<n->Cx self (r,k)=T8 k (V8 lf 8 38 r):=fun r hr=>by
  unfold Cx;rw [U2 hn a hs hr];exact AdO _
 have c:EA self (r,k) 9 [124]=C3 (Cx self) (r,k) 9 [124]:=rfl;unfold CF;simp only;rw [c,U2 hn (Rl a) b hr];exact AdO _
theorem AaZ{k:Int}:∀ (n m:Nat) (r:List UInt8),n<=1000000->r.length<n->n<=m->Cy m (r,k)=T8 k (MQ Sn n r)
 | 0,_,_,_,h,_=>by omega
 | n+1,0,_,_,_,h=>by omega
 | n+1,m+1,r,hn,hr,hm=>by
  have ih:∀ r,r.length<n->Cy m (r,k)=T8 k (MQ Sn n r):=fun r hr=>AaZ n m r (by omega) hr (by omega)
  show CA (Cy m) (r,k)=_
  unfold CA;simp only;rw [MQ]
  by_cases b:r.head? = some 33
  ·have:=BR b;rw [ON b,if_pos b,Option.bind_some];simp only [if_true];rw [ih _ (by omega)]
   cases MQ Sn n r.tail <;> rfl
  rw [NV b,if_neg b,Option.bind_some];simp only [Bool.false_eq_true,if_false]
  by_cases c:r.head? = some 40
  ·have:=BR c;rw [ON c,if_pos c,Option.bind_some];simp only [if_true];rw [W9 (by omega) (Rm Tx n) ih (by omega)]
   cases RW (MQ Sn n) r.tail with
   | none=>rfl
   | some x=>
    show Option.bind (B7 (x.2,k) [41]) _=_
    rw [AaK,Option.bind_some];unfold Yh
    by_cases g:x.2.head? = some 41
    ·rw [if_pos g]
     show _=T8 k (if x.2.head? = some 41 then some (x.1,x.2.tail) else none)
     rw [if_pos g]
     rfl
    ·rw [if_neg g]
     show _=T8 k (if x.2.head? = some 41 then some (x.1,x.2.tail) else none)
     rw [if_neg g]
     rfl
  rw [NV c,if_neg c,Option.bind_some];simp only [Bool.false_eq_true,if_false];unfold Sn
  by_cases d:r.head? = some 34
  ·have:=BR d;have hl:=M9 [34] r.tail;rw [ON d,if_pos d,Option.bind_some];simp only [if_true];rw [QB (by omega) (.inr rfl),Option.bind_some];simp only;rw [YZ (by omega),Option.bind_some,AaK,Option.bind_some]
   cases Yh 34 (Nq [34] r.tail).2 <;> rfl
  rw [NV d,if_neg d,Option.bind_some];simp only [Bool.false_eq_true,if_false]
  by_cases e:r.head? = some 39
  ·have:=BR e;rw [ON e,if_pos e,Option.bind_some];simp only [if_true];rw [W6 (by omega)]
   cases W0 r.tail [] <;> rfl
  rw [NV e,if_neg e,Option.bind_some];simp only [Bool.false_eq_true,if_false]
  by_cases f:r.head? = some 47
  ·have:=BR f;rw [ON f,if_pos f,Option.bind_some];simp only [if_true];rw [Ac2 (by omega)];exact AdO _
  rw [NV f,if_neg f,Option.bind_some];simp only [Bool.false_eq_true,if_false];unfold pwd;have hl:=M9 [126,38,124,41] r;rw [QB (by omega) (.inl (.inr rfl)),Option.bind_some]
  by_cases a:(Nq [126,38,124,41] r).2.head? = some 126
  ·have:=BR a;rw [ON a,if_pos a,Option.bind_some];simp only [Bool.not_true,Bool.false_eq_true,if_false];rw [Rn (by omega)]
   cases hp:RX (Nq [126,38,124,41] r).2.tail with
   | none=>rfl
   | some x=>
    obtain⟨_,hx⟩:=QA _ _ hp
    show Option.bind (B7 (x.2,k) [126]) _=_
    rw [AaK,Option.bind_some,Option.bind_some]
    cases he:Yh 126 x.2 with
    | none=>rfl
    | some t=>
     have:=Sp he
     show Option.bind (Cn (t,k) [126,38,124,41]) _=_
     rw [QB (by omega) (.inl (.inr rfl))]
     rfl
  ·rw [NV a,if_neg a]
   rfl
theorem Aba{s:List UInt8}(hs:s.length<=200):Ex s=some (match acc (RW (MQ Sn 201)) s with
 | some q=>(q,(0,0))
 | none=>(.mk 0 [] [] [] 0 0 [],(1,-1))):=by
 unfold Ex acc;rw [if_neg (by omega)]
 have hq:CF G2 (s,0)=T8 0 (RW (MQ Sn 201) s):=
  W9 (n:=201) (by omega) (Rm Tx 201) (fun r hr=>AaZ 201 1000 r (by omega) hr (by omega)) (by omega)
 rw [hq]
 cases hp:RW (MQ Sn 201) s with
 | none=>rfl
 | some x=>
  obtain⟨hq,_⟩:=Ty Tx 201 s x (by omega) hp;rw [Option.bind_some]
  show Option.bind (Ev x.1) _=_
  rw [Aa6 hq,Option.bind_some];simp only
  by_cases h:(Ye x.1).1=0
  ·have a:=(Tn h).2.2.2;rw [if_pos h]
   by_cases h2:x.2=[]/\tx 8 x.1=s
   ·rw [if_neg (by rw [a];simp [h2.1,h2.2]),if_pos ⟨h2.1,h,h2.2⟩]
    rfl
   ·rw [if_pos (by
     rw [a];simp
     by_cases e:x.2=[]
     ·exact .inr fun e'=>h2 ⟨e,e'⟩
     ·exact .inl e),if_neg (fun e=>h2 ⟨e.1,e.2.2⟩)]
    rfl
  ·rw [if_pos (by simp [h]),if_neg (fun e=>h e.2.1)]
   rfl
end Go.Proofs.YtekmbcbgknmhiaaGreatDoor
end
