/- Texts of a claim, merged. -/
import Derived.Test.YtekmbcbgknmhiaaGreatDoorLa2
import Derived.KernelRfl
import Derived.Shelf.Strings.FuncGrows
import Derived.Shelf.Sort.Plain
import Derived.Shelf.Slices.In.SortNone
import Derived.Shelf.Slices.CompactI
import Derived.Shelf.Slices.CompactS
import Derived.Shelf.SlSortCmp.NoneTotal
import Derived.Maps.RangeRun
set_option linter.unusedVariables false
set_option linter.unusedSimpArgs false
open _root_.Go.Proofs.Tryz renaming underlying9→AaG,underlying23→AaQ,underlying28→AaR,underlying5→AaS,underlying22→AaT,underlying64→AaU,underlying3→Aau,underlying205→Abb,underlying135→Abi,underlying131→Abk,underlying21→Abl,underlying62→Abo
noncomputable section
namespace Go.Proofs.YtekmbcbgknmhiaaGreatDoor
open Go Go.E Go.RowKit Go.L
set_option maxHeartbeats 1000000
set_option maxRecDepth 10000
open _root_.Go.Proofs.Tryz
def Ft(c:Int)(d:Aas)(a:List (Aas×Int×Int))(b:Int):Option (((List (Aas×Int×Int))×Int) ⊕ ((List (Aas×Int×Int)))):=
 AY (Go.E.JE 32 (a.length+1)) (Option.map Sum.inr (some ((a++[(d,c,b)]))))
def BX(a1:Aas)(d:List (Aas×Int×Int))(e:Int):Aas×Int→Option ((Aas×Int) ⊕ (((List (Aas×Int×Int))×Int) ⊕ ((List (Aas×Int×Int))))):=fun⟨c,a⟩=>
 if a<(a1.length:Int) then AY (0≤a∧a≤(a1.length:Int)) (Option.bind (Ij (a1.drop a.toNat)) (fun b=>if b.1=([]:Aas) then AY (BJ (a+b.2)) (if c=([]:Aas) then Option.map Sum.inr (some (Sum.inl (d,(a+b.2)))) else AY (Go.E.JE 32 (d.length+1)) (Option.map Sum.inr (some (Sum.inl ((d++[(c,e,a)]),(a+b.2)))))) else AY (c.length+b.1.length≤9223372036854775807) (AY (BJ (a+b.2)) (some (Sum.inl ((c++b.1),(a+b.2))))))) else Option.map Sum.inr ((Ft e) c d a)
def JM(a1:Aas)(b:List (Aas×Int×Int))(a:Int)(s:Aas×Int):Option (((List (Aas×Int×Int))×Int) ⊕ ((List (Aas×Int×Int)))):=Go.L.run (BX a1 b a) s
def BY(a1:Aas):(List (Aas×Int×Int))×Int→Option (((List (Aas×Int×Int))×Int) ⊕ ((List (Aas×Int×Int)))):=fun⟨b,a⟩=>
 if a<(a1.length:Int) then(JM a1 b a) (([]:Aas),a) else Option.map Sum.inr (some (b))
def JN(a1:Aas)(s:(List (Aas×Int×Int))×Int):Option ((List (Aas×Int×Int))):=Go.L.run (BY a1) s
def IE(a0:List (Aas×Int×Int))(a1:Aas):Option ((List (Aas×Int×Int))):=
 (JN a1) (a0,(0:Int))
theorem P4{l w:World}{H:PH}(hH:Le H (hp l))(hU:Dt H){O:List AN}{a0:List (Aas×Int×Int)}{a1:Aas}{la0 Da0 ba0:Nat}{ca0:Loop}{va0:Value}{xsa0:List Value}{va1_0:Value}{pa1:Addr}(be:WO Tryz.prog (.pair .st (.pair (.int .i64) (.int .i64))) 3 32 la0 Da0 ba0 ca0 131 135)(hL:AR l (HAppend.hAppend ([.obj la0 (.loop ca0),.obj Da0 (.deferred (some [])),.box ba0 [va0] 131,.row (va0) 135 3 (a0).length (xsa0)]:List AN) O) w)(b3:AM (.pair .st (.pair (.int .i64) (.int .i64))) (gz H l w (HAppend.hAppend ([.obj la0 (.loop ca0),.obj Da0 (.deferred (some [])),.box ba0 [va0] 131,.row (va0) 135 3 (a0).length (xsa0)]:List AN) O)) (a0) xsa0)(bh:AI .byte (gz H l w (HAppend.hAppend ([.obj la0 (.loop ca0),.obj Da0 (.deferred (some [])),.box ba0 [va0] 131,.row (va0) 135 3 (a0).length (xsa0)]:List AN) O)) va1_0 (a1))(b4:GM (gz H l w (HAppend.hAppend ([.obj la0 (.loop ca0),.obj Da0 (.deferred (some [])),.box ba0 [va0] 131,.row (va0) 135 3 (a0).length (xsa0)]:List AN) O)) pa1 [va1_0]){r:(List (Aas×Int×Int))}(h:IE a0 a1=some r):
  Ok Tryz.prog 180 [.func (.yield la0) #[] #[],.pointer (some pa1)] w (fun v w'=>∃ (u0:Value) (y0:List Value),v=.tuple #[]∧AR l (HAppend.hAppend ([.obj la0 (.loop ca0),.obj Da0 (.deferred (some [])),.box ba0 [u0] 131,.row u0 135 3 (r).length y0]:List AN) O) w'∧Le (fz w (HAppend.hAppend ([.obj la0 (.loop ca0),.obj Da0 (.deferred (some [])),.box ba0 [va0] 131,.row (va0) 135 3 (a0).length (xsa0)]:List AN) O)) (fz w' (HAppend.hAppend ([.obj la0 (.loop ca0),.obj Da0 (.deferred (some [])),.box ba0 [u0] 131,.row u0 135 3 (r).length y0]:List AN) O))∧AM (.pair .st (.pair (.int .i64) (.int .i64))) (gz H l w' (HAppend.hAppend ([.obj la0 (.loop ca0),.obj Da0 (.deferred (some [])),.box ba0 [u0] 131,.row u0 135 3 (r).length y0]:List AN) O)) (r) y0):=by
 refine A5 (n:=53) [(0,.func (.yield la0) #[] #[]),(1,.pointer (some pa1))] func180 rfl rfl rfl rfl rfl ?_;have hT:=Le.refl (fz w (HAppend.hAppend ([.obj la0 (.loop ca0),.obj Da0 (.deferred (some [])),.box ba0 [va0] 131,.row (va0) 135 3 (a0).length (xsa0)]:List AN) O));refine SI ?_;have bf:=hL.rG H;refine AD 1 rfl<|A8<|Y6<|Ao<|A4 ?_;obtain⟨a9,h⟩:=Bb h;refine Bu (σ:=(List (Aas×Int×Int))×Int×Value×(List Value)×Nat) (fun⟨m,a,g,d,n⟩=>[(0,.func (.yield la0) #[] #[]),(1,.pointer (some pa1)),(3,No a)]) (fun⟨m,a,g,d,n⟩ wr=>DM l (HAppend.hAppend ([.obj la0 (.loop ca0),.obj Da0 (.deferred (some [])),.box ba0 [g] 131,.row (g) 135 3 (m).length (d)]:List AN) O) wr fun Oz=>GM (gz H l wr Oz) pa1 [va1_0]∧AI .byte (gz H l wr Oz) (va1_0) (a1)∧AM (.pair .st (.pair (.int .i64) (.int .i64))) (gz H l wr Oz) (m) (d)∧Le (fz w (HAppend.hAppend ([.obj la0 (.loop ca0),.obj Da0 (.deferred (some [])),.box ba0 [va0] 131,.row (va0) 135 3 (a0).length (xsa0)]:List AN) O)) (fz wr Oz)∧FM (BY a1) n (m,a)=some r) (fun⟨m,a,g,d,n⟩=>n) (a0,(0:Int),va0,xsa0,a9) (.cons rfl (.cons rfl (.cons rfl (Sub.nil _)))) ⟨hL,(b4.mono bf),(bh.mono bf),(b3.mono bf),hT,h⟩ ?_
 rintro⟨m,a,g,d,nn68⟩ cc ⟨af,au,av,ba,hT,h⟩;obtain⟨a9,b2,rfl,h,ag⟩:=Ba h;refine A8 ?_;have x:=af.rG H;refine Bl 1 rfl<|Af (Bh rfl AaQ rfl (au.mono x) (As hH af)) rfl<|Af (Bn rfl AaQ (av.mono x)) rfl<|AB 1 rfl<|Bg rfl (fun a5=>?_) (fun a5=>?_)
 ·have h:=A1 a5 h;refine Av<|Ao<|A4<|Bl 1 rfl<|Af (AW rfl (fun _=>Xj _ _)) rfl<|AJ KM rfl rfl af fun cj aa b5 ah _=>Ak 0 rfl rfl rfl KM b5 rfl rfl (AF rfl (AF rfl (AF rfl BM))) fun ck b6 ai=>Ad<|Bm (σ:=Aas×(List (Aas×Int×Int))×Int×Value×(List Value)) (fun⟨p,y,f,k,o⟩=>[(0,.func (.yield la0) #[] #[]),(3,No f),(4,(Aam aa))]) (fun⟨p,y,f,k,o⟩ wr=>DM l (HAppend.hAppend ([.box aa [Aar p,No a,No (0:Int)] 135,.obj la0 (.loop ca0),.obj Da0 (.deferred (some [])),.box ba0 [k] 131,.row (k) 135 3 (y).length (o)]:List AN) O) wr fun Oz=>AM (.pair .st (.pair (.int .i64) (.int .i64))) (gz H l wr Oz) (y) (o)∧Le (fz w (HAppend.hAppend ([.obj la0 (.loop ca0),.obj Da0 (.deferred (some [])),.box ba0 [va0] 131,.row (va0) 135 3 (a0).length (xsa0)]:List AN) O)) (fz wr Oz)∧(Ft a) p y f=some b2) ?_ ?_
  ·refine A4 ?_;obtain⟨a6,h⟩:=Bb h;have x:=x.trans (Ab hH (ah.trans ai));have hT:=hT.trans (ah.trans ai);refine Bu (σ:=Aas×Int×Nat) (fun⟨j,c,n⟩=>[(0,.func (.yield la0) #[] #[]),(1,.pointer (some pa1)),(3,No c),(4,(Aam aa))]) (fun⟨j,c,n⟩ wr=>DM l (HAppend.hAppend ([.box aa [Aar j,No a,No (0:Int)] 135,.obj la0 (.loop ca0),.obj Da0 (.deferred (some [])),.box ba0 [g] 131,.row (g) 135 3 (m).length (d)]:List AN) O) wr fun Oz=>GM (gz H l wr Oz) pa1 [va1_0]∧AI .byte (gz H l wr Oz) (va1_0) (a1)∧AM (.pair .st (.pair (.int .i64) (.int .i64))) (gz H l wr Oz) (m) (d)∧Le (fz w (HAppend.hAppend ([.obj la0 (.loop ca0),.obj Da0 (.deferred (some [])),.box ba0 [va0] 131,.row (va0) 135 3 (a0).length (xsa0)]:List AN) O)) (fz wr Oz)∧FM (BX a1 m a) n (j,c)=some b2) (fun⟨j,c,n⟩=>n) (([]:Aas),a,a6) (.cons rfl (.cons rfl (.cons rfl (.cons rfl (Sub.nil _))))) ⟨b6,(au.mono x),(av.mono x),(ba.mono x),hT,h⟩ ?_;rintro⟨j,c,nn155⟩ b9 ⟨z,q,t,he155_Ra0,hT,h⟩;obtain⟨a6,cd,rfl,h,ad⟩:=Ba h;refine A8 ?_;have b:=z.rG H;refine Bl 1 rfl ?_
   refine Af (Bh rfl AaQ rfl (q.mono b) (As hH z)) rfl<|Af (Bn rfl AaQ (t.mono b)) rfl<|AB 1 rfl<|Bg rfl (fun aj=>?_) (fun aj=>?_)
   ·have h:=A1 aj h;refine Av<|Ao<|A4<|Al<|Af (Bh rfl AaQ rfl (q.mono b) (As hH z)) rfl<|Ar 1 rfl ?_;obtain⟨bi,h⟩:=Ac h;refine TD rfl rfl AaQ Lj (t.mono b) bi rfl ?_;intro ce bj;obtain⟨ak,bk,h⟩:=Go.L.bind_some h;refine Ax rfl rfl z (Qe _ _ (As hH z) (hU.mono (Ai hH)) bj bk) ?_;rintro _ cf rfl ca al u;refine AB 5 rfl<|A8<|Bl 1 rfl<|Af (LP rfl rfl) rfl<|Ad<|Bg rfl (fun am=>?_) (fun am=>?_)
    ·have h:=A1 am h;refine Bl 1 rfl<|Af (Ag rfl Abi rfl BG (by decide)) rfl<|Bi 0 rfl rfl rfl BG al rfl rfl fun a7 ab ac=>Ad<|Bl 2 rfl ?_;obtain⟨bl,h⟩:=Ac h;refine Af (AK rfl rfl rfl bl) rfl<|AB 1 rfl<|A8<|WM<|KJ (Cf (Cf (Cf (Bk (Cy (Bk (JK (Bk (Cy (Bk (Fw GQ))))))))))) rfl<|Af (Ag rfl Abi rfl Fo (by decide)) rfl<|GR<|KJ (Cf (Cf (Cf (Bk (Cy (Bk (JK (Bk (Cy (Bk (Fw GQ))))))))))) rfl<|Af (Ah 0 rfl AaG rfl ab rfl rfl) rfl<|GR<|KJ (Cf (Cf (Cf (Bk (Cy (Bk (JK (Bk (Cy (Bk (Fw GQ))))))))))) rfl<|Af (MB rfl rfl) rfl ?_;refine GR<|KJ (Cf (Cf (Cf (Bk (Cy (Bk (JK (Bk (Cy (Bk (Fw GQ))))))))))) rfl<|Ar 1 rfl<|GR<|WN (s:=34) rfl (fun e=>?_) (fun e=>?_)
     ·have h:=A2 (CT e) h;refine Mm rfl rfl e<|KJ (Cf (Cf (Cf (Bk (Cy (Bk (JK (Bk (Cy (Bk (Fw GQ))))))))))) rfl<|Ar 1 rfl<|GR<|Mm rfl rfl e<|KJ (Cf (Cf (Cf (Bk (Cy (Bk (JK (Bk (Cy (Bk (Fw GQ))))))))))) rfl<|Af (AE 0 rfl Abi rfl KM ab rfl) rfl<|GR<|Mm rfl rfl e ?_;have an:AR l (HAppend.hAppend ([.box ba0 [g] 131,.row (g) 135 3 (m).length (d),.box aa [Aar j,No a,No c] 135,.obj la0 (.loop ca0),.obj Da0 (.deferred (some []))]:List AN) O) a7:=ab.Cq [4,4] rfl;have aw:=B5 [4,4] ab an rfl;have bb:AR l (HAppend.hAppend ([.obj la0 (.loop ca0),.obj Da0 (.deferred (some [])),.box ba0 [g] 131,.row (g) 135 3 (m).length (d),.box aa [Aar j,No a,No c] 135]:List AN) O) a7:=an.Cq [4,4] rfl;have ax:=B5 [4,4] an bb rfl;obtain⟨bm,h⟩:=Ac h;have b:=b.trans (Ab hH (u.trans (ac.trans (aw.trans ax))))
      have bn:=@be l a7 H ((HAppend.hAppend ([.box aa [Aar j,No a,No c] 135]:List AN) O)) (g) (.agg #[Aar j,No a,No c]) (d) [Aar j,No a,No c] (m) (j,a,c) hH bb (he155_Ra0.mono b) rfl ⟨_,_,rfl,rfl,⟨_,_,rfl,rfl,rfl⟩⟩ bm;refine TG rfl rfl rfl bn ?_;rintro cg ⟨b7,bo,bp,ay,ao⟩;refine Mm rfl rfl e<|KJ (Cf (Cf (Cf (Bk (Cy (Bk (JK (Bk (Cy (Bk (Fw GQ))))))))))) rfl<|Ar 1 rfl<|GR<|KJ (Cf (Cf (Cf (Bk (Cy (Bk (JK (Bk (Cy (Bk (Fw GQ))))))))))) rfl<|Af (A3 rfl e rfl) rfl<|GR<|Pu<|Ch rfl<|Av<|Ao<|Bq ?_;refine AH<|Mg rfl<|A6 ?_;have h:=BF.out h ad;refine Mg rfl<|PK<|Bf ?_;have bq:=bp.AP (i:=4) rfl;have h:=BF.again h ag;have hT:=hT.trans (u.trans (ac.trans (aw.trans (ax.trans (ay.trans (Am (i:=4) rfl))))));have b:=b.trans (Ab hH (ay.trans (Am (i:=4) rfl)))
      have ao:=ao.mono (Ab hH (Am (i:=4) rfl));refine AO ((m++[(j,a,c)]),(c+ak.2),b7,bo,a9) (.cons rfl (.cons rfl (.cons rfl (Sub.nil _)))) ⟨bq,(q.mono b),(t.mono b),ao,hT,h⟩ (Nat.lt_succ_self _)
     have h:=A1 (CU e) h;refine KJ (Cf (Cf (Cf (Bk (Cy (Bk (JK (Bk (Cy (Bk (Fw GQ))))))))))) rfl<|Aj rfl rfl e rfl<|GR<|KJ (Cf (Cf (Cf (Bk (Cy (Bk (JK (Bk (Cy (Bk (Fw GQ))))))))))) rfl<|Aj rfl rfl e rfl<|GR<|KJ (Cf (Cf (Cf (Bk (Cy (Bk (JK (Bk (Cy (Bk (Fw GQ))))))))))) rfl<|Aj rfl rfl e rfl<|GR<|KJ (Cf (Cf (Cf (Bk (Cy (Bk (JK (Bk (Cy (Bk (Fw GQ))))))))))) rfl<|Aj rfl rfl e rfl<|GR ?_;refine KJ (Cf (Cf (Cf (Bk (Cy (Bk (JK (Bk (Cy (Bk (Fw GQ))))))))))) rfl<|Af (A7 rfl e rfl) rfl<|GR<|Pu<|Ch rfl<|Av<|Ao<|Bq<|AH<|Mg rfl<|A6 ?_;have h:=BF.out h ad;refine Mg rfl<|PK<|Bf ?_;have br:=ab.AP (i:=0) rfl;have h:=BF.again h ag;have b:=b.trans (Ab hH (u.trans (ac.trans (Am (i:=0) rfl))))
     have hT:=hT.trans (u.trans (ac.trans (Am (i:=0) rfl)));refine AO (m,(c+ak.2),g,d,a9) (.cons rfl (.cons rfl (.cons rfl (Sub.nil _)))) ⟨br,(q.mono b),(t.mono b),(he155_Ra0.mono b),hT,h⟩ (Nat.lt_succ_self _)
    have h:=A2 am h;refine Av<|Ao<|Al<|Af (Ag rfl Abi rfl Fo (by decide)) rfl<|Af (Ah 0 rfl AaG rfl al rfl rfl) rfl<|Ar 1 rfl ?_;obtain⟨bs,h⟩:=Ac h;refine Af (Dd rfl rfl bs) rfl<|Af (Ag rfl Abi rfl Fo (by decide)) rfl<|Bi 0 rfl rfl rfl Fo al rfl rfl fun ch bt az=>Ad<|Aq<|Ar 2 rfl ?_;obtain⟨bu,h⟩:=Ac h;refine Af (AK rfl rfl rfl bu) rfl<|Ar 1 rfl<|AL<|AA ?_;have h:=BF.again h ad;have b:=b.trans (Ab hH (u.trans az));have hT:=hT.trans (u.trans az);refine AO ((j++ak.1),(c+ak.2),a6) (.cons rfl (.cons rfl (.cons rfl (.cons rfl (Sub.nil _))))) ⟨bt,(q.mono b),(t.mono b),(he155_Ra0.mono b),hT,h⟩ (Nat.lt_succ_self _)
   have h:=A2 aj h;refine Bq<|AH<|A6 ?_;have h:=BF.out h ad;refine Bf<|A9 (j,m,c,g,d) (.cons rfl (.cons rfl (.cons rfl (Sub.nil _)))) ⟨z,(he155_Ra0.mono b),hT,h⟩
  have hT:=hT.trans (ah.trans ai);rintro⟨p,y,f,k,o⟩ cb ⟨bv,ae,hT,h⟩;refine Bl 1 rfl<|Af (Ag rfl Abi rfl BG (by decide)) rfl<|Bi 0 rfl rfl rfl BG bv rfl rfl fun a8 ap a2=>Ad<|WM<|KJ (Cf (Bk (Cy (Bk (Fw GQ))))) rfl<|Ar 1 rfl<|GR<|KJ (Cf (Bk (Cy (Bk (Fw GQ))))) rfl<|Af (AE 0 rfl Abi rfl KM ap rfl) rfl<|GR ?_;have aq:AR l (HAppend.hAppend ([.box ba0 [k] 131,.row (k) 135 3 (y).length (o),.box aa [Aar p,No a,No f] 135,.obj la0 (.loop ca0),.obj Da0 (.deferred (some []))]:List AN) O) a8:=ap.Cq [4,4] rfl;have a3:=B5 [4,4] ap aq rfl;have bc:AR l (HAppend.hAppend ([.obj la0 (.loop ca0),.obj Da0 (.deferred (some [])),.box ba0 [k] 131,.row (k) 135 3 (y).length (o),.box aa [Aar p,No a,No f] 135]:List AN) O) a8:=aq.Cq [4,4] rfl;have a4:=B5 [4,4] aq bc rfl;obtain⟨bw,h⟩:=Ac h;have ae:=ae.mono (Ab hH (a2.trans (a3.trans a4)))
  have bx:=@be l a8 H ((HAppend.hAppend ([.box aa [Aar p,No a,No f] 135]:List AN) O)) (k) (.agg #[Aar p,No a,No f]) (o) [Aar p,No a,No f] (y) (p,a,f) hH bc ae rfl ⟨_,_,rfl,rfl,⟨_,_,rfl,rfl,rfl⟩⟩ bw;refine TG rfl rfl rfl bx ?_;rintro ci ⟨b8,bz,b0,bg,ar⟩;refine Pu<|Az<|Ay<|BB ?_;have h:=BF.out h ag;refine Ay<|Ib ?_;obtain rfl:=Option.some.inj h;refine Yz rfl ?_;have b1:=b0.AP (i:=4) rfl;have hT:=hT.trans (a2.trans (a3.trans (a4.trans (bg.trans (Am (i:=4) rfl)))));have ar:=ar.mono (Ab hH (Am (i:=4) rfl));exact⟨b8,bz,rfl,b1,hT,ar⟩
 have h:=A2 a5 h;refine Bq<|AH<|A6 ?_;have h:=BF.out h ag;refine Bf<|WK ?_;obtain rfl:=Option.some.inj h;refine Ju rfl ?_;exact⟨g,d,rfl,af,hT,(ba.mono x)⟩
end Go.Proofs.YtekmbcbgknmhiaaGreatDoor
end
noncomputable section
namespace Go.Proofs.YtekmbcbgknmhiaaGreatDoor
open Go Go.E Go.RowKit
def Iter(H:PH)(v:Value)(l:List UInt8):Prop:=∃ p u,v=.func (.func 180) #[] #[.pointer (some p)]∧GM H p [u]∧AI .byte H u l
theorem Iter.mono{H H':PH}{v:Value}{l:List UInt8}(h:Iter H v l)(hs:Le H H'):Iter H' v l:=by
 obtain⟨p,u,a,h2,h3⟩:=h;exact⟨p,u,a,h2.mono hs,h3.mono hs⟩
abbrev rpW:Rp (List UInt8×Int×Int):=.pair .st (.pair (.int .i64) (.int .i64))
def LY(l:List UInt8):Option (List (List UInt8×Int×Int)):=IE [] l
theorem TS(w:World)(H:PH)(hH:Le H (hp w)){a0:List UInt8}{b:Value}(e:AI .byte H b a0):
  Ok Tryz.prog 129 [b] w (fun v w'=>Ext w w'∧Iter (un H (nw w w')) v a0):=by
 refine A5 (n:=4) [(0,b)] Tryz.func129 rfl rfl rfl rfl rfl ?_;have hL:=AR.start w;refine Al<|SC (t:=23) rfl e.one rfl hL fun c a d l _=>Ar 1 rfl<|Ad<|Al<|Ar 2 rfl<|Ad<|Az<|An rfl rfl ?_;have f:GM (hp c) ⟨a,0,none⟩ [b]:=AS (i:=0) d rfl;have hn:a≥w.heap.size:=d.own _ (.head _) a rfl;refine⟨d.ext,⟨a,0,none⟩,b,rfl,⟨rfl,fun j u hj=>?_⟩,e.mono (GP hH)⟩;have g:=f.2 j u hj
 have h2:un H (nw w c) a=hp c a:=by
  have h3:nw w c a=hp c a:=by unfold nw;rw [if_pos hn];rfl
  cases h:hp c a with
  | none=>
   have:=d.at (i:=0) rfl;have k:c.heap[a]? = none:=h;rw [show c.heap[a]? = _ from this] at k
   cases k
  | some o=>exact FP a o (h3.trans h)
 simp only [Addr.add_lit,Gn] at g ⊢;rw [h2];exact g
set_option maxRecDepth 10000 in
theorem SS(w:World)(H:PH)(hH:Le H (hp w))(hU:Dt H){p:Addr}{u:Value}{l0:List UInt8}(hpt:GM H p [u])(hv:AI .byte H u l0){r:List (List UInt8×Int×Int)}(h:IE [] l0=some r):
  Ok Tryz.prog 179 [.slice none 0 0,.func (.func 180) #[] #[.pointer (some p)]] w (fun v w'=>Ext w w'∧Co 135 rpW H w w' v r):=by
 refine VC (k:=13) [(0,.slice none 0 0),(1,.func (.func 180) #[] #[.pointer (some p)])] Tryz.func179 rfl rfl rfl rfl rfl ?_;have hL:=AR.start w;refine Al<|SC (t:=131) rfl rfl rfl hL fun w1 d af ax _=>Ar 1 rfl<|Ad<|A8<|Al<|Ar 1 rfl<|Ad<|A4<|Y8 (cap:=[.pointer (some p)]) rfl ⟨Tryz.f180,_,Tryz.func180,rfl,rfl⟩ af ?_;intro a fr fn l D w2 rec hrec ag ay
 have hY:WO Tryz.prog rpW 3 32 l D d rec 131 135:=by
  subst hrec;refine WV (p:=7) (k:=13) rfl rfl rfl ⟨fr.size,rfl,fr.get⟩ rfl ?_;intro x0 x1 G P v y xs c m x hG hM he hy hx hc;obtain⟨xa,xb,xc⟩:=x;obtain⟨_,_,rfl,rfl,_,_,rfl,rfl,rfl⟩:=hx;refine RZ rfl Y7<|AJ KM rfl rfl hM fun w3 bx ah f _=>Ak 0 rfl rfl hy KM ah rfl rfl (AF rfl (AF rfl (AF rfl BM))) fun w4 ai g=>AL<|WU (i:=1) rfl ai rfl fun w5 b j=>WQ<|RZ rfl (Bk WT)<|Af (Ah 3 rfl Tryz.underlying131 rfl b rfl rfl) rfl<|Af (AE 0 rfl Tryz.underlying135 rfl KM b rfl) rfl<|Br (r:=rpW) (l:=[(xa,xb,xc)]) rfl (fun _=>TM _ _ _ _) rfl (show 1≤9223372036854775807 by decide) hG b (.c3 ⟨_,_,rfl,rfl,_,_,rfl,rfl,rfl⟩ .nil) fun v6 w6 a6 aj n ak=>Bo (r:=rpW) (l:=m) (m:=[(xa,xb,xc)]) 4 rfl rfl Tryz.underlying131 KM rfl (by decide) rfl hG aj rfl (((he.mono (Ab hG f)).mono (Ab hG g)).mono (Ab hG j) |>.mono (Ab hG n)) ak hc fun v7 w7 al o am an=>Bi 3 rfl rfl (row_one (o.at (i:=4) rfl)) Aa7 o rfl rfl ?_;intro w8 ao q;refine AL<|AA<|SJ (i:=1) ao rfl ?_;intro w9 ap s;refine⟨rfl,v7,al,ap.AP (i:=0) rfl,((((((f.trans g).trans j).trans n).trans am).trans q).trans s).trans (Am (i:=0) rfl),?_⟩
  exact((an.mono (Ab hG q)).mono (Ab hG s)).mono (Ab hG (Am (i:=0) rfl))
 obtain⟨aq,a3,a7⟩:=Ck rpW H 135 ag
 have ar:(yR l D d rec 131 135 3 (.slice none 0 0) ([]:List (List UInt8×Int×Int)).length []++[]).Perm (.row (.slice none 0 0) 135 rpW.sz ([]:List (List UInt8×Int×Int)).length []::[.obj l (.loop rec),.obj D (.deferred (some [])),.box d [.slice none 0 0] 131]):=
  List.perm_append_comm (l₁:=([.obj l (.loop rec),.obj D (.deferred (some [])),.box d [.slice none 0 0] 131]:List AN)) (l₂:=([.row (.slice none 0 0) 135 3 0 []]:List AN))
 have au:=aq.perm ar;have hc:=P4 hH hU (O:=[]) hY au .nil (hv.mono (Ai hH)) (hpt.mono (Ai hH)) h;refine hc.2.mono fun e w5 ⟨v5,av,hR⟩=>⟨⟨v5,av⟩,?_⟩;obtain⟨u0,y0,_,aw,a5,ab⟩:=hR;refine⟨_,aw,fun w6 z ac=>?_⟩;refine AA<|Ao<|Al<|Af (Ah 2 rfl Tryz.underlying131 rfl z rfl rfl) rfl<|Ar 1 rfl<|Ad<|Az<|Y9 (i:=1) (l:=[.tmp 4]) rfl rfl z rfl ?_;intro w7 aa ad;exact⟨aa.ext,aa.Gp hH (i:=3) rfl ((ab.mono (Ab hH ac)).mono (Ab hH ad))⟩
theorem Rm(w:World)(H:PH)(hH:Le H (hp w))(hU:Dt H){a:Value}{a0:List UInt8}(b:Iter H a a0){r:List (List UInt8×Int×Int)}(h:LY a0=some r):
  Ok Tryz.prog 128 [a] w (fun v w'=>Ext w w'∧∃ c,v=c∧Co 135 rpW H w w' c r):=by
 obtain⟨p,u,rfl,h2,h3⟩:=b;refine A5 (n:=5) [(0,.func (.func 180) #[] #[.pointer (some p)])] Tryz.func128 rfl rfl rfl rfl rfl<|Al<|Ar 1 rfl<|Ad<|Al<|Ar 1 rfl<|Du rfl rfl (SS w H hH hU h2 h3 h) ?_;intro v w' ⟨hx,ho⟩;refine Ar 1 rfl<|Ad<|Az<|An rfl rfl ⟨hx,_,rfl,ho⟩
end Go.Proofs.YtekmbcbgknmhiaaGreatDoor
end
noncomputable section
namespace Go.Proofs.YtekmbcbgknmhiaaGreatDoor
open Go Go.E Go.RowKit Go.L
set_option maxHeartbeats 1000000
set_option maxRecDepth 10000
open _root_.Go.Proofs.Tryz
def Lv(a0:Aas):Option ((List (Aas×Int×Int))×(Int×Int)):=
 if(2048:Int)<(a0.length:Int) then none else Option.bind (LY a0) (fun a=>some (a,((0:Int),(0:Int))))
theorem Rn(w:World)(H:PH)(hH:Le H (hp w))(hU:Dt H){a0:Aas}{a:Value}(b:AI .byte H a (a0)){r:(List (Aas×Int×Int))×(Int×Int)}(h:Lv a0=some r):
  Ok Tryz.prog 79 [a] w (fun v w'=>Ext w w'∧∃ o,v=.tuple #[o,.agg #[No r.2.1,No r.2.2]]∧Co 135 (.pair .st (.pair (.int .i64) (.int .i64))) H w w' o (r.1)):=by
 refine A5 (n:=12) [(0,a)] func79 rfl rfl rfl rfl rfl ?_;have hL:=AR.start w;refine Bl 1 rfl<|AJ AT rfl rfl hL fun w1 b1 c x _=>Ad<|A8<|Bl 1 rfl<|Af (Bn rfl AaQ b) rfl<|AB 1 rfl<|Bg rfl (fun d=>?_) (fun d=>?_)
 ·have h:=A1 d h
  cases h
 have h:=A2 d h;refine Av<|Ao<|Bl 1 rfl<|Ax rfl rfl c (TS _ _ (As hH c) (b.mono (Ai hH))) ?_;intro u5 w5 p q e y;have s:=p.mono (Cj hH c q);obtain⟨x6,t,h⟩:=Go.L.bind_some h;refine Ax rfl rfl e (Rm _ _ (As hH e) (hU.mono (Ai hH)) s t) ?_;rintro z w7 ⟨_,rfl,j⟩ u k l;obtain⟨aa,k,l,f⟩:=j.take hH e u;refine Af (AW rfl (fun _=>BL _)) rfl<|Ar 1 rfl<|Ak 1 rfl rfl rfl AT k rfl rfl (AF rfl (AF rfl BM)) fun w8 g m=>Ad<|Az ?_;obtain rfl:=Option.some.inj h;refine Cm rfl (.tmp rfl) (.cell rfl AaR rfl AT (AS (i:=1) g rfl)) ?_;have f:=f.mono (Ab hH m);exact⟨g.ext,_,rfl,(g.Gp hH (i:=0) rfl f)⟩
def Ik(a0:Aas):Option (Bool):=
 AY (a0.length≤9223372036854775807) (Option.bind (LY a0) (fun a=>if(a.length:Int)=(1:Int) then AY (0≤(0:Int)∧(0:Int)<(a.length:Int)) (some (decide ((a.getD ((0:Int).toNat) default).1=a0))) else some (false)))
theorem Qg(w:World)(H:PH)(hH:Le H (hp w))(hU:Dt H){a0:Aas}{r:Bool}(h:Ik a0=some r):
  Ok Tryz.prog 157 [Aar a0] w (fun v w'=>Ext w w'∧v=.bool r):=by
 refine A5 (n:=19) [(0,(Aar a0))] func157 rfl rfl rfl rfl rfl ?_;have hL:=AR.start w;refine AD 1 rfl<|Bl 1 rfl ?_;obtain⟨j,h⟩:=Ac h;refine WG (H:=H) rfl AaG AaQ AaS rfl hL j fun v1 w1 aa c u k=>Ax rfl rfl c (TS _ _ (As hH c) k) ?_;intro u3 w3 l m d x;have o:=l.mono (Cj hH c m);obtain⟨x4,p,h⟩:=Go.L.bind_some h;refine Ax rfl rfl d (Rm _ _ (As hH d) (hU.mono (Ai hH)) o p) ?_;rintro y w5 ⟨_,rfl,f⟩ q e z;have b:=f.Ct hH d q;refine AB 1 rfl<|Bl 1 rfl<|Af (Bn rfl Abk b) rfl<|Ar 2 rfl<|AQ (s:=11) rfl (fun a=>?_) (fun a=>?_)
 ·have h:=A1 (of_decide_eq_true a) h;refine Aa rfl rfl a<|Af (Ae rfl) rfl<|Aa rfl rfl a ?_;obtain⟨g,h⟩:=Ac h;refine Be rfl rfl Abk KM b ((0:Int).toNat) (Int.toNat_of_nonneg g.1).symm (AZ g) rfl ?_;rintro p8 _ ⟨_,_,rfl,rfl,⟨_,_,rfl,rfl,rfl⟩⟩ t;refine Aa rfl rfl a<|Af (Ag rfl Abi rfl Fo (by decide)) rfl ?_;have i:=t.add 0;refine Aa rfl rfl a<|Af (Bh rfl AaG rfl i (As hH e)) rfl<|Aa rfl rfl a<|Af (Ae rfl) rfl<|Aa rfl rfl a<|Af (LP rfl rfl) rfl<|Af (A3 rfl a rfl) rfl<|AB 1 rfl<|Az ?_;obtain rfl:=Option.some.inj h;refine An rfl rfl ?_;exact⟨e.ext,rfl⟩
 have h:=A2 (of_decide_eq_false a) h
 iterate 6 refine Aj rfl rfl a rfl ?_
 refine Af (A7 rfl a rfl) rfl<|AB 1 rfl<|Az ?_;obtain rfl:=Option.some.inj h;refine An rfl rfl ?_;exact⟨e.ext,rfl⟩
def HQ(a0:Aas):Option ((Int×Int)):=
 if(64:Int)<(a0.length:Int) then Option.bind (Kf (3:Int) (-1:Int)) (fun b=>some ((b.1,b.2))) else Option.bind (Ik a0) (fun c=>if !c then Option.bind (Kf (6:Int) (-1:Int)) (fun a=>some ((a.1,a.2))) else some (((0:Int),(0:Int))))
theorem Nn(w:World)(H:PH)(hH:Le H (hp w))(hU:Dt H){a0:Aas}{r:(Int×Int)}(h:HQ a0=some r):
  Ok Tryz.prog 102 [Aar a0] w (fun v w'=>Ext w w'∧v=.agg #[No r.1,No r.2]):=by
 refine A5 (n:=12) [(0,(Aar a0))] func102 rfl rfl rfl rfl rfl ?_;have hL:=AR.start w;refine Al<|AJ AT rfl rfl hL fun w1 b1 b t _=>Ad<|A8<|Bl 1 rfl<|Af (CL rfl AaG) rfl<|AB 1 rfl<|Bg rfl (fun c=>?_) (fun c=>?_)
 ·have h:=A1 c h;refine Al ?_;obtain⟨x4,l,h⟩:=Go.L.bind_some h;refine Ax rfl rfl b (Nk _ _ (As hH b) l) ?_;rintro _ w5 rfl aa m u;refine Ak 0 rfl rfl rfl AT m rfl rfl (AF rfl (AF rfl BM)) fun w6 g x=>Ad<|Az<|Au ?_;obtain rfl:=Option.some.inj h;refine B7 rfl (.cell rfl AaR rfl AT (AS (i:=0) g rfl)) ?_;exact⟨g.ext,rfl⟩
 have h:=A2 c h;refine Av<|Ao<|A8<|Bl 1 rfl ?_;obtain⟨x8,o,h⟩:=Go.L.bind_some h;refine Ax rfl rfl b (Qg _ _ (As hH b) (hU.mono (Ai hH)) o) ?_;rintro _ w9 rfl ab d y;refine AB 1 rfl<|By rfl (fun a=>?_) (fun a=>?_)
 ·have h:=Bv a h;refine Al ?_;obtain⟨ac,j,h⟩:=Go.L.bind_some h;refine Ax rfl rfl d (Nk _ _ (As hH d) j) ?_;rintro _ ad rfl z k p;refine Ak 0 rfl rfl rfl AT k rfl rfl (AF rfl (AF rfl BM)) fun ae e q=>Ad<|Az<|Au ?_;obtain rfl:=Option.some.inj h;refine B7 rfl (.cell rfl AaR rfl AT (AS (i:=0) e rfl)) ?_;exact⟨e.ext,rfl⟩
 have h:=Bw a h;refine Av<|Ao<|Al<|Af (AW rfl (fun _=>BL _)) rfl<|Ak 0 rfl rfl rfl AT d rfl rfl (AF rfl (AF rfl BM)) fun af f s=>Ad<|Az ?_;obtain rfl:=Option.some.inj h;refine B7 rfl (.cell rfl AaR rfl AT (AS (i:=0) f rfl)) ?_;exact⟨f.ext,rfl⟩
end Go.Proofs.YtekmbcbgknmhiaaGreatDoor
end
noncomputable section
namespace Go.L
open Go
def bt(l:List UInt8)(k:Nat):Nat:=(l.getD k default).toNat
def cont(l:List UInt8)(k:Nat):Bool:=decide (k<l.length∧128≤bt l k∧bt l k≤191)
def ZB(l:List UInt8):Nat:=((bt l 0 - 224) * 64+(bt l 1 - 128)) * 64+(bt l 2 - 128)
def pt4(l:List UInt8):Nat:=(((bt l 0 - 240) * 64+(bt l 1 - 128)) * 64+(bt l 2 - 128)) * 64+(bt l 3 - 128)
def Sm(l:List UInt8):Nat:=
 if 194≤bt l 0∧bt l 0≤223 then(if cont l 1 then 2 else 0)
 else if 224≤bt l 0∧bt l 0≤239 then(if cont l 1∧cont l 2∧2048≤ZB l∧¬ (55296≤ZB l∧ZB l≤57343) then 3 else 0)
 else if 240≤bt l 0∧bt l 0≤244 then(if cont l 1∧cont l 2∧cont l 3∧65536≤pt4 l∧pt4 l≤1114111 then 4 else 0)
 else 0
def asc(c:Nat):Bool:=decide ((48≤c∧c≤57)∨(97≤c∧c≤122)∨(65≤c∧c≤90))
def MT(l:List UInt8):Nat:=if asc (bt l 0) then 1 else Sm l
def Jy(c:UInt8):UInt8:=if 65≤(c.toNat:Int)∧(c.toNat:Int)≤90 then c+32 else c
theorem YU{c:UInt8}(h:128≤c.toNat):Jy c=c:=by unfold Jy;rw [if_neg (by omega)]
theorem YV(a:List UInt8)(i k:Nat):bt (a.drop i) k=bt a (i+k):=by
 unfold bt;rw [List.getD_eq_getElem?_getD,List.getD_eq_getElem?_getD,List.getElem?_drop]
theorem Xx(l:List UInt8)(h:l≠[]):Sm l≤l.length:=by
 have hl:=List.length_pos_iff.2 h;unfold Sm cont
 split
 ·split
  ·rename_i a;have:=of_decide_eq_true a;omega
  ·omega
 ·split
  ·split
   ·rename_i a;have:=of_decide_eq_true a.2.1;omega
   ·omega
  ·split
   ·split
    ·rename_i a;have:=of_decide_eq_true a.2.2.1;omega
    ·omega
   ·omega
theorem Xy(l:List UInt8)(h:l≠[]):MT l≤l.length:=by
 have hl:=List.length_pos_iff.2 h;unfold MT
 split
 ·omega
 ·exact Xx l h
theorem YW{l:List UInt8}(h:bt l 0<128):Sm l=0:=by
 unfold Sm;rw [if_neg (by omega),if_neg (by omega),if_neg (by omega)]
theorem YX{l:List UInt8}(_hs:Sm l≠0):(l.take (Sm l)).map Jy=l.take (Sm l):=by
 have key:∀ k,k<Sm l→128≤bt l k:=by
  intro k hk;unfold Sm at hk;unfold cont at hk
  split at hk
  ·split at hk
   ·rename_i a;have:=of_decide_eq_true a;obtain h | h:k=0∨k=1:=by omega
    all_goals subst h;omega
   ·omega
  ·split at hk
   ·split at hk
    ·rename_i a;have h2:=of_decide_eq_true a.1;have h3:=of_decide_eq_true a.2.1;obtain h | h | h:k=0∨k=1∨k=2:=by omega
     all_goals subst h;omega
    ·omega
   ·split at hk
    ·split at hk
     ·rename_i a;have h2:=of_decide_eq_true a.1;have h3:=of_decide_eq_true a.2.1;have b:=of_decide_eq_true a.2.2.1;obtain h | h | h | h:k=0∨k=1∨k=2∨k=3:=by omega
      all_goals subst h;omega
     ·omega
    ·omega
 apply List.ext_getElem (by simp);intro k a h2;rw [List.getElem_map,List.getElem_take];apply YU;have hk:k<Sm l:=by simp at h2;omega
 have:=key k hk;have hkl:k<l.length:=by simp at h2;omega
 unfold bt at this;rw [List.getD_eq_getElem?_getD,List.getElem?_eq_getElem hkl] at this;exact this
theorem TT(l:List UInt8)(k:Nat):((ByteArray.mk l.toArray).get! k).toNat=bt l k:=by
 simp [ByteArray.get!,bt,List.getD_eq_getElem?_getD,getElem!_def]
 cases h:l[k]? <;> rfl
theorem Aal(l:List UInt8)(hne:l≠[])(m:128≤bt l 0):(Sm l=0→Lib.decodeGo ⟨l.toArray⟩=(65533,1))∧(Sm l≠0→(Lib.decodeGo ⟨l.toArray⟩).2=Sm l∧Sm l≠1):=by
 have hsz:(ByteArray.mk l.toArray).size=l.length:=by simp [ByteArray.size]
 have hl:=List.length_pos_iff.2 hne
 have hc:∀ k,(decide (0+k<(ByteArray.mk l.toArray).size)&&((ByteArray.mk l.toArray).get! (0+k)).toNat / 64==2)=cont l k:=by
  intro k;rw [Nat.zero_add,hsz,TT];unfold cont
  by_cases a:k<l.length
  ·by_cases h2:bt l k / 64=2
   ·rw [decide_eq_true a,Bool.true_and,beq_iff_eq.2 h2,decide_eq_true ⟨a,by omega,by omega⟩]
   ·rw [decide_eq_true a,Bool.true_and,beq_eq_false_iff_ne.2 h2,decide_eq_false (fun h=>h2 (by omega))]
  ·rw [decide_eq_false a,Bool.false_and,decide_eq_false (fun h=>a h.1)]
 unfold Lib.decodeGo;rw [hsz,if_neg (by omega)];unfold Utf8.decode;simp only [hc];simp only [Nat.zero_add,TT]
 have hv:∀ c:Nat,Utf8.valid c=decide (c<55296∨(57344≤c∧c≤1114111)):=by
  intro c;rw [Bool.eq_iff_iff];unfold Utf8.valid;simp only [Bool.or_eq_true,Bool.and_eq_true,decide_eq_true_eq];omega
 simp only [hv];have f1:cont l 1=true→128≤bt l 1∧bt l 1≤191:=fun h=>(of_decide_eq_true h).2;have f2:cont l 2=true→128≤bt l 2∧bt l 2≤191:=fun h=>(of_decide_eq_true h).2;have f3:cont l 3=true→128≤bt l 3∧bt l 3≤191:=fun h=>(of_decide_eq_true h).2;have hb:bt l 0<256:=UInt8.toNat_lt _;unfold Sm ZB pt4 Utf8.runeError;generalize bt l 0=b at *;generalize bt l 1=d at *;generalize bt l 2=f at *;generalize bt l 3=g at *;generalize cont l 1=c1 at *;generalize cont l 2=c2 at *;generalize cont l 3=c3 at *;simp only [Bool.and_eq_true,beq_iff_eq,decide_eq_true_eq]
 by_cases hA:194≤b∧b≤223
 ·rw [if_pos hA,if_neg (show ¬ b<128 by omega)]
  by_cases a:c1=true
  ·have:=f1 a;rw [if_pos a,if_pos (show b / 32=6∧c1=true from⟨by omega,a⟩),if_pos (show b % 32 * 64+d % 64≥128 by omega)];exact⟨fun h=>absurd h (by decide),fun _=>⟨rfl,by decide⟩⟩
  ·rw [if_neg a,if_neg (show ¬ (b / 32=6∧c1=true) from fun h=>a h.2),if_neg (show ¬ ((b / 16=14∧c1=true)∧c2=true) from fun h=>by omega),if_neg (show ¬ (((b / 8=30∧c1=true)∧c2=true)∧c3=true) from fun h=>by omega)];exact⟨fun _=>rfl,fun h=>absurd rfl h⟩
 rw [if_neg hA]
 by_cases hB:224≤b∧b≤239
 ·rw [if_pos hB,if_neg (show ¬ b<128 by omega),if_neg (show ¬ (b / 32=6∧c1=true) from fun h=>by omega)]
  by_cases a:c1=true∧c2=true
  ·have i:=f1 a.1;have j:=f2 a.2;rw [if_pos (show(b / 16=14∧c1=true)∧c2=true from⟨⟨by omega,a.1⟩,a.2⟩)];have e:b % 16 * 4096+d % 64 * 64+f % 64=((b - 224) * 64+(d - 128)) * 64+(f - 128):=by omega
   rw [e]
   by_cases h2:2048≤((b - 224) * 64+(d - 128)) * 64+(f - 128)∧¬ (55296≤((b - 224) * 64+(d - 128)) * 64+(f - 128)∧((b - 224) * 64+(d - 128)) * 64+(f - 128)≤57343)
   ·rw [if_pos ⟨a.1,a.2,h2⟩,if_pos ⟨h2.1,(by omega)⟩];exact⟨fun h=>absurd h (by decide),fun _=>⟨rfl,by decide⟩⟩
   ·rw [if_neg (fun h=>h2 h.2.2),if_neg (fun h=>h2 ⟨h.1,by omega⟩)];exact⟨fun _=>rfl,fun h=>absurd rfl h⟩
  ·rw [if_neg (fun h=>a ⟨h.1,h.2.1⟩),if_neg (show ¬ ((b / 16=14∧c1=true)∧c2=true) from fun h=>a ⟨h.1.2,h.2⟩),if_neg (show ¬ (((b / 8=30∧c1=true)∧c2=true)∧c3=true) from fun h=>by omega)];exact⟨fun _=>rfl,fun h=>absurd rfl h⟩
 rw [if_neg hB]
 by_cases hC:240≤b∧b≤244
 ·rw [if_pos hC,if_neg (show ¬ b<128 by omega),if_neg (show ¬ (b / 32=6∧c1=true) from fun h=>by omega),if_neg (show ¬ ((b / 16=14∧c1=true)∧c2=true) from fun h=>by omega)]
  by_cases a:c1=true∧c2=true∧c3=true
  ·have i:=f1 a.1;have j:=f2 a.2.1;have n:=f3 a.2.2;rw [if_pos (show((b / 8=30∧c1=true)∧c2=true)∧c3=true from⟨⟨⟨by omega,a.1⟩,a.2.1⟩,a.2.2⟩)];have e:b % 8 * 262144+d % 64 * 4096+f % 64 * 64+g % 64=(((b - 240) * 64+(d - 128)) * 64+(f - 128)) * 64+(g - 128):=by omega
   rw [e]
   by_cases h2:65536≤(((b - 240) * 64+(d - 128)) * 64+(f - 128)) * 64+(g - 128)∧(((b - 240) * 64+(d - 128)) * 64+(f - 128)) * 64+(g - 128)≤1114111
   ·rw [if_pos ⟨a.1,a.2.1,a.2.2,h2⟩,if_pos ⟨h2.1,by omega⟩];exact⟨fun h=>absurd h (by decide),fun _=>⟨rfl,by decide⟩⟩
   ·rw [if_neg (fun h=>h2 h.2.2.2),if_neg (fun h=>h2 ⟨h.1,by omega⟩)];exact⟨fun _=>rfl,fun h=>absurd rfl h⟩
  ·rw [if_neg (fun h=>a ⟨h.1,h.2.1,h.2.2.1⟩),if_neg (fun h=>a ⟨h.1.1.2,h.1.2,h.2⟩)];exact⟨fun _=>rfl,fun h=>absurd rfl h⟩
 rw [if_neg hC];refine⟨fun _=>?_,fun h=>absurd rfl h⟩;rw [if_neg (show ¬ b<128 by omega)]
 by_cases a:b / 32=6∧c1=true
 ·have:=f1 a.2;rw [if_pos a,if_neg (show ¬ (b % 32 * 64+d % 64≥128) by omega)]
 ·rw [if_neg a,if_neg (show ¬ ((b / 16=14∧c1=true)∧c2=true) from fun h=>by omega)]
  by_cases h2:((b / 8=30∧c1=true)∧c2=true)∧c3=true
  ·have i:=f1 h2.1.1.2;rw [if_pos h2,if_neg (fun h=>by omega)]
  ·rw [if_neg h2]
end Go.L
namespace Go.Proofs.YtekmbcbgknmhiaaGreatDoor
open Go Go.L
theorem VU{l:List UInt8}(hne:l≠[]):Ij l=some (if MT l=0 then([],1) else((l.take (MT l)).map Jy,((MT l:Nat):Int))):=by
 have hl:=List.length_pos_iff.2 hne;obtain⟨c,m,rfl⟩:=List.exists_cons_of_ne_nil hne;have i:(c::m).getD ((0:Int).toNat) default=c:=rfl;have eb:bt (c::m) 0=c.toNat:=rfl;have hc:=c.toNat_lt;unfold Ij;rw [Aw ⟨by decide,by omega⟩,i]
 have hup:(65≤(c.toNat:Int))∧((c.toNat:Int)≤90)→AY (((c - (65:UInt8))+(97:UInt8)).toNat<128) (some ([((c - (65:UInt8))+(97:UInt8))],(1:Int)))=some (if MT (c::m)=0 then([],1) else(((c::m).take (MT (c::m))).map Jy,((MT (c::m):Nat):Int))):=by
  intro h
  have e:(c - (65:UInt8))+(97:UInt8)=c+32:=by
   apply UInt8.toNat.inj;rw [UInt8.toNat_add,UInt8.toNat_sub,UInt8.toNat_add];have j:(97:UInt8).toNat=97:=rfl;have k:(65:UInt8).toNat=65:=rfl;have g:(32:UInt8).toNat=32:=rfl;omega
  have n:(c+32).toNat=c.toNat+32:=by
   rw [UInt8.toNat_add];have g:(32:UInt8).toNat=32:=rfl;omega
  have d:MT (c::m)=1:=by unfold MT asc;rw [eb,if_pos (decide_eq_true (by omega))]
  rw [e,Aw (by omega),d,if_neg (by decide)]
  show some ([c+32],(1:Int))=some ([Jy c],1)
  unfold Jy;rw [if_pos h]
 have hlo:(48≤(c.toNat:Int))∧((c.toNat:Int)≤57)∨(97≤(c.toNat:Int))∧((c.toNat:Int)≤122)→AY (c.toNat<128) (some ([c],(1:Int)))=some (if MT (c::m)=0 then([],1) else(((c::m).take (MT (c::m))).map Jy,((MT (c::m):Nat):Int))):=by
  intro h;have d:MT (c::m)=1:=by unfold MT asc;rw [eb,if_pos (decide_eq_true (by omega))]
  rw [Aw (by omega),d,if_neg (by decide)]
  show some ([c],(1:Int))=some ([Jy c],1)
  unfold Jy;rw [if_neg (by omega)]
 have hnon:asc c.toNat=false→(if(c.toNat:Int)<128 then some (([]:List UInt8),(1:Int)) else Option.bind (VT (c::m)) (fun a=>if(a.1=(65533:Int))∧(a.2=(1:Int)) then some (([]:List UInt8),(1:Int)) else Go.L.AY (0≤a.2∧a.2≤((c::m).length:Int)) (some (((c::m).take a.2.toNat),a.2))))=some (if MT (c::m)=0 then([],1) else(((c::m).take (MT (c::m))).map Jy,((MT (c::m):Nat):Int))):=by
  intro h;have d:MT (c::m)=Sm (c::m):=by unfold MT;rw [if_neg (by rw [eb,h];decide)]
  rw [d]
  by_cases b:(c.toNat:Int)<128
  ·rw [if_pos b,YW (by rw [eb];omega),if_pos rfl]
  ·rw [if_neg b];have hd:=Aal (c::m) hne (by rw [eb];omega);unfold VT;rw [Aw hne,Option.bind_some]
   by_cases h2:Sm (c::m)=0
   ·rw [hd.1 h2,if_pos ⟨rfl,rfl⟩,if_pos h2]
   ·obtain⟨h3,f⟩:=hd.2 h2;have o:=Xx (c::m) hne;simp only [h3];rw [if_neg (by omega),Aw ⟨by omega,by omega⟩,if_neg h2,Int.toNat_natCast,YX h2]
 by_cases b:(48≤(c.toNat:Int))∧((c.toNat:Int)≤57)
 ·rw [if_pos b];exact hlo (.inl b)
 rw [if_neg b]
 by_cases h2:97≤(c.toNat:Int)
 ·rw [if_pos h2]
  by_cases h3:(c.toNat:Int)≤122
  ·rw [if_pos h3];exact hlo (.inr ⟨h2,h3⟩)
  ·rw [if_neg h3,if_neg (by omega)];exact hnon (decide_eq_false (by omega))
 ·rw [if_neg h2]
  by_cases f:(65≤(c.toNat:Int))∧((c.toNat:Int)≤90)
  ·rw [if_pos f];exact hup f
  ·rw [if_neg f];exact hnon (decide_eq_false (by omega))
end Go.Proofs.YtekmbcbgknmhiaaGreatDoor
namespace Go.L
open Go
abbrev W:=List UInt8×Int×Int
abbrev WS:=(List W×Int) ⊕ List W
def fin(cur:List UInt8)(fr at':Nat):List W:=if cur=[] then[] else[(cur,(fr:Int),(at':Int))]
def Um(a:List UInt8):Nat→Nat→List UInt8→Nat→List W
 | 0,at',cur,fr=>fin cur fr at'
 | f+1,at',cur,fr=>
  if at'<a.length then
   if MT (a.drop at')=0 then fin cur fr at'++Um a f (at'+1) [] (at'+1)
   else Um a f (at'+MT (a.drop at')) (cur++((a.drop at').take (MT (a.drop at'))).map Jy) fr
  else fin cur fr at'
def wds(a:List UInt8):List W:=Um a (a.length+1) 0 [] 0
theorem NL{a:List UInt8}{f at':Nat}{cur:List UInt8}{fr:Nat}(h:a.length≤at'):Um a f at' cur fr=fin cur fr at':=by
 cases f with
 | zero=>rfl
 | succ f=>unfold Um;rw [if_neg (by omega)]
theorem YY(cur:List UInt8)(fr at':Nat):(fin cur fr at').length≤1:=by unfold fin;split <;> simp
theorem SU{a:List UInt8}{i:Nat}(h:i<a.length):a.drop i≠[]:=fun e=>by
 have:=congrArg List.length e;rw [List.length_drop,List.length_nil] at this;omega
theorem TU{a:List UInt8}{i:Nat}(h:i<a.length):i+MT (a.drop i)≤a.length:=by
 have:=Xy _ (SU h);rw [List.length_drop] at this;omega
theorem Vx{a:List UInt8}{i:Nat}(h:i<a.length):(((a.drop i).take (MT (a.drop i))).map Jy).length=MT (a.drop i):=by
 have:=Xy _ (SU h);rw [List.length_map,List.length_take];omega
end Go.L
namespace Go.Proofs.YtekmbcbgknmhiaaGreatDoor
open Go Go.L
theorem YZ{a:List UInt8}(hs:a.length≤1000000000000):∀ (f at':Nat) (L:List W),a.length≤at'+f→L.length≤at'→at'≤a.length+1→
  run (BY a) (L,(at':Int))=some (L++Um a f at' [] at')∧
  ∀
   (cur:List UInt8) (fr:Nat),(at'<a.length∨cur≠[])→at'≤a.length→cur.length≤at'→∃ m,run (BX a L (fr:Int)) (cur,(at':Int))=some m∧
   (match m with | .inl s=>run (BY a) s=some (L++Um a f at' cur fr) | .inr r=>r=L++Um a f at' cur fr):=by
 intro f
 induction f with
 | zero=>
  intro at' L hf hL ha
  constructor
  ·rw [NL (by omega)];refine B2 (m:=some (L++fin [] at' at')) ?_;unfold BY;simp only;rw [if_neg (by omega)];unfold fin;rw [if_pos rfl,List.append_nil]
  ·intro cur fr hc hle hcl;have hc:cur≠[]:=hc.resolve_left (by omega);refine⟨.inr (L++fin cur fr at'),?_,rfl⟩;refine B2 (m:=some (Sum.inr (L++fin cur fr at'):WS)) ?_;unfold BX Ft;simp only;rw [if_neg (by omega),Aw (by constructor <;> omega)];unfold fin;rw [if_neg hc]
   rfl
 | succ f ih=>
  intro at' L hf hL ha
  have B:∀ (cur:List UInt8) (fr:Nat),(at'<a.length∨cur≠[])→at'≤a.length→cur.length≤at'→∃ m,run (BX a L (fr:Int)) (cur,(at':Int))=some m∧
   (match m with | .inl s=>run (BY a) s=some (L++Um a (f+1) at' cur fr) | .inr r=>r=L++Um a (f+1) at' cur fr):=by
   intro cur fr hc hle hcl
   by_cases h:at'<a.length
   ·have hroom:=TU h;have hlow:=Vx h;have b:=VU (SU h);unfold Um;rw [if_pos h]
    by_cases d:MT (a.drop at')=0
    ·rw [if_pos d] at b ⊢;have e:(((at':Nat):Int)+1)=((at'+1:Nat):Int):=by omega
     by_cases hcur:cur=[]
     ·have c:=(ih (at'+1) L (by omega) (by omega) (by omega)).1;refine⟨.inl (L,((at'+1:Nat):Int)),?_,?_⟩
      ·refine B2 (m:=some (Sum.inl (L,((at'+1:Nat):Int)):WS)) ?_;unfold BX;simp only;rw [if_pos (by omega),Aw ⟨by omega,by omega⟩,Int.toNat_natCast,b,Option.bind_some];simp only;rw [if_pos trivial,Aw (by constructor <;> omega),if_pos hcur,e]
      ·simp only;rw [c];unfold fin;rw [if_pos hcur,List.nil_append]
     ·have c:=(ih (at'+1) (L++[(cur,(fr:Int),(at':Int))]) (by omega) (by rw [List.length_append,List.length_singleton];omega) (by omega)).1;refine⟨.inl (L++[(cur,(fr:Int),(at':Int))],((at'+1:Nat):Int)),?_,?_⟩
      ·refine B2 (m:=some (Sum.inl (L++[(cur,(fr:Int),(at':Int))],((at'+1:Nat):Int)):WS)) ?_;unfold BX;simp only;rw [if_pos (by omega),Aw ⟨by omega,by omega⟩,Int.toNat_natCast,b,Option.bind_some];simp only;rw [if_pos trivial,Aw (by constructor <;> omega),if_neg hcur,Aw (by constructor <;> omega),e]
      ·simp only;rw [c];unfold fin;rw [if_neg hcur,List.append_assoc]
    ·rw [if_neg d] at b ⊢;have hne:((a.drop at').take (MT (a.drop at'))).map Jy≠[]:=fun e=>by rw [e,List.length_nil] at hlow;omega
     obtain⟨m,c,h2⟩:=(ih (at'+MT (a.drop at')) L (by omega) (by omega) (by omega)).2 (cur++((a.drop at').take (MT (a.drop at'))).map Jy) fr (.inr (fun e=>hne (List.append_eq_nil_iff.1 e).2)) hroom (by rw [List.length_append,hlow];omega);refine⟨m,?_,h2⟩;rw [← c];refine BK ?_;unfold BX;simp only;rw [if_pos (by omega),Aw ⟨by omega,by omega⟩,Int.toNat_natCast,b,Option.bind_some];simp only;rw [if_neg hne,Aw (by omega),Aw (by constructor <;> omega)]
     rfl
   ·have hc:cur≠[]:=hc.resolve_left h;rw [NL (by omega)];refine⟨.inr (L++fin cur fr at'),?_,rfl⟩;refine B2 (m:=some (Sum.inr (L++fin cur fr at'):WS)) ?_;unfold BX Ft;simp only;rw [if_neg (by omega),Aw (by constructor <;> omega)];unfold fin;rw [if_neg hc]
    rfl
  refine⟨?_,B⟩
  by_cases h:at'<a.length
  ·obtain⟨m,c,h2⟩:=B [] at' (.inl h) (by omega) (by simp)
   have hb:BY a (L,(at':Int))=some m:=by
    unfold BY;simp only;rw [if_pos (by omega)];exact c
   cases m with
   | inl s=>rw [BK hb];exact h2
   | inr r=>rw [B2 (m:=some r) hb,h2]
  ·rw [NL (by omega)];refine B2 (m:=some (L++fin [] at' at')) ?_;unfold BY;simp only;rw [if_neg (by omega)];unfold fin;rw [if_pos rfl,List.append_nil]
theorem TV{a:List UInt8}(hs:a.length≤1000000000000):LY a=some (wds a):=by
 have:=(YZ hs (a.length+1) 0 [] (by omega) (by simp) (by omega)).1;rw [List.nil_append] at this;exact this
theorem VV{a:List UInt8}(hs:a.length≤1000000000000):Ik a=some (decide ((wds a).map Prod.fst=[a])):=by
 unfold Ik;rw [Aw (by omega),TV hs,Option.bind_some];generalize wds a=l
 match l with
 | []=>rw [if_neg (by simp)];simp
 | [x]=>rw [if_pos (show(([x].length:Nat):Int)=1 from rfl),Aw (by simp)];simp
 | x::y::z=>rw [if_neg (by simp;omega)];simp
end Go.Proofs.YtekmbcbgknmhiaaGreatDoor
end
noncomputable section
namespace Go.Proofs.YtekmbcbgknmhiaaGreatDoor
open Go Go.E Go.RowKit Go.L
set_option maxHeartbeats 1000000
set_option maxRecDepth 10000
open _root_.Go.Proofs.Tryz
def Il(a:Int)(b:Int):Option (Int):=
 if a=(3:Int) then if b<(2048:Int) then some ((0:Int)) else Option.bind (Ey b (55296:Int) (57343:Int)) (fun c=>if c then some ((0:Int)) else if a=(4:Int) then Option.bind (Ey b (65536:Int) (1114111:Int)) (fun d=>if !d then some ((0:Int)) else some (a)) else some (a)) else if a=(4:Int) then Option.bind (Ey b (65536:Int) (1114111:Int)) (fun e=>if !e then some ((0:Int)) else some (a)) else some (a)
def Hv(a0:Aas)(a1:Int)(c:Int):Int×Int→Option ((Int×Int) ⊕ (Int)):=fun⟨b,a⟩=>
 if a<c then AY (BJ (a1+a)) (AY (0≤(a1+a)∧(a1+a)<(a0.length:Int)) (Option.bind (Ey ((a0.getD ((a1+a).toNat) default).toNat:Int) (128:Int) (191:Int)) (fun d=>if !d then Option.map Sum.inr (some ((0:Int))) else AY (BJ ((64:Int) * b)) (AY (BJ (((64:Int) * b)+((a0.getD ((a1+a).toNat) default).toNat:Int))) (AY (BJ ((((64:Int) * b)+((a0.getD ((a1+a).toNat) default).toNat:Int)) - (128:Int))) (AY (BJ (a+(1:Int))) (some (Sum.inl (((((64:Int) * b)+((a0.getD ((a1+a).toNat) default).toNat:Int)) - (128:Int)),(a+(1:Int))))))))))) else Option.map Sum.inr ((Il c) b)
def K4(a0:Aas)(a1:Int)(a:Int)(s:Int×Int):Option (Int):=Go.L.run (Hv a0 a1 a) s
def FR(a0:Aas)(a1:Int)(a:Int)(b:Int):Option (Int):=
 if a=(0:Int) then some ((0:Int)) else AY (BJ (a1+a)) (if(a0.length:Int)<(a1+a) then some ((0:Int)) else(K4 a0 a1 a) (b,(1:Int)))
def Im(a0:Aas)(a1:Int)(a:Int)(b:Int):Option (Int):=
 Option.bind (Ey ((a0.getD a1.toNat default).toNat:Int) (240:Int) (244:Int)) (fun c=>if c then AY (BJ (((a0.getD a1.toNat default).toNat:Int) - (240:Int))) ((FR a0 a1) (4:Int) (((a0.getD a1.toNat default).toNat:Int) - (240:Int))) else(FR a0 a1) a b)
def Jz(a0:Aas)(a1:Int)(a:Int)(b:Int):Option (Int):=
 Option.bind (Ey ((a0.getD a1.toNat default).toNat:Int) (224:Int) (239:Int)) (fun c=>if c then AY (BJ (((a0.getD a1.toNat default).toNat:Int) - (224:Int))) ((Im a0 a1) (3:Int) (((a0.getD a1.toNat default).toNat:Int) - (224:Int))) else(Im a0 a1) a b)
def NM(a0:Aas)(a1:Int):Option (Int):=
 AY (0≤a1∧a1<(a0.length:Int)) (Option.bind (Ey ((a0.getD a1.toNat default).toNat:Int) (194:Int) (223:Int)) (fun a=>if a then AY (BJ (((a0.getD a1.toNat default).toNat:Int) - (192:Int))) ((Jz a0 a1) (2:Int) (((a0.getD a1.toNat default).toNat:Int) - (192:Int))) else(Jz a0 a1) (0:Int) (0:Int)))
theorem SV(w:World)(H:PH)(hH:Le H (hp w)){a0:Aas}{a1:Int}{l:Value}(ae:AI .byte H l (a0)){r:Int}(h:NM a0 a1=some r):
  Ok Tryz.prog 203 [l,No a1] w (fun v w'=>Ext w w'∧v=No r):=by
 refine A5 (n:=79) [(0,l),(1,No a1)] func203 rfl rfl rfl rfl rfl ?_;have hL:=AR.start w;refine AD 1 rfl<|Bl 2 rfl ?_;obtain⟨a8,h⟩:=Ac h;refine Be rfl rfl AaQ Lj ae a1.toNat (Int.toNat_of_nonneg a8.1).symm (AZ a8) rfl ?_;rintro p1 _ rfl bg;refine Af (Bh rfl AaS rfl bg (hH.trans hL.arg)) rfl<|Af (ES AaS Aau rfl (Ht _)) rfl<|AB 1 rfl<|AD 2 rfl<|Bm (σ:=Int×Int) (fun⟨m,o⟩=>[(0,l),(1,No a1),(5,No ((a0.getD a1.toNat default).toNat:Int)),(6,No m),(7,No o)]) (fun⟨m,o⟩ wr=>AR w [] wr∧(Jz a0 a1) m o=some r) ?_ ?_
 ·refine Bl 1 rfl ?_;obtain⟨cb,a9,h⟩:=Go.L.bind_some h;refine Ax rfl rfl hL (D1 _ _ (As hH hL) a9) ?_;rintro _ cc rfl bu ap bl;refine Ad<|By rfl (fun af=>?_) (fun af=>?_)
  ·have h:=Bv af h;refine Aq<|Ar 1 rfl ?_;obtain⟨ba,h⟩:=Ac h;refine Af (AK rfl rfl rfl ba) rfl<|Ar 2 rfl<|AL<|A9 ((2:Int),(((a0.getD a1.toNat default).toNat:Int) - (192:Int))) (.cons rfl (.cons rfl (.cons rfl (.cons rfl (.cons rfl (Sub.nil _)))))) ⟨ap,h⟩
  have h:=Bw af h;refine Av<|A9 ((0:Int),(0:Int)) (.cons rfl (.cons rfl (.cons rfl (.cons rfl (.cons rfl (Sub.nil _)))))) ⟨ap,h⟩
 rintro⟨m,o⟩ bv ⟨aq,h⟩;refine Bm (σ:=Int×Int) (fun⟨p,q⟩=>[(0,l),(1,No a1),(5,No ((a0.getD a1.toNat default).toNat:Int)),(6,No p),(7,No q)]) (fun⟨p,q⟩ wr=>AR w [] wr∧(Im a0 a1) p q=some r) ?_ ?_
 ·refine Bl 1 rfl ?_;obtain⟨cd,bb,h⟩:=Go.L.bind_some h;refine Ax rfl rfl aq (D1 _ _ (As hH aq) bb) ?_;rintro _ ce rfl bw ar bm;refine Ad<|By rfl (fun ag=>?_) (fun ag=>?_)
  ·have h:=Bv ag h;refine Aq<|Ar 1 rfl ?_;obtain⟨bc,h⟩:=Ac h;refine Af (AK rfl rfl rfl bc) rfl<|Ar 2 rfl<|AL<|A9 ((3:Int),(((a0.getD a1.toNat default).toNat:Int) - (224:Int))) (.cons rfl (.cons rfl (.cons rfl (.cons rfl (.cons rfl (Sub.nil _)))))) ⟨ar,h⟩
  have h:=Bw ag h;refine Av<|A9 (m,o) (.cons rfl (.cons rfl (.cons rfl (.cons rfl (.cons rfl (Sub.nil _)))))) ⟨ar,h⟩
 rintro⟨p,q⟩ bx ⟨au,h⟩;refine Bm (σ:=Int×Int) (fun⟨i,t⟩=>[(0,l),(1,No a1),(6,No i),(7,No t)]) (fun⟨i,t⟩ wr=>AR w [] wr∧(FR a0 a1) i t=some r) ?_ ?_
 ·refine Bl 1 rfl ?_;obtain⟨cf,bd,h⟩:=Go.L.bind_some h;refine Ax rfl rfl au (D1 _ _ (As hH au) bd) ?_;rintro _ cg rfl bz av bn;refine Ad<|By rfl (fun ah=>?_) (fun ah=>?_)
  ·have h:=Bv ah h;refine Aq<|Ar 1 rfl ?_;obtain⟨be,h⟩:=Ac h;refine Af (AK rfl rfl rfl be) rfl<|Ar 2 rfl<|AL<|A9 ((4:Int),(((a0.getD a1.toNat default).toNat:Int) - (240:Int))) (.cons rfl (.cons rfl (.cons rfl (.cons rfl (Sub.nil _))))) ⟨av,h⟩
  have h:=Bw ah h;refine Av<|A9 (p,q) (.cons rfl (.cons rfl (.cons rfl (.cons rfl (Sub.nil _))))) ⟨av,h⟩
 rintro⟨i,t⟩ b0 ⟨ai,h⟩;refine A8<|Bl 3 rfl<|AQ (s:=30) rfl (fun d=>?_) (fun d=>?_)
 ·have h:=A1 (of_decide_eq_true d) h
  iterate 6 refine Aj rfl rfl d rfl ?_
  refine Af (A3 rfl d rfl) rfl<|Ad<|Ce rfl<|AD 1 rfl<|Az<|Au ?_;obtain rfl:=Option.some.inj h;refine An rfl rfl ?_;exact⟨ai.ext,rfl⟩
 have h:=A2 (of_decide_eq_false d) h;refine Aa rfl rfl d<|Af (Ae rfl) rfl<|Aa rfl rfl d<|Af (Ae rfl) rfl<|Aa rfl rfl d ?_;obtain⟨bf,h⟩:=Ac h;refine Af (AK rfl rfl rfl bf) rfl<|Aa rfl rfl d<|Af (Ae rfl) rfl<|Aa rfl rfl d<|Af (Bn rfl AaQ ae) rfl<|Aa rfl rfl d<|Af (Ae rfl) rfl<|Af (A7 rfl d rfl) rfl<|Ad<|Bg rfl (fun aj=>?_) (fun aj=>?_)
 ·have h:=A1 aj h;refine AD 1 rfl<|Az<|Au ?_;obtain rfl:=Option.some.inj h;refine An rfl rfl ?_;exact⟨ai.ext,rfl⟩
 have h:=A2 aj h;refine Av<|Ao<|AD 2 rfl<|Bm (σ:=Int) (fun u=>[(6,No i),(8,No u)]) (fun u wr=>AR w [] wr∧(Il i) u=some r) ?_ ?_
 ·refine AD 1 rfl<|A4 ?_;obtain⟨ak,h⟩:=Bb h;refine Bu (σ:=Int×Int×Nat) (fun⟨g,c,n⟩=>[(0,l),(1,No a1),(6,No i),(8,No g),(9,No c)]) (fun⟨g,c,n⟩ wr=>AR w [] wr∧FM (Hv a0 a1 i) n (g,c)=some r) (fun⟨g,c,n⟩=>n) (t,(1:Int),ak) (.cons rfl (.cons rfl (.cons rfl (.cons rfl (.cons rfl (Sub.nil _)))))) ⟨ai,h⟩ ?_;rintro⟨g,c,nn120⟩ bo ⟨x,h⟩;obtain⟨ak,b1,rfl,h,z⟩:=Ba h;refine A8<|AD 3 rfl<|Bg rfl (fun aa=>?_) (fun aa=>?_)
  ·have h:=A1 aa h;refine Av<|Ao<|A8<|A4<|Bl 3 rfl ?_;obtain⟨aw,h⟩:=Ac h;refine Af (AK rfl rfl rfl aw) rfl ?_;obtain⟨al,h⟩:=Ac h;refine Be rfl rfl AaQ Lj ae ((a1+c).toNat) (Int.toNat_of_nonneg al.1).symm (AZ al) rfl ?_;rintro b2 _ rfl ax;refine Af (Bh rfl AaS rfl ax (hH.trans x.arg)) rfl<|Af (ES AaS Aau rfl (Ht _)) rfl<|AB 1 rfl<|A8<|Bl 1 rfl ?_;obtain⟨b3,ay,h⟩:=Go.L.bind_some h;refine Ax rfl rfl x (D1 _ _ (As hH x) ay) ?_;rintro _ b4 rfl bp am bh;refine AB 1 rfl<|By rfl (fun ab=>?_) (fun ab=>?_)
   ·have h:=Bv ab h;refine AD 1 rfl<|Az<|Au<|Ay<|Au<|BB ?_;have h:=BF.out h z;refine Ay<|Bs ?_;obtain rfl:=Option.some.inj h;refine An rfl rfl ?_;exact⟨am.ext,rfl⟩
   have h:=Bw ab h;refine Av<|Ao<|Aq<|Ar 1 rfl ?_;obtain⟨az,h⟩:=Ac h;refine Af (AK rfl rfl rfl az) rfl<|Ar 1 rfl ?_;obtain⟨a2,h⟩:=Ac h;refine Af (AK rfl rfl rfl a2) rfl ?_;obtain⟨a3,h⟩:=Ac h;refine Af (AK rfl rfl rfl a3) rfl<|Ar 1 rfl<|AL<|AA<|Ao<|Aq<|Ar 1 rfl ?_;obtain⟨a4,h⟩:=Ac h;refine Af (AK rfl rfl rfl a4) rfl<|Ar 1 rfl<|AL ?_;have h:=BF.again h z;refine AO (((((64:Int) * g)+((a0.getD ((a1+c).toNat) default).toNat:Int)) - (128:Int)),(c+(1:Int)),ak) (.cons rfl (.cons rfl (.cons rfl (.cons rfl (.cons rfl (Sub.nil _)))))) ⟨am,h⟩ (Nat.lt_succ_self _)
  have h:=A2 aa h;refine Bq<|AH<|A6 ?_;have h:=BF.out h z;refine Bf<|A9 g (.cons rfl (.cons rfl (Sub.nil _))) ⟨x,h⟩
 rintro u bq ⟨k,h⟩;refine A8<|Bl 3 rfl<|AQ (s:=61) rfl (fun a=>?_) (fun a=>?_)
 ·have h:=A1 (of_decide_eq_true a) h;refine Aa rfl rfl a<|Af (Ae rfl) rfl<|Aa rfl rfl a<|Af (Ae rfl) rfl<|Aa rfl rfl a<|Af (Ae rfl) rfl<|AQ (s:=64) rfl (fun j=>?_) (fun j=>?_)
  ·have h:=A1 (of_decide_eq_true j) h
   iterate 2 refine Aj rfl rfl j rfl ?_
   refine Aa rfl rfl a<|Af (A3 rfl j rfl) rfl<|Af (A3 rfl a rfl) rfl<|Ar 1 rfl ?_
   iterate 3 refine Aj rfl rfl rfl rfl ?_
   iterate 3 refine BQ rfl rfl rfl ?_
   refine Aj rfl rfl rfl rfl<|Af (A3 rfl rfl rfl) rfl<|Ad<|Ce rfl<|AD 1 rfl<|Az<|Au ?_;obtain rfl:=Option.some.inj h;refine An rfl rfl ?_;exact⟨k.ext,rfl⟩
  have h:=A2 (of_decide_eq_false j) h;refine Aa rfl rfl j<|Af (Ae rfl) rfl<|Aa rfl rfl j ?_;obtain⟨b5,a5,h⟩:=Go.L.bind_some h;refine Ax rfl rfl k (D1 _ _ (As hH k) a5) ?_;rintro _ b6 rfl br y bi;refine Aa rfl rfl a<|Af (A7 rfl j rfl) rfl<|Af (A3 rfl a rfl) rfl<|Ar 1 rfl<|AQ (s:=69) rfl (fun b=>?_) (fun b=>?_)
  ·have h:=Bv b h
   iterate 3 refine Aj rfl rfl b rfl ?_
   iterate 3 refine BQ rfl rfl rfl ?_
   refine Aj rfl rfl b rfl<|Af (A3 rfl b rfl) rfl<|Ad<|Ce rfl<|AD 1 rfl<|Az<|Au ?_;obtain rfl:=Option.some.inj h;refine An rfl rfl ?_;exact⟨y.ext,rfl⟩
  have h:=Bw b h;refine Aa rfl rfl b<|Af (Ae rfl) rfl<|Aa rfl rfl b<|Af (Ae rfl) rfl<|Aa rfl rfl b<|Af (Ae rfl) rfl<|AQ (s:=72) rfl (fun e=>?_) (fun e=>?_)
  ·have h:=A1 (of_decide_eq_true e) h;refine Aa rfl rfl e<|Af (Ae rfl) rfl<|Aa rfl rfl e ?_;obtain⟨b7,a6,h⟩:=Go.L.bind_some h;refine Ax rfl rfl y (D1 _ _ (As hH y) a6) ?_;rintro _ b8 rfl bs an bj;refine Aa rfl rfl e<|Af (Ae rfl) rfl<|Aa rfl rfl b<|Af (A3 rfl e rfl) rfl<|Af (A7 rfl b rfl) rfl<|Ad<|By rfl (fun ac=>?_) (fun ac=>?_)
   ·have h:=Bv ac h;refine AD 1 rfl<|Az<|Au ?_;obtain rfl:=Option.some.inj h;refine An rfl rfl ?_;exact⟨an.ext,rfl⟩
   have h:=Bw ac h;refine Av<|Ao<|AD 2 rfl<|Az ?_;obtain rfl:=Option.some.inj h;refine An rfl rfl ?_;exact⟨an.ext,rfl⟩
  have h:=A2 (of_decide_eq_false e) h
  iterate 3 refine Aj rfl rfl e rfl ?_
  refine Aa rfl rfl b<|Af (A7 rfl e rfl) rfl<|Af (A7 rfl b rfl) rfl<|Ad<|Ch rfl<|Av<|Ao<|AD 2 rfl<|Az ?_;obtain rfl:=Option.some.inj h;refine An rfl rfl ?_;exact⟨y.ext,rfl⟩
 have h:=A2 (of_decide_eq_false a) h
 iterate 3 refine Aj rfl rfl a rfl ?_
 iterate 2 refine BQ rfl rfl rfl ?_
 refine Aj rfl rfl a rfl<|Af (A7 rfl a rfl) rfl<|Ar 1 rfl<|Aa rfl rfl rfl<|Af (Ae rfl) rfl<|Aa rfl rfl rfl<|Af (Ae rfl) rfl<|Aa rfl rfl rfl<|Af (Ae rfl) rfl<|AQ (s:=72) rfl (fun f=>?_) (fun f=>?_)
 ·have h:=A1 (of_decide_eq_true f) h;refine Aa rfl rfl f<|Af (Ae rfl) rfl<|Aa rfl rfl f ?_;obtain⟨b9,a7,h⟩:=Go.L.bind_some h;refine Ax rfl rfl k (D1 _ _ (As hH k) a7) ?_;rintro _ ca rfl bt ao bk;refine Aa rfl rfl f<|Af (Ae rfl) rfl<|Aa rfl rfl rfl<|Af (A3 rfl f rfl) rfl<|Af (A7 rfl rfl rfl) rfl<|Ad<|By rfl (fun ad=>?_) (fun ad=>?_)
  ·have h:=Bv ad h;refine AD 1 rfl<|Az<|Au ?_;obtain rfl:=Option.some.inj h;refine An rfl rfl ?_;exact⟨ao.ext,rfl⟩
  have h:=Bw ad h;refine Av<|Ao<|AD 2 rfl<|Az ?_;obtain rfl:=Option.some.inj h;refine An rfl rfl ?_;exact⟨ao.ext,rfl⟩
 have h:=A2 (of_decide_eq_false f) h
 iterate 3 refine Aj rfl rfl f rfl ?_
 refine Aa rfl rfl rfl<|Af (A7 rfl f rfl) rfl<|Af (A7 rfl rfl rfl) rfl<|Ad<|Ch rfl<|Av<|Ao<|AD 2 rfl<|Az ?_;obtain rfl:=Option.some.inj h;refine An rfl rfl ?_;exact⟨k.ext,rfl⟩
def Kh(a0:Aas)(a1:Int):Option (Int):=
 AY (0≤a1∧a1<(a0.length:Int)) (Option.bind (Ey ((a0.getD a1.toNat default).toNat:Int) (48:Int) (57:Int)) (fun c=>if c then some ((1:Int)) else Option.bind (Ey ((a0.getD a1.toNat default).toNat:Int) (97:Int) (122:Int)) (fun d=>if d then some ((1:Int)) else Option.bind (Ey ((a0.getD a1.toNat default).toNat:Int) (65:Int) (90:Int)) (fun a=>if a then some ((1:Int)) else Option.bind (NM a0 a1) (fun b=>some (b))))))
theorem Np(w:World)(H:PH)(hH:Le H (hp w)){a0:Aas}{a1:Int}{c:Value}(f:AI .byte H c (a0)){r:Int}(h:Kh a0 a1=some r):
  Ok Tryz.prog 152 [c,No a1] w (fun v w'=>Ext w w'∧v=No r):=by
 refine A5 (n:=24) [(0,c),(1,No a1)] func152 rfl rfl rfl rfl rfl ?_;have hL:=AR.start w;refine AD 1 rfl<|Bl 2 rfl ?_;obtain⟨j,h⟩:=Ac h;refine Be rfl rfl AaQ Lj f a1.toNat (Int.toNat_of_nonneg j.1).symm (AZ j) rfl ?_;rintro p1 _ rfl o;refine Af (Bh rfl AaS rfl o (hH.trans hL.arg)) rfl<|Af (ES AaS Aau rfl (Ht _)) rfl<|AB 1 rfl<|A8<|Bl 1 rfl ?_;obtain⟨x3,p,h⟩:=Go.L.bind_some h;refine Ax rfl rfl hL (D1 _ _ (As hH hL) p) ?_;rintro _ w4 rfl ab g x;refine Ar 1 rfl<|AQ (s:=13) rfl (fun b=>?_) (fun b=>?_)
 ·have h:=Bv b h
  iterate 2 refine Aj rfl rfl b rfl ?_
  refine Af (A3 rfl b rfl) rfl<|Ar 1 rfl ?_
  iterate 2 refine Aj rfl rfl rfl rfl ?_
  refine Af (A3 rfl rfl rfl) rfl<|Ad<|Ce rfl<|AD 1 rfl<|Az<|Au ?_;obtain rfl:=Option.some.inj h;refine An rfl rfl ?_;exact⟨g.ext,rfl⟩
 have h:=Bw b h;refine Aa rfl rfl b<|Af (Ae rfl) rfl<|Aa rfl rfl b ?_;obtain⟨x8,q,h⟩:=Go.L.bind_some h;refine Ax rfl rfl g (D1 _ _ (As hH g) q) ?_;rintro _ w9 rfl ac i y;refine Af (A7 rfl b rfl) rfl<|Ar 1 rfl<|AQ (s:=17) rfl (fun a=>?_) (fun a=>?_)
 ·have h:=Bv a h
  iterate 2 refine Aj rfl rfl a rfl ?_
  refine Af (A3 rfl a rfl) rfl<|Ad<|Ce rfl<|AD 1 rfl<|Az<|Au ?_;obtain rfl:=Option.some.inj h;refine An rfl rfl ?_;exact⟨i.ext,rfl⟩
 have h:=Bw a h;refine Aa rfl rfl a<|Af (Ae rfl) rfl<|Aa rfl rfl a ?_;obtain⟨ad,k,h⟩:=Go.L.bind_some h;refine Ax rfl rfl i (D1 _ _ (As hH i) k) ?_;rintro _ ae rfl z d t;refine Af (A7 rfl a rfl) rfl<|Ad<|By rfl (fun e=>?_) (fun e=>?_)
 ·have h:=Bv e h;refine AD 1 rfl<|Az<|Au ?_;obtain rfl:=Option.some.inj h;refine An rfl rfl ?_;exact⟨d.ext,rfl⟩
 have h:=Bw e h;refine Av<|Ao<|Bl 2 rfl ?_;obtain⟨af,l,h⟩:=Go.L.bind_some h;refine Ax rfl rfl d (SV _ _ (As hH d) (f.mono (Ai hH)) l) ?_;rintro _ ag rfl aa m u;refine AB 1 rfl<|Az ?_;obtain rfl:=Option.some.inj h;refine An rfl rfl ?_;exact⟨m.ext,rfl⟩
def IF(c:Aas)(a:Int)(b:UInt8):Option ((Aas×Int) ⊕ ((Aas×Int) ⊕ (((List (Aas×Int×Int))×Int) ⊕ ((List (Aas×Int×Int)))))):=
 AY (Go.E.JE 1 (c.length+([b]).length)) (AY (BJ (a+(1:Int))) (some (Sum.inl ((c++[b]),(a+(1:Int))))))
def LC(a:Int)(b:Int)(c:Aas):Option ((Aas×Int) ⊕ (((List (Aas×Int×Int))×Int) ⊕ ((List (Aas×Int×Int))))):=
 AY (BJ (a+b)) (some (Sum.inl (c,(a+b))))
def HR(a0:Aas)(b:Int)(c:Int):Aas×Int→Option ((Aas×Int) ⊕ ((Aas×Int) ⊕ (((List (Aas×Int×Int))×Int) ⊕ ((List (Aas×Int×Int)))))):=fun⟨d,a⟩=>
 AY (BJ (b+c)) (if a<(b+c) then AY (0≤a∧a<(a0.length:Int)) (if(65≤((a0.getD a.toNat default).toNat:Int))∧(((a0.getD a.toNat default).toNat:Int)≤90) then(IF d a) (a0.getD a.toNat default+(32:UInt8)) else(IF d a) (a0.getD a.toNat default)) else Option.map Sum.inr ((LC b c) d))
def LD(a0:Aas)(a:Int)(b:Int)(s:Aas×Int):Option ((Aas×Int) ⊕ (((List (Aas×Int×Int))×Int) ⊕ ((List (Aas×Int×Int))))):=Go.L.run (HR a0 a b) s
def IG(c:List (Aas×Int×Int))(b:Int)(d:Aas)(a:Int):Option (((List (Aas×Int×Int))×Int) ⊕ ((List (Aas×Int×Int)))):=
 if b<a then AY (Go.E.JE 32 (c.length+([(d,b,a)]).length)) (AY (BJ (a+(1:Int))) (some (Sum.inl ((c++[(d,b,a)]),(a+(1:Int)))))) else AY (BJ (a+(1:Int))) (some (Sum.inl (c,(a+(1:Int)))))
def En(a0:Aas)(d:List (Aas×Int×Int))(b:Int):Aas×Int→Option ((Aas×Int) ⊕ (((List (Aas×Int×Int))×Int) ⊕ ((List (Aas×Int×Int))))):=fun⟨c,a⟩=>
 if a<(a0.length:Int) then Option.bind (Kh a0 a) (fun e=>if(0:Int)<e then Option.bind (Kh a0 a) (fun f=>(LD a0 a f) (c,a)) else Option.map Sum.inr ((IG d b) c a)) else Option.map Sum.inr ((IG d b) c a)
def RJ(a0:Aas)(b:List (Aas×Int×Int))(a:Int)(s:Aas×Int):Option (((List (Aas×Int×Int))×Int) ⊕ ((List (Aas×Int×Int)))):=Go.L.run (En a0 b a) s
def LF(a:List (Aas×Int×Int)):Option ((List (Aas×Int×Int))):=
 some (a)
def CY(a0:Aas):(List (Aas×Int×Int))×Int→Option (((List (Aas×Int×Int))×Int) ⊕ ((List (Aas×Int×Int)))):=fun⟨b,a⟩=>
 if a<(a0.length:Int) then(RJ a0 b a) (([]:Aas),a) else Option.map Sum.inr (LF b)
def RL(a0:Aas)(s:(List (Aas×Int×Int))×Int):Option ((List (Aas×Int×Int))):=Go.L.run (CY a0) s
def O3(a0:Aas):Option ((List (Aas×Int×Int))):=
 (RL a0) (([]:List (Aas×Int×Int)),(0:Int))
theorem RM(w:World)(H:PH)(hH:Le H (hp w)){a0:Aas}{ab:Value}(ao:AI .byte H ab (a0)){r:(List (Aas×Int×Int))}(h:O3 a0=some r):
  Ok Tryz.prog 93 [ab] w (fun v w'=>Ext w w'∧∃ u0,v=u0∧Co 135 (.pair .st (.pair (.int .i64) (.int .i64))) H w w' u0 (r)):=by
 refine A5 (n:=69) [(0,ab)] func93 rfl rfl rfl rfl rfl ?_;have hL:=AR.start w;refine AD 1 rfl<|Bl 1 rfl ?_;obtain⟨cg,cu,ch⟩:=Ck (.pair .st (.pair (.int .i64) (.int .i64))) H 135 hL;refine Ad<|AD 1 rfl<|Bm (σ:=(List (Aas×Int×Int))×Value×(List Value)) (fun⟨ap,al,ag⟩=>[(3,al)]) (fun⟨ap,al,ag⟩ wr=>DM w [.row (al) 135 3 (ap).length (ag)] wr fun Oz=>AM (.pair .st (.pair (.int .i64) (.int .i64))) (gz H w wr Oz) (ap) (ag)∧LF ap=some r) ?_ ?_
 ·refine A4 ?_;obtain⟨ar,h⟩:=Bb h;refine Bu (σ:=(List (Aas×Int×Int))×Int×Value×(List Value)×Nat) (fun⟨e,d,f,c,n⟩=>[(0,ab),(3,f),(4,No d)]) (fun⟨e,d,f,c,n⟩ wr=>DM w [.row (f) 135 3 (e).length (c)] wr fun Oz=>AM (.pair .st (.pair (.int .i64) (.int .i64))) (gz H w wr Oz) (e) (c)∧FM (CY a0) n (e,d)=some r) (fun⟨e,d,f,c,n⟩=>n) (([]:List (Aas×Int×Int)),(0:Int),Aak,[],ar) (.cons rfl (.cons rfl (.cons rfl (Sub.nil _)))) ⟨cg,ch,h⟩ ?_;rintro⟨e,d,f,c,nn352⟩ cj ⟨ba,a,h⟩;obtain⟨ar,be,rfl,h,au⟩:=Ba h;refine A8<|Bl 2 rfl<|Af (Bn rfl AaQ ao) rfl<|AB 1 rfl<|Bg rfl (fun av=>?_) (fun av=>?_)
  ·have h:=A1 av h;refine Av<|Ao<|A4<|AD 2 rfl<|Bl 1 rfl ?_;obtain⟨bl,a6,bm⟩:=Ck .byte H 5 ba;refine Ad<|Bm (σ:=Aas×Int×Value×(List Value)) (fun⟨ad,k,am,ah⟩=>[(0,ab),(3,f),(4,No d),(5,No k),(6,am)]) (fun⟨ad,k,am,ah⟩ wr=>DM w [.row (am) 5 1 (ad).length (ah),.row (f) 135 3 (e).length (c)] wr fun Oz=>AM .byte (gz H w wr Oz) (ad) (ah)∧AM (.pair .st (.pair (.int .i64) (.int .i64))) (gz H w wr Oz) (e) (c)∧(IG e d) ad k=some be) ?_ ?_
   ·refine A4 ?_;obtain⟨a8,h⟩:=Bb h;have a:=a.mono (Ab hH a6);refine Bu (σ:=Aas×Int×Value×(List Value)×Nat) (fun⟨ac,g,z,p,n⟩=>[(0,ab),(3,f),(4,No d),(5,No g),(6,z)]) (fun⟨ac,g,z,p,n⟩ wr=>DM w [.row (z) 5 1 (ac).length (p),.row (f) 135 3 (e).length (c)] wr fun Oz=>AM .byte (gz H w wr Oz) (ac) (p)∧AM (.pair .st (.pair (.int .i64) (.int .i64))) (gz H w wr Oz) (e) (c)∧FM (En a0 e d) n (ac,g)=some be) (fun⟨ac,g,z,p,n⟩=>n) (([]:Aas),d,Aak,[],a8) (.cons rfl (.cons rfl (.cons rfl (.cons rfl (.cons rfl (Sub.nil _)))))) ⟨bl,bm,a,h⟩ ?_;rintro⟨ac,g,z,p,nn510⟩ ck ⟨aw,u,a,h⟩;obtain⟨a8,bf,rfl,h,ax⟩:=Ba h;refine A8<|Bl 2 rfl<|Af (Bn rfl AaQ ao) rfl<|Ar 2 rfl<|AQ (s:=19) rfl (fun o=>?_) (fun o=>?_)
    ·have h:=A1 (of_decide_eq_true o) h;refine Aa rfl rfl o<|Af (Ae rfl) rfl<|Aa rfl rfl o<|Af (Ae rfl) rfl<|Aa rfl rfl o ?_;obtain⟨cv,bn,h⟩:=Go.L.bind_some h;refine Ax rfl rfl aw (Np _ _ (As hH aw) (ao.mono (Ai hH)) bn) ?_;rintro _ cw rfl cl ay ae;refine Aa rfl rfl o<|Af (Ae rfl) rfl<|Af (A3 rfl o rfl) rfl<|Ad<|Bg rfl (fun az=>?_) (fun az=>?_)
     ·have h:=A1 az h;refine Av<|Ao<|A4<|Bl 2 rfl ?_;obtain⟨aj,bo,h⟩:=Go.L.bind_some h;refine Ax rfl rfl ay (Np _ _ (As hH ay) (ao.mono (Ai hH)) bo) ?_;rintro _ cx rfl cm bp aq;refine AB 1 rfl<|Bm (σ:=Aas×Value×(List Value)) (fun⟨ak,ai,af⟩=>[(0,ab),(3,f),(4,No d),(5,No g),(6,ai),(7,No aj)]) (fun⟨ak,ai,af⟩ wr=>DM w [.row (ai) 5 1 (ak).length (af),.row (f) 135 3 (e).length (c)] wr fun Oz=>AM .byte (gz H w wr Oz) (ak) (af)∧AM (.pair .st (.pair (.int .i64) (.int .i64))) (gz H w wr Oz) (e) (c)∧(LC g aj) ak=some bf) ?_ ?_
      ·refine AD 2 rfl<|A4 ?_;obtain⟨a9,h⟩:=Bb h;have u:=u.mono (Ab hH (ae.trans aq));have a:=a.mono (Ab hH (ae.trans aq));refine Bu (σ:=Aas×Int×Value×(List Value)×Nat) (fun⟨t,j,aa,q,n⟩=>[(0,ab),(3,f),(4,No d),(5,No g),(6,aa),(7,No aj),(8,No j)]) (fun⟨t,j,aa,q,n⟩ wr=>DM w [.row (aa) 5 1 (t).length (q),.row (f) 135 3 (e).length (c)] wr fun Oz=>AM .byte (gz H w wr Oz) (t) (q)∧AM (.pair .st (.pair (.int .i64) (.int .i64))) (gz H w wr Oz) (e) (c)∧FM (HR a0 g aj) n (t,j)=some bf) (fun⟨t,j,aa,q,n⟩=>n) (ac,g,z,p,a9) (.cons rfl (.cons rfl (.cons rfl (.cons rfl (.cons rfl (.cons rfl (.cons rfl (Sub.nil _)))))))) ⟨bp,u,a,h⟩ ?_;rintro⟨t,j,aa,q,nn576⟩ cn ⟨an,x,a,h⟩;obtain⟨a9,cc,rfl,h,bb⟩:=Ba h;refine A8<|Bl 3 rfl ?_;obtain⟨bq,h⟩:=Ac h;refine Af (AK rfl rfl rfl bq) rfl<|AB 1 rfl<|Bg rfl (fun a1=>?_) (fun a1=>?_)
       ·have h:=A1 a1 h;refine Av<|Ao<|A8<|A4<|Bl 2 rfl ?_;obtain⟨bc,h⟩:=Ac h;refine Be rfl rfl AaQ Lj ao j.toNat (Int.toNat_of_nonneg bc.1).symm (AZ bc) rfl ?_;rintro cy _ rfl br;refine Af (Bh rfl AaS rfl br (hH.trans an.arg)) rfl<|AB 1 rfl<|Bm (σ:=UInt8) (fun y=>[(0,ab),(3,f),(4,No d),(5,No g),(6,aa),(7,No aj),(8,No j),(9,.int .u8 (y.toNat:Int))]) (fun y wr=>DM w [.row (aa) 5 1 (t).length (q),.row (f) 135 3 (e).length (c)] wr fun Oz=>AM .byte (gz H w wr Oz) (t) (q)∧AM (.pair .st (.pair (.int .i64) (.int .i64))) (gz H w wr Oz) (e) (c)∧(IF t j) y=some cc) ?_ ?_
        ·refine Bl 3 rfl<|MU 2 2 rfl rfl rfl rfl rfl rfl<|Ad<|Bg rfl (fun a2=>?_) (fun a2=>?_)
         ·have h:=A1 a2 h;refine Aq<|Ar 1 rfl<|Af (TC (b:=32) rfl rfl rfl) rfl<|Ar 1 rfl<|AL<|A9 (a0.getD j.toNat default+(32:UInt8)) (.cons rfl (.cons rfl (.cons rfl (.cons rfl (.cons rfl (.cons rfl (.cons rfl (.cons rfl (Sub.nil _))))))))) ⟨an,x,a,h⟩
         have h:=A2 a2 h;refine Av<|A9 (a0.getD j.toNat default) (.cons rfl (.cons rfl (.cons rfl (.cons rfl (.cons rfl (.cons rfl (.cons rfl (.cons rfl (Sub.nil _))))))))) ⟨an,x,a,h⟩
        rintro y co ⟨bs,x,a,h⟩;refine Aq<|Ar 2 rfl<|Br (r:=.byte) (l:=[y]) rfl (fun _=>Ie _ _) rfl (show 1≤9223372036854775807 by decide) hH bs (.c1 rfl .nil) ?_;intro cz c0 cp bt a7 bu;obtain⟨bv,h⟩:=Ac h;have x:=x.mono (Ab hH a7);refine Bo (r:=.byte) (l:=t) (m:=[y]) 0 rfl rfl AaQ Lj rfl (by decide) rfl hH bt rfl x bu bv fun cd c2 bw bx bg bz=>Ar 1 rfl<|AL<|AA<|Ao<|Aq<|Ar 1 rfl ?_;obtain⟨b0,h⟩:=Ac h;refine Af (AK rfl rfl rfl b0) rfl<|Ar 1 rfl<|AL ?_;have h:=BF.again h bb;have a:=a.mono (Ab hH (a7.trans bg));refine AO ((t++[y]),(j+(1:Int)),cd,bw,a9) (.cons rfl (.cons rfl (.cons rfl (.cons rfl (.cons rfl (.cons rfl (.cons rfl (Sub.nil _)))))))) ⟨bx,bz,a,h⟩ (Nat.lt_succ_self _)
       have h:=A2 a1 h;refine Bq<|AH<|A6 ?_;have h:=BF.out h bb;refine Bf<|A9 (t,aa,q) (.cons rfl (.cons rfl (.cons rfl (.cons rfl (.cons rfl (.cons rfl (Sub.nil _))))))) ⟨an,x,a,h⟩
      have a:=a.mono (Ab hH (ae.trans aq));rintro⟨ak,ai,af⟩ cq ⟨b1,bh,a,h⟩;refine Aq<|Ar 2 rfl ?_;obtain⟨b2,h⟩:=Ac h;refine Af (AK rfl rfl rfl b2) rfl<|Ar 1 rfl<|AL<|AA ?_;have h:=BF.again h ax;refine AO (ak,(g+aj),ai,af,a8) (.cons rfl (.cons rfl (.cons rfl (.cons rfl (.cons rfl (Sub.nil _)))))) ⟨b1,bh,a,h⟩ (Nat.lt_succ_self _)
     have h:=A2 az h;refine Bq<|AH<|A6 ?_;have h:=BF.out h ax;refine Bf ?_;have u:=u.mono (Ab hH ae);have a:=a.mono (Ab hH ae);refine A9 (ac,g,z,p) (.cons rfl (.cons rfl (.cons rfl (.cons rfl (.cons rfl (Sub.nil _)))))) ⟨ay,u,a,h⟩
    have h:=A2 (of_decide_eq_false o) h
    iterate 4 refine Aj rfl rfl o rfl ?_
    refine Af (A7 rfl o rfl) rfl<|Ad<|Ch rfl<|Bq<|AH<|A6 ?_;have h:=BF.out h ax;refine Bf<|A9 (ac,g,z,p) (.cons rfl (.cons rfl (.cons rfl (.cons rfl (.cons rfl (Sub.nil _)))))) ⟨aw,u,a,h⟩
   have a:=a.mono (Ab hH a6);rintro⟨ad,k,am,ah⟩ cr ⟨a3,bi,a,h⟩;refine A8<|AD 3 rfl<|Bg rfl (fun a4=>?_) (fun a4=>?_)
   ·have h:=A1 a4 h;refine Aq<|Ar 2 rfl<|Af (M9 rfl AaQ AaS AaG (a3.S8 hH (i:=0) rfl bi) (Le.refl _)) rfl<|Ar 2 rfl<|Af (AW rfl (fun _=>SN _ rfl _ _ _)) rfl<|Br (r:=(.pair .st (.pair (.int .i64) (.int .i64)))) (l:=[(ad,d,k)]) rfl (fun _=>TM _ _ _ _) rfl (show 1≤9223372036854775807 by decide) hH a3 (.c3 ⟨_,_,rfl,rfl,⟨_,_,rfl,rfl,rfl⟩⟩ .nil) ?_;intro c4 c5 cs b3 bj b4;obtain⟨b5,h⟩:=Ac h;have a:=a.mono (Ab hH bj);refine Bo (r:=(.pair .st (.pair (.int .i64) (.int .i64)))) (l:=e) (m:=[(ad,d,k)]) 1 rfl rfl Abk KM rfl (by decide) rfl hH b3 rfl a b4 b5 fun ce c6 b6 b7 ci a5=>Ar 1 rfl<|AL<|Ao<|Aq<|Ar 1 rfl ?_;obtain⟨b8,h⟩:=Ac h;refine Af (AK rfl rfl rfl b8) rfl<|Ar 1 rfl<|AL<|AA ?_;have b9:=b7.AP (i:=0) rfl;have h:=BF.again h au;have a5:=a5.mono (Ab hH (Am (i:=0) rfl));refine AO ((e++[(ad,d,k)]),(k+(1:Int)),ce,b6,ar) (.cons rfl (.cons rfl (.cons rfl (Sub.nil _)))) ⟨b9,a5,h⟩ (Nat.lt_succ_self _)
   have h:=A2 a4 h;refine Av<|Ao<|Aq<|Ar 1 rfl ?_;obtain⟨ca,h⟩:=Ac h;refine Af (AK rfl rfl rfl ca) rfl<|Ar 1 rfl<|AL<|AA ?_;have cb:=a3.AP (i:=0) rfl;have h:=BF.again h au;have a:=a.mono (Ab hH (Am (i:=0) rfl));refine AO (e,(k+(1:Int)),f,c,ar) (.cons rfl (.cons rfl (.cons rfl (Sub.nil _)))) ⟨cb,a,h⟩ (Nat.lt_succ_self _)
  have h:=A2 av h;refine Bq<|AH<|A6 ?_;have h:=BF.out h au;refine Bf<|A9 (e,f,c) (.cons rfl (Sub.nil _)) ⟨ba,a,h⟩
 rintro⟨ap,al,ag⟩ ct ⟨bd,bk,h⟩;refine AD 2 rfl<|Az ?_;obtain rfl:=Option.some.inj h;refine An rfl rfl ?_;exact⟨bd.ext,_,rfl,(bd.Gp hH (i:=0) rfl bk)⟩
def J0(a0:Aas):Option ((Int×Int)):=
 if(64:Int)<(a0.length:Int) then Option.bind (H9 (3:Int) (-1:Int)) (fun d=>some ((d.1,d.2))) else AY (a0.length≤9223372036854775807) (Option.bind (O3 a0) (fun a=>if(a.length:Int)=(1:Int) then AY (0≤(0:Int)∧(0:Int)<(a.length:Int)) (if(a.getD ((0:Int).toNat) default).1=a0 then some (((0:Int),(0:Int))) else Option.bind (H9 (6:Int) (-1:Int)) (fun b=>some ((b.1,b.2)))) else Option.bind (H9 (6:Int) (-1:Int)) (fun c=>some ((c.1,c.2)))))
theorem ON(w:World)(H:PH)(hH:Le H (hp w)){a0:Aas}{r:(Int×Int)}(h:J0 a0=some r):
  Ok Tryz.prog 109 [Aar a0] w (fun v w'=>Ext w w'∧v=.agg #[No r.1,No r.2]):=by
 refine A5 (n:=24) [(0,(Aar a0))] func109 rfl rfl rfl rfl rfl ?_;have hL:=AR.start w;refine Al<|AJ AT rfl rfl hL fun w1 b1 e an _=>Ad<|A8<|Bl 1 rfl<|Af (CL rfl AaG) rfl<|AB 1 rfl<|Bg rfl (fun f=>?_) (fun f=>?_)
 ·have h:=A1 f h;refine Al ?_;obtain⟨x4,ac,h⟩:=Go.L.bind_some h;refine Ax rfl rfl e (Gi _ _ (As hH e) ac) ?_;rintro _ w5 rfl av ad ao;refine Ak 0 rfl rfl rfl AT ad rfl rfl (AF rfl (AF rfl BM)) fun w6 p ap=>Ad<|Az<|Au ?_;obtain rfl:=Option.some.inj h;refine B7 rfl (.cell rfl AaR rfl AT (AS (i:=0) p rfl)) ?_;exact⟨p.ext,rfl⟩
 have h:=A2 f h;refine Av<|Ao<|Bl 1 rfl ?_;obtain⟨ae,h⟩:=Ac h;refine WG (H:=H) rfl AaG AaQ AaS rfl e ae ?_;intro v8 w8 aw g aq af;obtain⟨ax,q,h⟩:=Go.L.bind_some h;refine Ax rfl rfl g (RM _ _ (As hH g) af q) ?_;rintro ag ay ⟨_,rfl,j⟩ t b ah;have c:=j.Ct hH g t;refine AB 1 rfl<|A8<|Bl 1 rfl<|Af (Bn rfl Abk c) rfl<|Ar 2 rfl<|AQ (s:=14) rfl (fun a=>?_) (fun a=>?_)
 ·have h:=A2 (CT a) h
  iterate 6 refine Aj rfl rfl a rfl ?_
  refine Af (A3 rfl a rfl) rfl<|Ad<|Ce rfl<|Al ?_;obtain⟨az,u,h⟩:=Go.L.bind_some h;refine Ax rfl rfl b (Gi _ _ (As hH b) u) ?_;rintro _ a1 rfl ar x ai;refine Ak 0 rfl rfl rfl AT x rfl rfl (AF rfl (AF rfl BM)) fun a2 k aj=>Ad<|Az<|Au ?_;obtain rfl:=Option.some.inj h;refine B7 rfl (.cell rfl AaR rfl AT (AS (i:=0) k rfl)) ?_;exact⟨k.ext,rfl⟩
 have h:=A1 (CU a) h;refine Aa rfl rfl a<|Af (Ae rfl) rfl<|Aa rfl rfl a ?_;obtain⟨l,h⟩:=Ac h;refine Be rfl rfl Abk KM c ((0:Int).toNat) (Int.toNat_of_nonneg l.1).symm (AZ l) rfl ?_;rintro a3 _ ⟨_,_,rfl,rfl,⟨_,_,rfl,rfl,rfl⟩⟩ y;refine Aa rfl rfl a<|Af (Ag rfl Abi rfl Fo (by decide)) rfl ?_;have z:=y.add 0;refine Aa rfl rfl a<|Af (Bh rfl AaG rfl z (As hH b)) rfl<|Aa rfl rfl a<|Af (Ae rfl) rfl<|Aa rfl rfl a<|Af (MB rfl rfl) rfl<|Af (A7 rfl a rfl) rfl<|Ad<|C9 rfl (fun d=>?_) (fun d=>?_)
 ·have h:=A2 d h;refine Al ?_;obtain⟨a4,aa,h⟩:=Go.L.bind_some h;refine Ax rfl rfl b (Gi _ _ (As hH b) aa) ?_;rintro _ a5 rfl au ab ak;refine Ak 0 rfl rfl rfl AT ab rfl rfl (AF rfl (AF rfl BM)) fun a6 m al=>Ad<|Az<|Au ?_;obtain rfl:=Option.some.inj h;refine B7 rfl (.cell rfl AaR rfl AT (AS (i:=0) m rfl)) ?_;exact⟨m.ext,rfl⟩
 have h:=A1 d h;refine Av<|Ao<|Al<|Af (AW rfl (fun _=>BL _)) rfl<|Ak 0 rfl rfl rfl AT b rfl rfl (AF rfl (AF rfl BM)) fun a7 o am=>Ad<|Az ?_;obtain rfl:=Option.some.inj h;refine B7 rfl (.cell rfl AaR rfl AT (AS (i:=0) o rfl)) ?_;exact⟨o.ext,rfl⟩
end Go.Proofs.YtekmbcbgknmhiaaGreatDoor
end
noncomputable section
namespace Go.Proofs.YtekmbcbgknmhiaaGreatDoor
open Go Go.L
theorem MD(x y z:Int):Ey x y z=some (decide (y≤x∧x≤z)):=rfl
theorem SX{a:List UInt8}{i:Nat}(k:Nat){z:Int}(hz:z=((i+k:Nat):Int)):((a.getD z.toNat default).toNat:Int)=((bt (a.drop i) k:Nat):Int):=by
 subst hz;rw [YV,Int.toNat_natCast]
 rfl
theorem KD{a:List UInt8}(hs:a.length≤1000000000000){i k:Nat}(n:Nat)(p:Nat)(hp:p≤1000000000)(hk:k<n)(_h4:n≤4)(hlen:i+n≤a.length):
  Hv a (i:Int) (n:Int) ((p:Int),(k:Int))=if cont (a.drop i) k then some (.inl (((p * 64+(bt (a.drop i) k - 128):Nat):Int),((k+1:Nat):Int))) else some (.inr 0):=by
 unfold Hv;have hb:bt (a.drop i) k<256:=UInt8.toNat_lt _;have hg:=SX (a:=a) (i:=i) k (z:=(i:Int)+(k:Int)) (by omega);simp only;rw [if_pos (by omega),Aw (by constructor <;> omega),Aw ⟨by omega,by omega⟩,hg,MD,Option.bind_some]
 have hc:cont (a.drop i) k=decide ((128:Int)≤((bt (a.drop i) k:Nat):Int)∧((bt (a.drop i) k:Nat):Int)≤191):=by
  unfold cont;rw [List.length_drop]
  congr 1
  apply propext
  constructor
  ·rintro⟨_,h2,h3⟩;exact⟨by omega,by omega⟩
  ·rintro⟨h2,h3⟩;exact⟨by omega,by omega,by omega⟩
 rw [hc]
 by_cases h:(128:Int)≤((bt (a.drop i) k:Nat):Int)∧((bt (a.drop i) k:Nat):Int)≤191
 ·rw [decide_eq_true h,if_neg (by decide),if_pos rfl,Aw (by constructor <;> omega),Aw (by constructor <;> omega),Aw (by constructor <;> omega),Aw (by constructor <;> omega)]
  congr 3
  ·omega
 ·rw [decide_eq_false h,if_pos (by decide),if_neg (by decide)]
  rfl
theorem P5{a:List UInt8}{i:Nat}(n:Nat)(p:Nat):Hv a (i:Int) (n:Int) ((p:Int),(n:Int))=(Il (n:Int) (p:Int)).map Sum.inr:=by
 unfold Hv;simp only;rw [if_neg (by omega)]
theorem size_eq{a:List UInt8}(hs:a.length≤1000000000000){i:Nat}(hi:i<a.length):NM a (i:Int)=some ((Sm (a.drop i):Nat):Int):=by
 have o:bt (a.drop i) 0<256:=UInt8.toNat_lt _;have hg:=SX (a:=a) (i:=i) 0 (z:=(i:Int)) (by omega);have k3z:∀ s,FR a (i:Int) 0 s=some 0:=fun s=>by unfold FR;rw [if_pos rfl]
 -- the loop for n bytes
 have hc:∀ k,cont (a.drop i) k=true→i+k<a.length:=fun k h=>by
  have:=(of_decide_eq_true h).1;rw [List.length_drop] at this;omega
 unfold NM;rw [Aw ⟨by omega,by omega⟩,hg,MD,Option.bind_some];unfold Sm
 by_cases hA:194≤bt (a.drop i) 0∧bt (a.drop i) 0≤223
 ·rw [decide_eq_true ⟨by omega,by omega⟩,if_pos rfl,Aw (by constructor <;> omega),if_pos hA];unfold Jz Im FR;rw [hg,MD,Option.bind_some,decide_eq_false (by omega),if_neg (by decide),MD,Option.bind_some,decide_eq_false (by omega),if_neg (by decide),if_neg (by decide),Aw (by constructor <;> omega)]
  by_cases h2:i+2≤a.length
  ·rw [if_neg (by omega)];have e:((bt (a.drop i) 0:Nat):Int) - 192=((bt (a.drop i) 0 - 192:Nat):Int):=by omega
   rw [e];unfold K4;have s1:=KD hs (i:=i) (k:=1) 2 (bt (a.drop i) 0 - 192) (by omega) (by decide) (by decide) h2
   by_cases c1:cont (a.drop i) 1=true
   ·rw [if_pos c1] at s1 ⊢;refine(BK s1).trans (B2 (m:=some 2) ((P5 2 _).trans ?_));unfold Il;rw [if_neg (by decide),if_neg (by decide)]
    rfl
   ·rw [if_neg c1] at s1 ⊢;exact B2 (m:=some 0) s1
  ·rw [if_pos (by omega),if_neg (fun h=>by have:=hc 1 h;omega)]
   rfl
 rw [decide_eq_false (by omega),if_neg (by decide),if_neg hA];unfold Jz;rw [hg,MD,Option.bind_some]
 by_cases hB:224≤bt (a.drop i) 0∧bt (a.drop i) 0≤239
 ·rw [decide_eq_true ⟨by omega,by omega⟩,if_pos rfl,Aw (by constructor <;> omega),if_pos hB];unfold Im FR;rw [hg,MD,Option.bind_some,decide_eq_false (by omega),if_neg (by decide),if_neg (by decide),Aw (by constructor <;> omega)]
  by_cases h2:i+3≤a.length
  ·rw [if_neg (by omega)];have e:((bt (a.drop i) 0:Nat):Int) - 224=((bt (a.drop i) 0 - 224:Nat):Int):=by omega
   rw [e];unfold K4;have g:bt (a.drop i) 1<256:=UInt8.toNat_lt _;have j:bt (a.drop i) 2<256:=UInt8.toNat_lt _;have s1:=KD hs (i:=i) (k:=1) 3 (bt (a.drop i) 0 - 224) (by omega) (by decide) (by decide) h2;have b:=KD hs (i:=i) (k:=2) 3 ((bt (a.drop i) 0 - 224) * 64+(bt (a.drop i) 1 - 128)) (by omega) (by decide) (by decide) h2
   by_cases c1:cont (a.drop i) 1=true
   ·rw [if_pos c1] at s1;refine(BK s1).trans ?_
    by_cases c2:cont (a.drop i) 2=true
    ·rw [if_pos c2] at b;refine(BK b).trans (B2 (m:=some _) ((P5 3 _).trans (congrArg _ ?_)));have f:((bt (a.drop i) 0 - 224) * 64+(bt (a.drop i) 1 - 128)) * 64+(bt (a.drop i) 2 - 128)=ZB (a.drop i):=rfl;rw [f];unfold Il;rw [if_pos (by decide)]
     by_cases c:2048≤ZB (a.drop i)
     ·rw [if_neg (by omega),MD,Option.bind_some]
      by_cases l:55296≤ZB (a.drop i)∧ZB (a.drop i)≤57343
      ·rw [decide_eq_true ⟨by omega,by omega⟩,if_pos rfl,if_neg (fun h=>h.2.2.2 l)];rfl
      ·rw [decide_eq_false (by omega),if_neg (by decide),if_neg (by decide),if_pos ⟨c1,c2,c,l⟩]
     ·rw [if_pos (by omega),if_neg (fun h=>c h.2.2.1)];rfl
    ·rw [if_neg c2] at b;rw [if_neg (fun h=>c2 h.2.1)];exact B2 (m:=some 0) b
   ·rw [if_neg c1] at s1;rw [if_neg (fun h=>c1 h.1)];exact B2 (m:=some 0) s1
  ·rw [if_pos (by omega),if_neg (fun h=>by have:=hc 2 h.2.1;omega)]
   rfl
 rw [decide_eq_false (by omega),if_neg (by decide),if_neg hB];unfold Im;rw [hg,MD,Option.bind_some]
 by_cases hC:240≤bt (a.drop i) 0∧bt (a.drop i) 0≤244
 ·rw [decide_eq_true ⟨by omega,by omega⟩,if_pos rfl,Aw (by constructor <;> omega),if_pos hC];unfold FR;rw [if_neg (by decide),Aw (by constructor <;> omega)]
  by_cases h2:i+4≤a.length
  ·rw [if_neg (by omega)];have e:((bt (a.drop i) 0:Nat):Int) - 240=((bt (a.drop i) 0 - 240:Nat):Int):=by omega
   rw [e];unfold K4;have g:bt (a.drop i) 1<256:=UInt8.toNat_lt _;have j:bt (a.drop i) 2<256:=UInt8.toNat_lt _;have p:bt (a.drop i) 3<256:=UInt8.toNat_lt _;have s1:=KD hs (i:=i) (k:=1) 4 (bt (a.drop i) 0 - 240) (by omega) (by decide) (by decide) h2;have b:=KD hs (i:=i) (k:=2) 4 ((bt (a.drop i) 0 - 240) * 64+(bt (a.drop i) 1 - 128)) (by omega) (by decide) (by decide) h2;have d:=KD hs (i:=i) (k:=3) 4 (((bt (a.drop i) 0 - 240) * 64+(bt (a.drop i) 1 - 128)) * 64+(bt (a.drop i) 2 - 128)) (by omega) (by decide) (by decide) h2
   by_cases c1:cont (a.drop i) 1=true
   ·rw [if_pos c1] at s1;refine(BK s1).trans ?_
    by_cases c2:cont (a.drop i) 2=true
    ·rw [if_pos c2] at b;refine(BK b).trans ?_
     by_cases c3:cont (a.drop i) 3=true
     ·rw [if_pos c3] at d;refine(BK d).trans (B2 (m:=some _) ((P5 4 _).trans (congrArg _ ?_)));have f:(((bt (a.drop i) 0 - 240) * 64+(bt (a.drop i) 1 - 128)) * 64+(bt (a.drop i) 2 - 128)) * 64+(bt (a.drop i) 3 - 128)=pt4 (a.drop i):=rfl;rw [f];unfold Il;rw [if_neg (by decide),if_pos (by decide),MD,Option.bind_some]
      by_cases c:65536≤pt4 (a.drop i)∧pt4 (a.drop i)≤1114111
      ·rw [decide_eq_true ⟨by omega,by omega⟩,if_neg (by decide),if_pos ⟨c1,c2,c3,c⟩]
      ·rw [decide_eq_false (by omega),if_pos (by decide),if_neg (fun h=>c h.2.2.2)];rfl
     ·rw [if_neg c3] at d;rw [if_neg (fun h=>c3 h.2.2.1)];exact B2 (m:=some 0) d
    ·rw [if_neg c2] at b;rw [if_neg (fun h=>c2 h.2.1)];exact B2 (m:=some 0) b
   ·rw [if_neg c1] at s1;rw [if_neg (fun h=>c1 h.1)];exact B2 (m:=some 0) s1
  ·rw [if_pos (by omega),if_neg (fun h=>by have:=hc 3 h.2.2.1;omega)]
   rfl
 rw [decide_eq_false (by omega),if_neg (by decide),if_neg hC,k3z]
 rfl
theorem U8{a:List UInt8}(hs:a.length≤1000000000000){i:Nat}(hi:i<a.length):Kh a (i:Int)=some ((MT (a.drop i):Nat):Int):=by
 have hg:=SX (a:=a) (i:=i) 0 (z:=(i:Int)) (by omega);unfold Kh;rw [Aw ⟨by omega,by omega⟩,hg,MD,Option.bind_some];unfold MT asc
 by_cases b:48≤bt (a.drop i) 0∧bt (a.drop i) 0≤57
 ·rw [decide_eq_true ⟨by omega,by omega⟩,if_pos rfl,if_pos (decide_eq_true (.inl b))];rfl
 rw [decide_eq_false (by omega),if_neg (by decide),MD,Option.bind_some]
 by_cases h2:97≤bt (a.drop i) 0∧bt (a.drop i) 0≤122
 ·rw [decide_eq_true ⟨by omega,by omega⟩,if_pos rfl,if_pos (decide_eq_true (.inr (.inl h2)))];rfl
 rw [decide_eq_false (by omega),if_neg (by decide),MD,Option.bind_some]
 by_cases h3:65≤bt (a.drop i) 0∧bt (a.drop i) 0≤90
 ·rw [decide_eq_true ⟨by omega,by omega⟩,if_pos rfl,if_pos (decide_eq_true (.inr (.inr h3)))];rfl
 rw [decide_eq_false (by omega),if_neg (by decide),size_eq hs hi,Option.bind_some,if_neg (fun h=>by have:=of_decide_eq_true h;omega)]
end Go.Proofs.YtekmbcbgknmhiaaGreatDoor
namespace Go.Proofs.YtekmbcbgknmhiaaGreatDoor
open Go Go.L
theorem Xz{a:List UInt8}{e j:Nat}(h:e+j<a.length):((a.drop e).take (j+1)).map Jy=((a.drop e).take j).map Jy++[Jy (a.getD (e+j) default)]:=by
 have b:(a.drop e)[j]? = some (a.getD (e+j) default):=by
  rw [List.getElem?_drop,List.getD_eq_getElem?_getD,List.getElem?_eq_getElem h]
  rfl
 rw [List.take_add_one,b,List.map_append]
 rfl
theorem X0{a:List UInt8}(hs:a.length≤1000000000000){e n:Nat}(h:e+n≤a.length)(low:List UInt8)(hl:low.length≤e):
  LD a (e:Int) (n:Int) (low,(e:Int))=some (.inl (low++((a.drop e).take n).map Jy,((e+n:Nat):Int))):=by
 unfold LD
 have key:=Pq (b:=HR a (e:Int) (n:Int)) (m:=some (.inl (low++((a.drop e).take n).map Jy,((e+n:Nat):Int)))) (fun j=>(low++((a.drop e).take j).map Jy,((e+j:Nat):Int))) n (fun j hj=>by
  unfold HR;simp only;rw [Aw (by constructor <;> omega),if_pos (by omega),Aw ⟨by omega,by omega⟩,Int.toNat_natCast]
  have hlen:(low++((a.drop e).take j).map Jy).length+[Jy (a.getD (e+j) default)].length≤2000000000002:=by
   rw [List.length_append,List.length_map,List.length_take,List.length_drop,List.length_singleton];omega
  have hk:IF (low++((a.drop e).take j).map Jy) ((e+j:Nat):Int) (Jy (a.getD (e+j) default))=some (.inl (low++((a.drop e).take (j+1)).map Jy,((e+(j+1):Nat):Int))):=by
   unfold IF;rw [Aw (by constructor <;> omega),Aw (by constructor <;> omega),Xz (by omega),List.append_assoc]
   congr 3
  rw [← hk];unfold Jy
  split
  ·rfl
  ·rfl) (by
  unfold HR LC;simp only;rw [Aw (by constructor <;> omega),if_neg (by omega),Aw (by constructor <;> omega)]
  congr 3) 0 (by omega)
 simp only [List.take_zero,List.map_nil,List.append_nil,Nat.add_zero] at key;exact key
theorem SZ{a:List UInt8}{at':Nat}(h:a.length≤at')(L:List W):run (CY a) (L,(at':Int))=some L:=by
 refine B2 (m:=some L) ?_;unfold CY LF;simp only;rw [if_neg (by omega)]
theorem X1{a:List UInt8}(hs:a.length≤1000000000000)(L:List W){fr at':Nat}(hL:L.length≤at')(ha:at'≤a.length)(cur:List UInt8)(hfr:fr≤at')(hc:cur=[]↔fr=at'):
  IG L (fr:Int) cur (at':Int)=some (.inl (L++fin cur fr at',((at'+1:Nat):Int))):=by
 unfold IG fin
 by_cases h:fr=at'
 ·rw [if_neg (by omega),Aw (by constructor <;> omega),if_pos (hc.2 h),List.append_nil]
  congr 3
 ·rw [if_pos (by omega),Aw (by rw [List.length_singleton];constructor <;> omega),Aw (by constructor <;> omega),if_neg (fun e=>h (hc.1 e))]
  congr 3
theorem Za{a:List UInt8}(hs:a.length≤1000000000000):∀ (f at':Nat) (L:List W),a.length≤at'+f→L.length≤at'→at'≤a.length+1→
  run (CY a) (L,(at':Int))=some (L++Um a f at' [] at')∧
  ∀
   (cur:List UInt8) (fr:Nat),at'≤a.length→fr≤at'→cur.length≤at'→(cur=[]↔fr=at')→∃ s,run (En a L (fr:Int)) (cur,(at':Int))=some (.inl s)∧
   run (CY a) s=some (L++Um a f at' cur fr):=by
 have E:∀ (f at':Nat) (L:List W),a.length≤at'→L.length≤at'→∀ (cur:List UInt8) (fr:Nat),at'≤a.length→fr≤at'→(cur=[]↔fr=at')→∃ s,run (En a L (fr:Int)) (cur,(at':Int))=some (.inl s)∧
   run (CY a) s=some (L++Um a f at' cur fr):=by
  intro f at' L h hL cur fr hle hfr hc;refine⟨(L++fin cur fr at',((at'+1:Nat):Int)),?_,?_⟩
  ·refine B2 (m:=some (Sum.inl (L++fin cur fr at',((at'+1:Nat):Int)):WS)) ?_;unfold En;simp only;rw [if_neg (by omega),X1 hs L hL hle cur hfr hc]
  ·rw [SZ (by omega),NL h]
 intro f
 induction f with
 | zero=>
  intro at' L hf hL ha
  constructor
  ·rw [SZ (by omega),NL (by omega)];unfold fin;rw [if_pos rfl,List.append_nil]
  ·intro cur fr hle hfr _ hc;exact E 0 at' L (by omega) hL cur fr hle hfr hc
 | succ f ih=>
  intro at' L hf hL ha
  have B:∀ (cur:List UInt8) (fr:Nat),at'≤a.length→fr≤at'→cur.length≤at'→(cur=[]↔fr=at')→∃ s,run (En a L (fr:Int)) (cur,(at':Int))=some (.inl s)∧
   run (CY a) s=some (L++Um a (f+1) at' cur fr):=by
   intro cur fr hle hfr hcl hc
   by_cases h:at'<a.length
   ·have hroom:=TU h;have hlow:=Vx h;have hl:=U8 hs h;unfold Um;rw [if_pos h]
    by_cases c:MT (a.drop at')=0
    ·rw [if_pos c];refine⟨(L++fin cur fr at',((at'+1:Nat):Int)),?_,?_⟩
     ·refine B2 (m:=some (Sum.inl (L++fin cur fr at',((at'+1:Nat):Int)):WS)) ?_;unfold En;simp only;rw [if_pos (by omega),hl,Option.bind_some,if_neg (by omega),X1 hs L hL hle cur hfr hc]
     ·have b:=(ih (at'+1) (L++fin cur fr at') (by omega) (by rw [List.length_append];have:=YY cur fr at';omega) (by omega)).1;rw [b,List.append_assoc]
    ·rw [if_neg c];have hne:((a.drop at').take (MT (a.drop at'))).map Jy≠[]:=fun e=>by rw [e,List.length_nil] at hlow;omega
     obtain⟨s,b,h2⟩:=(ih (at'+MT (a.drop at')) L (by omega) (by omega) (by omega)).2 (cur++((a.drop at').take (MT (a.drop at'))).map Jy) fr hroom (by omega) (by rw [List.length_append,hlow];omega) ⟨fun e=>absurd (List.append_eq_nil_iff.1 e).2 hne,fun e=>by omega⟩;refine⟨s,?_,h2⟩;rw [← b];refine BK ?_;unfold En;simp only;rw [if_pos (by omega),hl,Option.bind_some,if_pos (by omega),Option.bind_some,X0 hs hroom cur hcl]
   ·exact E (f+1) at' L (by omega) hL cur fr hle hfr hc
  refine⟨?_,B⟩
  by_cases h:at'<a.length
  ·obtain⟨s,b,h2⟩:=B [] at' (by omega) (by omega) (by simp) ⟨fun _=>rfl,fun _=>rfl⟩
   have hb:CY a (L,(at':Int))=some (.inl s):=by
    unfold CY;simp only;rw [if_pos (by omega)];exact b
   rw [BK hb];exact h2
  ·rw [SZ (by omega),NL (by omega)];unfold fin;rw [if_pos rfl,List.append_nil]
theorem VW{a:List UInt8}(hs:a.length≤1000000000000):O3 a=some (wds a):=by
 have:=(Za hs (a.length+1) 0 [] (by omega) (by simp) (by omega)).1;rw [List.nil_append] at this;exact this
def wf(a:List UInt8):Int×Int:=if 64<a.length then(3,-1) else if(wds a).map Prod.fst=[a] then(0,0) else(6,-1)
theorem X2(a:List UInt8):HQ a=some (wf a):=by
 unfold HQ wf
 by_cases h:64<a.length
 ·rw [if_pos (by omega),if_pos h];rfl
 ·rw [if_neg (by omega),if_neg h,VV (by omega),Option.bind_some]
  by_cases b:(wds a).map Prod.fst=[a]
  ·rw [decide_eq_true b,if_neg (by decide),if_pos b]
  ·rw [decide_eq_false b,if_pos (by decide),if_neg b];rfl
theorem Ta(a:List UInt8):J0 a=some (wf a):=by
 unfold J0 wf
 by_cases h:64<a.length
 ·rw [if_pos (by omega),if_pos h];rfl
 ·rw [if_neg (by omega),if_neg h,Aw (by omega),VW (by omega),Option.bind_some];generalize wds a=l
  match l with
  | []=>rw [if_neg (by simp),if_neg (by simp)];rfl
  | [x]=>
   rw [if_pos (show(([x].length:Nat):Int)=1 from rfl),Aw (by simp)]
   show(if x.1=a then _ else _)=_
   by_cases b:x.1=a
   ·rw [if_pos b,if_pos (by simp [b])]
   ·rw [if_neg b,if_neg (by simp [b])];rfl
  | x::y::z=>rw [if_neg (by simp;omega),if_neg (by simp)];rfl
end Go.Proofs.YtekmbcbgknmhiaaGreatDoor
end
noncomputable section
namespace Go.Proofs.YtekmbcbgknmhiaaGreatDoor
open Go Go.E Go.RowKit Go.Shelf
def pieces(s:List UInt8):List (List UInt8):=Lib.split s [47]
def NN(s sep:List UInt8)(sv n:Int):Option (List (List UInt8)):=Go.L.AY (s.length<4294967281∧sep.length=1∧sv=0∧n = -1) (some (Lib.split s sep))
theorem TW(G:PH):∀ l:List (List UInt8),AM Rp.st G l (l.map Go.Proofs.encStr)
 | []=>.nil
 | _::l=>.cons (c:=[_]) rfl (TW G l)
theorem TX(w:World)(H:PH)(_hH:Le H (hp w)){a0 a1:List UInt8}{a2 a3:Int}{r:List (List UInt8)}(h:NN a0 a1 a2 a3=some r):
  Ok Tryz.prog 166 [.string ⟨a0.toArray⟩,.string ⟨a1.toArray⟩,.int .i64 a2,.int .i64 a3] w (fun v w'=>Ext w w'∧∃ u0,v=u0∧Co 9 .st H w w' u0 r):=by
 obtain⟨hk,h⟩:=Go.L.Ac h;obtain rfl:=Option.some.inj h;obtain⟨h1,h2,rfl,rfl⟩:=hk;obtain⟨sb,rfl⟩:=List.length_eq_one_iff.1 h2;have hsz:(ByteArray.mk a0.toArray).size=a0.length:=by simp [ByteArray.size]
 obtain⟨N,hN⟩:∃ N,N=Lib.countB ⟨a0.toArray⟩ ⟨#[sb]⟩+1:=⟨_,rfl⟩;have hle:Lib.countB ⟨a0.toArray⟩ ⟨#[sb]⟩≤(ByteArray.mk a0.toArray).size:=Lib.countB_le ⟨#[sb]⟩ (Nat.le_refl 1) _ _ (Nat.le_refl _)
 have c:=Any.strings_genSplit_core (P:=Tryz.prog) (ρ:=Tryz.K3) {Tryz.Rl with} (by kernel_rfl) ⟨a0.toArray⟩ ⟨#[sb]⟩ 0 (-1) N w (by rw [hsz];exact h1) (Nat.le_refl 1) (Nat.zero_le _)
  (fun x cc hx=>(Any.strings_Index_one (P:=Tryz.prog) (ρ:=Tryz.K3) {Tryz.Rl with} x sb _).mono fun e w' ⟨he,hw⟩=>⟨by rw [he];exact congrArg (fun z=>Ending.returned (Value.int .i64 z)) (Lib.index_one x.data.toList sb).symm,hw⟩)
  ((Any.strings_Count_one (P:=Tryz.prog) (ρ:=Tryz.K3) {Tryz.Rl with} ⟨a0.toArray⟩ sb w).mono fun e w' ⟨he,hw⟩=>⟨by rw [he];exact congrArg (fun z:Nat=>Ending.returned (Value.int .i64 (z:Int))) (Lib.count_one sb _).symm,hw⟩)
  (by decide) (by decide) (by rw [if_pos (by decide),hN];omega)
 refine⟨⟨Tryz.f166,_,Tryz.func166,rfl,rfl⟩,c.mono fun e w' he=>?_⟩;obtain⟨rfl,rfl⟩:=he
 have hl:(Lib.splitB ⟨#[sb]⟩ 0 (N - 1) ⟨a0.toArray⟩).length=N:=by
  have:=Lib.splitB_all ⟨#[sb]⟩ (Nat.le_refl 1) 0 (N - 1) ⟨a0.toArray⟩ (by omega);omega
 have hd:=Lib.splitB_data ⟨#[sb]⟩ 0 (N - 1) ⟨a0.toArray⟩
 have hpc:(Lib.splitB ⟨#[sb]⟩ 0 (N - 1) ⟨a0.toArray⟩).map (fun b=>b.data.toList)=Lib.split a0 [sb]:=by
  rw [hd];unfold Lib.split;rw [hN]
  rfl
 have hpl:(Lib.split a0 [sb]).length=N:=by rw [← hpc,List.length_map,hl]
 have hmp:(Lib.splitB ⟨#[sb]⟩ 0 (N - 1) ⟨a0.toArray⟩).map Value.string=(Lib.split a0 [sb]).map Go.Proofs.encStr:=by
  rw [← hpc,List.map_map];apply List.map_congr_left;intro b _
  show Value.string b=Value.string ⟨b.data.toList.toArray⟩
  rw [Array.toArray_toList]
 refine⟨_,rfl,Cl w _,_,rfl,(Lib.split a0 [sb]).map Go.Proofs.encStr,?_,TW _ _⟩;refine⟨by rw [List.length_map];exact(Nat.mul_one _).symm,.inr ⟨w.heap.size,N,_,?_,Nat.le_refl _,World.alloc_heap_new w _,?_,?_,?_,?_⟩⟩
 ·rw [hl,hpl]
 ·omega
 ·unfold maxLen;omega
 ·rw [Lib.cellsOf_size (by omega)];exact(Nat.mul_one _).symm
 ·have e1:Lib.cellsOf (Lib.splitB ⟨#[sb]⟩ 0 (N - 1) ⟨a0.toArray⟩) N=((Lib.splitB ⟨#[sb]⟩ 0 (N - 1) ⟨a0.toArray⟩).map Value.string).toArray:=by
   have:=Lib.cellsOf_full (Lib.splitB ⟨#[sb]⟩ 0 (N - 1) ⟨a0.toArray⟩)
   rwa [hl] at this
  rw [e1,hmp];exact List.take_of_length_le (by rw [List.length_map];exact Nat.le_of_eq (Nat.mul_one _).symm)
def PT(a:List UInt8)(c:UInt8):Option Int:=some (Lib.indexByte a c)
theorem Q5(w:World)(H:PH)(_hH:Le H (hp w)){a0:List UInt8}{a1:UInt8}{r:Int}(h:PT a0 a1=some r):
  Ok Tryz.prog 168 [.string ⟨a0.toArray⟩,.int .u8 (a1.toNat:Int)] w (fun v w'=>Ext w w'∧v=.int .i64 r):=by
 obtain rfl:=Option.some.inj h;refine⟨⟨Tryz.f168,_,Tryz.func168,rfl,rfl⟩,(Any.strings_IndexByte Tryz.AaC ⟨a0.toArray⟩ (a1.toNat:Int) w).mono fun e w' he=>?_⟩;obtain⟨rfl,rfl⟩:=he;refine⟨_,rfl,Ext.refl _,?_⟩;have e:((a1.toNat:Int).toNat).toUInt8=a1:=by simp
 rw [e]
def PU(a:List (List UInt8))(sep:List UInt8):Option (List UInt8):=Go.L.AY (a.length≤140737488355328∧(Lib.join a sep).length≤140737488355328) (some (Lib.join a sep))
theorem Tb(w:World)(H:PH)(hH:Le H (hp w)){a0:List (List UInt8)}{a1:List UInt8}{v:Value}(hv:AI .st H v a0){r:List UInt8}(h:PU a0 a1=some r):
  Ok Tryz.prog 63 [v,.string ⟨a1.toArray⟩] w (fun v w'=>Ext w w'∧v=.string ⟨r.toArray⟩):=by
 obtain⟨⟨h1,h2⟩,h⟩:=Go.L.Ac h;obtain rfl:=Option.some.inj h
 have X:Builder.Extra Tryz.prog Tryz.PR:={
  liesBuilder:=by kernel_rfl
  sizeBuilder:=by kernel_rfl
  t5:=by kernel_rfl
  a5:=fun w=>by kernel_rfl
  z5:=fun w=>by kernel_rfl
  v5:=fun w=>by kernel_rfl
  infoByte:=by kernel_rfl
  cellsByte:=by kernel_rfl
  sizeByte:=by kernel_rfl
  neB5:=by decide}
 obtain⟨a,cap,rfl,k2,k3,k4,k5⟩:=hv.ex
 have key:∀ (P:Prop),((a0=[]→P)∧(∀ A,a=some A→a0≠[]→P))→P:=fun P hP=>by
  by_cases ha:a0=[]
  ·exact hP.1 ha
  ·cases a with
   | none=>exact absurd (List.eq_nil_of_length_eq_zero (by have:=k4 rfl;omega)) ha
   | some A=>exact hP.2 A rfl ha
 refine key _ ⟨fun he=>?_,fun A hA hne=>?_⟩
 ·subst he;refine⟨⟨Tryz.f63,_,Tryz.func63,rfl,rfl⟩,(Any.strings_Join_none Tryz.Vw X a cap ⟨a1.toArray⟩ w).mono fun e w' hh=>?_⟩;obtain⟨rfl,rfl⟩:=hh;exact⟨_,rfl,Ext.refl _,rfl⟩
 ·subst hA;obtain⟨k6,k7⟩:=k5 A rfl hne;obtain⟨b,o,sp⟩:=A;simp only at k6;subst k6
  have hcell:∀ (j:Nat) x,(a0.map fun l=>(⟨l.toArray⟩:ByteArray))[j]? = some x→w.cell? ⟨b,o+j,none⟩=some (.string x):=fun j x hx=>by
   rw [List.getElem?_map] at hx
   cases hj:a0[j]? with
   | none=>rw [hj] at hx;cases hx
   | some l=>
    rw [hj] at hx;obtain rfl:=Option.some.inj hx;obtain⟨c,hc,hcell⟩:=k7 j l hj;obtain rfl:c=[.string ⟨l.toArray⟩]:=hc;have:=cell_of hH (hcell 0 _ rfl)
    rwa [show(Rp.st).sz=1 from rfl,Nat.mul_one,Nat.add_zero,Addr.add_lit] at this
  have hpos:0<a0.length:=List.length_pos_iff.2 hne
  have hb:b<w.heap.size:=by
   have h0:=hcell 0 ⟨(a0[0]'hpos).toArray⟩ (by simp [hpos]);exact World.block_lt_of_cell? _ _ h0
  have e2:(a0.map fun l=>(⟨l.toArray⟩:ByteArray)).map (·.data.toList)=a0:=by rw [List.map_map];exact(List.map_congr_left (fun l _=>by simp)).trans (List.map_id _)
  have c:=Any.strings_Join Tryz.Vw X b o cap (a0.map fun l=>(⟨l.toArray⟩:ByteArray)) ⟨a1.toArray⟩ w hcell hb (by rw [List.length_map];exact h1) (by rw [List.length_map];omega) (by rw [e2];simpa using h2);rw [e2,List.length_map] at c;refine⟨⟨Tryz.f63,_,Tryz.func63,rfl,rfl⟩,c.mono fun e w' hh=>?_⟩;obtain⟨rfl,hb'⟩:=hh;exact⟨_,rfl,Ext.off hb',by simp⟩
end Go.Proofs.YtekmbcbgknmhiaaGreatDoor
end
noncomputable section
namespace Go.Proofs.YtekmbcbgknmhiaaGreatDoor
open Go Go.E Go.RowKit Go.L
set_option maxHeartbeats 1000000
set_option maxRecDepth 10000
open _root_.Go.Proofs.Tryz
def Io(a0:Int)(a1:Int):Option ((Int×Int)):=
 some ((a0,a1))
theorem ME(w:World)(H:PH)(_hH:Le H (hp w)){a0:Int}{a1:Int}{r:(Int×Int)}(h:Io a0 a1=some r):
  Ok Tryz.prog 81 [No a0,No a1] w (fun v w'=>Ext w w'∧v=.agg #[No r.1,No r.2]):=by
 refine A5 (n:=8) [(0,No a0),(1,No a1)] func81 rfl rfl rfl rfl rfl ?_;have hL:=AR.start w;refine Al<|AJ AT rfl rfl hL fun e f b c _=>Ad<|Bl 2 rfl<|Af (AW rfl (fun _=>NG _ _ _)) rfl<|Ak 0 rfl rfl rfl AT b rfl rfl (AF rfl (AF rfl BM)) fun g a d=>Ad<|Az ?_;obtain rfl:=Option.some.inj h;refine B7 rfl (.cell rfl AaR rfl AT (AS (i:=0) a rfl)) ?_;exact⟨a.ext,rfl⟩
def strings_Split(a0:Aas)(a1:Aas):Option ((List Aas)):=
 Option.bind (NN a0 a1 (0:Int) (-1:Int)) (fun a=>some (a))
theorem LZ(w:World)(H:PH)(hH:Le H (hp w)){a0:Aas}{a1:Aas}{r:(List Aas)}(h:strings_Split a0 a1=some r):
  Ok Tryz.prog 113 [Aar a0,Aar a1] w (fun v w'=>Ext w w'∧∃ d,v=d∧Co 9 .st H w w' d (r)):=by
 refine A5 (n:=8) [(0,(Aar a0)),(1,(Aar a1))] func113 rfl rfl rfl rfl rfl ?_;have hL:=AR.start w;refine AD 1 rfl<|Bl 2 rfl ?_;obtain⟨l,e,h⟩:=Go.L.bind_some h;refine Ax rfl rfl hL (TX _ _ (As hH hL) e) ?_;rintro j m ⟨_,rfl,b⟩ f a c;obtain⟨k,a,c,g⟩:=b.take hH hL f;refine AB 1 rfl<|Az ?_;obtain rfl:=Option.some.inj h;refine An rfl rfl ?_;exact⟨a.ext,_,rfl,(a.Gp hH (i:=0) rfl g)⟩
def Ip(a0:Aas):Option ((List Aas)):=
 if a0=([]:Aas) then some ([]) else Option.bind (strings_Split a0 ([47]:Aas)) (fun a=>some (a))
theorem Qh(w:World)(H:PH)(hH:Le H (hp w)){a0:Aas}{r:(List Aas)}(h:Ip a0=some r):
  Ok Tryz.prog 158 [Aar a0] w (fun v w'=>Ext w w'∧∃ e,v=e∧Co 9 .st H w w' e (r)):=by
 refine A5 (n:=7) [(0,(Aar a0))] func158 rfl rfl rfl rfl rfl ?_;have hL:=AR.start w;refine AD 1 rfl<|A8<|Bl 1 rfl<|Af (LP rfl rfl) rfl<|Ad<|Bg rfl (fun a=>?_) (fun a=>?_)
 ·have h:=A1 a h;refine AD 1 rfl<|Az<|Au ?_;obtain rfl:=Option.some.inj h;refine An rfl rfl ?_;exact⟨hL.ext,_,rfl,Co.nil⟩
 have h:=A2 a h;refine Av<|Ao<|Bl 1 rfl ?_;obtain⟨m,f,h⟩:=Go.L.bind_some h;refine Ax rfl rfl hL (LZ _ _ (As hH hL) f) ?_;rintro k o ⟨_,rfl,c⟩ g b d;obtain⟨l,b,d,j⟩:=c.take hH hL g;refine AB 1 rfl<|Az ?_;obtain rfl:=Option.some.inj h;refine An rfl rfl ?_;exact⟨b.ext,_,rfl,(b.Gp hH (i:=0) rfl j)⟩
def BZ(a0:Int):Option (Bool):=
 if((0:Int)≤a0)∧(a0<(55296:Int)) then some (true) else(if((57343:Int)<a0)∧(a0≤(1114111:Int)) then some (true) else some (false))
theorem Lk(w:World)(H:PH)(_hH:Le H (hp w)){a0:Int}{r:Bool}(h:BZ a0=some r):
  Ok Tryz.prog 267 [.int .i32 a0] w (fun v w'=>Ext w w'∧v=.bool r):=by
 refine A5 (n:=17) [(0,.int .i32 a0)] func267 rfl rfl rfl rfl rfl ?_;have hL:=AR.start w;refine AD 1 rfl<|A8<|A4<|Bl 3 rfl<|MU 2 2 rfl rfl rfl rfl rfl rfl<|AB 1 rfl<|Bg rfl (fun a=>?_) (fun a=>?_)
 ·have h:=A1 a h;refine AD 1 rfl<|Az<|Ay<|Au ?_;obtain rfl:=Option.some.inj h;refine An rfl rfl ?_;exact⟨hL.ext,rfl⟩
 have h:=A2 a h;refine Bl 3 rfl<|MU 2 2 rfl rfl rfl rfl rfl rfl<|AB 1 rfl<|Bg rfl (fun b=>?_) (fun b=>?_)
 ·have h:=A1 b h;refine AD 1 rfl<|Az<|Ay<|Au ?_;obtain rfl:=Option.some.inj h;refine An rfl rfl ?_;exact⟨hL.ext,rfl⟩
 have h:=A2 b h;refine Av<|AA<|Ao<|AD 1 rfl<|Az ?_;obtain rfl:=Option.some.inj h;refine An rfl rfl ?_;exact⟨hL.ext,rfl⟩
def FT:Option (Int):=
 some ((-1:Int))
def Ca(a0:Aas):Nat→Option ((Nat) ⊕ (Int)):=fun a=>
 if a<a0.length then(if((P0 a0 a).1:Int)=(65533:Int) then Option.map Sum.inr (some ((a:Int))) else some (Sum.inl (a+(P0 a0 a).2))) else Option.map Sum.inr (FT)
def Eo(a0:Aas)(s:Nat):Option (Int):=Go.L.run (Ca a0) s
def FU(a1:Int)(a:Int):Option ((Int) ⊕ (Int)):=
 AY (BJ (a - (((Ej a1).length:Int) - (1:Int)))) (Option.map Sum.inr (some ((a - (((Ej a1).length:Int) - (1:Int))))))
def FC(a0:Aas)(a1:Int)(b:Int):Int→Option ((Int) ⊕ ((Int) ⊕ (Int))):=fun a=>
 if a<((Ej a1).length:Int) then AY (BJ (b - a)) (AY (0≤(b - a)∧(b - a)<(a0.length:Int)) (AY (BJ ((((Ej a1).length:Int) - (1:Int)) - a)) (AY (0≤((((Ej a1).length:Int) - (1:Int)) - a)∧((((Ej a1).length:Int) - (1:Int)) - a)<((Ej a1).length:Int)) (if((a0.getD (b - a).toNat default).toNat:Int)=(((Ej a1).getD ((((Ej a1).length:Int) - (1:Int)) - a).toNat default).toNat:Int) then AY (BJ (a+(1:Int))) (some (Sum.inl (a+(1:Int)))) else none)))) else Option.map Sum.inr ((FU a1 b))
def HS(a0:Aas)(a1:Int)(a:Int)(s:Int):Option ((Int) ⊕ (Int)):=Go.L.run (FC a0 a1 a) s
def Ep(a0:Aas)(a1:Int)(a:Int):Option ((Int) ⊕ (Int)):=
 (HS a0 a1 a) (1:Int)
def FV:Option (Int):=
 some ((-1:Int))
def DP(a0:Aas)(a1:Int):Int→Option ((Int) ⊕ (Int)):=fun a=>
 if a<(a0.length:Int) then AY (0≤a∧a<(a0.length:Int)) (AY (0≤(((Ej a1).length:Int) - (1:Int))∧(((Ej a1).length:Int) - (1:Int))<((Ej a1).length:Int)) (if((a0.getD a.toNat default).toNat:Int)=(((Ej a1).getD (((Ej a1).length:Int) - (1:Int)).toNat default).toNat:Int) then(Ep a0 a1) a else AY (BJ (a+(1:Int))) (AY (0≤(a+(1:Int))∧(a+(1:Int))≤(a0.length:Int)) (AY (0≤(((Ej a1).length:Int) - (1:Int))∧(((Ej a1).length:Int) - (1:Int))<((Ej a1).length:Int)) (Option.bind (PT (a0.drop (a+(1:Int)).toNat) ((Ej a1).getD (((Ej a1).length:Int) - (1:Int)).toNat default)) (fun b=>if b<(0:Int) then Option.map Sum.inr (some ((-1:Int))) else AY (BJ (b+(1:Int))) (AY (BJ (a+(b+(1:Int)))) ((Ep a0 a1) (a+(b+(1:Int))))))))))) else Option.map Sum.inr (FV)
def HT(a0:Aas)(a1:Int)(s:Int):Option (Int):=Go.L.run (DP a0 a1) s
def CO(a0:Aas)(a1:Int):Option (Int):=
 if((0:Int)≤a1)∧(a1<(128:Int)) then Option.bind (PT a0 (Go.L.u8 a1)) (fun b=>some (b)) else(if a1=(65533:Int) then(Eo a0) (0:Nat) else Option.bind (BZ a1) (fun a=>if !a then some ((-1:Int)) else AY (BJ (((Ej a1).length:Int) - (1:Int))) ((HT a0 a1) (((Ej a1).length:Int) - (1:Int)))))
theorem HU(w:World)(H:PH)(hH:Le H (hp w)){a0:Aas}{a1:Int}{r:Int}(h:CO a0 a1=some r):
  Ok Tryz.prog 219 [Aar a0,.int .i32 a1] w (fun v w'=>Ext w w'∧v=No r):=by
 refine A5 (n:=187) [(0,(Aar a0)),(1,.int .i32 a1)] func219 rfl rfl rfl rfl rfl ?_;have hL:=AR.start w;refine AD 1 rfl<|A4<|Bl 3 rfl<|MU 2 2 rfl rfl rfl rfl rfl rfl<|AB 1 rfl<|Bg rfl (fun ae=>?_) (fun ae=>?_)
 ·have h:=A1 ae h;refine Bl 2 rfl<|Af (ES Abl AaS rfl (HO _)) rfl ?_;obtain⟨x3,bn,h⟩:=Go.L.bind_some h;refine Ax rfl rfl hL (Q5 _ _ (As hH hL) bn) ?_;rintro _ w4 rfl cb bo bz;refine AB 1 rfl<|Az<|Ay ?_;obtain rfl:=Option.some.inj h;refine An rfl rfl ?_;exact⟨bo.ext,rfl⟩
 have h:=A2 ae h;refine AD 3 rfl<|Bg rfl (fun af=>?_) (fun af=>?_)
 ·have h:=A1 af h;refine Bm (σ:=Unit) (fun(_:Unit)=>[]) (fun(_:Unit) wr=>AR w [] wr∧FT=some r) ?_ ?_
  ·refine Bl 1 rfl<|TN rfl AaG rfl hL fun cc bg bh bp=>Ad<|A4 ?_;obtain⟨ag,h⟩:=Bb h;refine Bu (σ:=Nat×Nat) (fun⟨d,n⟩=>[(175,(Aam bg))]) (fun⟨d,n⟩ wr=>AR w [.obj bg (.stringIter ⟨(a0).toArray⟩ d)] wr∧FM (Ca a0) n d=some r) (fun⟨d,n⟩=>n) ((0:Nat),ag) (.cons rfl (Sub.nil _)) ⟨bh,h⟩ ?_;rintro⟨d,nn36⟩ b0 ⟨ah,h⟩;obtain⟨ag,cd,rfl,h,o⟩:=Ba h;refine Al<|Vs (l:=a0) (p:=d) 0 rfl rfl ah rfl (fun s=>?_) (fun s=>?_)
   ·have h:=A1 s h;intro ce ai bq;refine AB 1 rfl<|A8<|Ce rfl<|Av<|Ao<|A4<|AD 4 rfl<|AD 2 rfl<|Bg rfl (fun t=>?_) (fun t=>?_)
    ·have h:=A1 t h;refine AD 2 rfl<|Az<|Ay<|BB ?_;have h:=BF.out h o;refine Ay<|Bs<|Ay ?_;obtain rfl:=Option.some.inj h;refine An rfl rfl ?_;exact⟨ai.ext,rfl⟩
    have h:=A2 t h;refine Av<|AA ?_;have h:=BF.again h o;refine AO ((d+(P0 a0 d).2),ag) (.cons rfl (Sub.nil _)) ⟨ai,h⟩ (Nat.lt_succ_self _)
   have h:=A2 s h;refine AB 1 rfl<|A8<|Ch rfl<|Bq<|AH<|A6 ?_;have h:=BF.out h o;refine Bf ?_;have bi:=ah.AP (i:=0) rfl;refine A9 () (Sub.nil _) ⟨bi,h⟩
  rintro _ b1 ⟨bj,h⟩;refine AD 1 rfl<|Az<|Ay ?_;obtain rfl:=Option.some.inj h;refine An rfl rfl ?_;exact⟨bj.ext,rfl⟩
 have h:=A2 af h;refine Bl 1 rfl ?_;obtain⟨cf,bk,h⟩:=Go.L.bind_some h;refine Ax rfl rfl hL (Lk _ _ (As hH hL) bk) ?_;rintro _ cg rfl b2 aj br;refine AB 2 rfl<|By rfl (fun u=>?_) (fun u=>?_)
 ·have h:=Bv u h;refine AD 1 rfl<|Az<|Ay ?_;obtain rfl:=Option.some.inj h;refine An rfl rfl ?_;exact⟨aj.ext,rfl⟩
 have h:=Bw u h;refine SI<|Bl 1 rfl<|Af (Aa9 rfl Abl AaG) rfl<|AB 1 rfl<|Bl 1 rfl<|Af (CL rfl AaG) rfl ?_;obtain⟨bl,h⟩:=Ac h;refine Af (AK rfl rfl rfl bl) rfl<|AB 1 rfl<|AD 2 rfl<|AD 1 rfl<|Bm (σ:=Unit) (fun(_:Unit)=>[]) (fun(_:Unit) wr=>AR w [] wr∧FV=some r) ?_ ?_
 ·refine A4 ?_;obtain⟨ak,h⟩:=Bb h;refine Bu (σ:=Int×Nat) (fun⟨c,n⟩=>[(0,(Aar a0)),(7,.string ⟨((Ej a1)).toArray⟩),(8,No (((Ej a1).length:Int) - (1:Int))),(9,No c)]) (fun⟨c,n⟩ wr=>AR w [] wr∧FM (DP a0 a1) n c=some r) (fun⟨c,n⟩=>n) ((((Ej a1).length:Int) - (1:Int)),ak) (.cons rfl (.cons rfl (.cons rfl (.cons rfl (Sub.nil _))))) ⟨aj,h⟩ ?_;rintro⟨c,nn253⟩ bs ⟨z,h⟩;obtain⟨ak,x,rfl,h,e⟩:=Ba h;refine A8<|Bl 2 rfl<|Af (CL rfl AaG) rfl<|AB 1 rfl<|Bg rfl (fun f=>?_) (fun f=>?_)
  ·have h:=A1 f h;refine Av<|Ao<|A4<|SI<|Bm (σ:=Int) (fun a=>[(0,(Aar a0)),(7,.string ⟨((Ej a1)).toArray⟩),(8,No (((Ej a1).length:Int) - (1:Int))),(9,No a)]) (fun a wr=>AR w [] wr∧(Ep a0 a1) a=some x) ?_ ?_
   ·refine EI (.q 0 (.q 1 (.q 2 (.q 3 (.q 4 (.q 5 (.q 6 (.tail 7)))))))) mixed (by kernel_rfl) (fun b3 al=>?_);have am:=z.call al;refine Ds 2 rfl ?_;obtain⟨an,h⟩:=Ac h;refine BE (G3 rfl rfl AaG an) rfl rfl<|Ds 2 rfl ?_;obtain⟨ao,h⟩:=Ac h;refine BE (G3 rfl rfl AaG ao) rfl rfl<|Ds 1 rfl<|BW (fun b4 ap=>?_);have aa:=am.call ap;refine Ad<|C9 rfl (fun g=>?_) (fun g=>?_)
    ·have h:=A2 g h;refine EI (.q 0 (.q 1 (.q 2 (.q 3 (.q 4 (.q 5 (.q 6 (.q 7 (.q 8 (.tail 9)))))))))) mixed (by kernel_rfl) (fun b5 aq=>?_);have ar:=aa.call aq;refine Ds 2 rfl ?_;obtain⟨au,h⟩:=Ac h;refine BE (AK rfl rfl rfl au) rfl rfl ?_;obtain⟨av,h⟩:=Ac h;refine BE (Py rfl rfl AaG av) rfl rfl<|Ds 2 rfl ?_;obtain⟨aw,h⟩:=Ac h;refine BE (G3 rfl rfl AaG aw) rfl rfl ?_;obtain⟨bm,ax,h⟩:=Go.L.bind_some h;refine ER rfl rfl rfl (fun b6 bt=>Q5 _ _ (Le.refl _) ax)<|Ds 1 rfl<|BW (fun b7 ay=>?_);have ab:=ar.call ay;refine Ad<|A8<|AD 2 rfl<|Bg rfl (fun j=>?_) (fun j=>?_)
     ·have h:=A1 j h;refine AD 1 rfl<|Az<|Au<|Bs<|Ib<|Ay<|BB ?_;have h:=BF.out h e;refine Ay<|Bs<|Ib<|Ay ?_;obtain rfl:=Option.some.inj h;refine An rfl rfl ?_;exact⟨ab.ext,rfl⟩
     have h:=A2 j h;refine Av<|Ao<|Aq<|Ar 2 rfl ?_;obtain⟨az,h⟩:=Ac h;refine Af (AK rfl rfl rfl az) rfl ?_;obtain⟨a2,h⟩:=Ac h;refine Af (AK rfl rfl rfl a2) rfl<|Ar 1 rfl<|AL<|A9 (c+(bm+(1:Int))) (.cons rfl (.cons rfl (.cons rfl (.cons rfl (Sub.nil _))))) ⟨ab,h⟩
    have h:=A1 g h;refine Av<|A9 c (.cons rfl (.cons rfl (.cons rfl (.cons rfl (Sub.nil _))))) ⟨aa,h⟩
   rintro a bu ⟨a3,h⟩;refine Bm (σ:=Unit) (fun(_:Unit)=>[(8,No (((Ej a1).length:Int) - (1:Int))),(9,No a)]) (fun(_:Unit) wr=>AR w [] wr∧(FU a1 a)=some x) ?_ ?_
   ·refine AD 1 rfl<|A4 ?_;obtain⟨y,h⟩:=Bb h;refine Bu (σ:=Int×Nat) (fun⟨b,n⟩=>[(0,(Aar a0)),(7,.string ⟨((Ej a1)).toArray⟩),(8,No (((Ej a1).length:Int) - (1:Int))),(9,No a),(12,No b)]) (fun⟨b,n⟩ wr=>AR w [] wr∧FM (FC a0 a1 a) n b=some x) (fun⟨b,n⟩=>n) ((1:Int),y) (.cons rfl (.cons rfl (.cons rfl (.cons rfl (.cons rfl (Sub.nil _)))))) ⟨a3,h⟩ ?_;rintro⟨b,nn363⟩ bv ⟨ac,h⟩;obtain⟨y,b8,rfl,h,ad⟩:=Ba h;refine A8<|Bl 2 rfl<|Af (CL rfl AaG) rfl<|AB 1 rfl<|Bg rfl (fun k=>?_) (fun k=>?_)
    ·have h:=A1 k h;refine Av<|Ao<|A8<|A4<|EI (.q 0 (.q 1 (.q 2 (.q 3 (.q 4 (.q 5 (.q 6 (.q 7 (.q 8 (.q 9 (.q 10 (.tail 11)))))))))))) mixed (by kernel_rfl) (fun b9 a4=>?_);have a5:=ac.call a4;refine Ds 3 rfl ?_;obtain⟨a6,h⟩:=Ac h;refine BE (AK rfl rfl rfl a6) rfl rfl ?_;obtain⟨a7,h⟩:=Ac h;refine BE (G3 rfl rfl AaG a7) rfl rfl<|Ds 3 rfl ?_;obtain⟨a8,h⟩:=Ac h;refine BE (AK rfl rfl rfl a8) rfl rfl ?_;obtain⟨a9,h⟩:=Ac h;refine BE (G3 rfl rfl AaG a9) rfl rfl<|Ds 1 rfl<|BW (fun ca ba=>?_);have bb:=a5.call ba;refine Ad<|C9 rfl (fun m=>?_) (fun m=>?_)
     ·have h:=A2 m h
      cases h
     have h:=A1 m h;refine Av<|AA<|Ao<|Aq<|Ar 1 rfl ?_;obtain⟨bc,h⟩:=Ac h;refine Af (AK rfl rfl rfl bc) rfl<|Ar 1 rfl<|AL ?_;have h:=BF.again h ad;refine AO ((b+(1:Int)),y) (.cons rfl (.cons rfl (.cons rfl (.cons rfl (.cons rfl (Sub.nil _)))))) ⟨bb,h⟩ (Nat.lt_succ_self _)
    have h:=A2 k h;refine Bq<|AH<|A6 ?_;have h:=BF.out h ad;refine Bf<|A9 () (.cons rfl (.cons rfl (Sub.nil _))) ⟨ac,h⟩
   rintro _ bw ⟨bd,h⟩;refine A8<|Bl 2 rfl ?_;obtain⟨be,h⟩:=Ac h;refine Af (AK rfl rfl rfl be) rfl<|AB 1 rfl<|Az<|Au<|Ib<|Ay<|BB ?_;have h:=BF.out h e;refine Ay<|Bs<|Ib<|Ay ?_;obtain rfl:=Option.some.inj h;refine An rfl rfl ?_;exact⟨bd.ext,rfl⟩
  have h:=A2 f h;refine Bq<|AH<|A6 ?_;have h:=BF.out h e;refine Bf<|A9 () (Sub.nil _) ⟨z,h⟩
 rintro _ bx ⟨bf,h⟩;refine A8<|AD 1 rfl<|Az<|Au<|Ib<|Ay ?_;obtain rfl:=Option.some.inj h;refine An rfl rfl ?_;exact⟨bf.ext,rfl⟩
def Er(a0:Aas)(a1:Int):Option (Bool):=
 Option.bind (CO a0 a1) (fun a=>some (decide ((0:Int)≤a)))
theorem Jk(w:World)(H:PH)(hH:Le H (hp w)){a0:Aas}{a1:Int}{r:Bool}(h:Er a0 a1=some r):
  Ok Tryz.prog 207 [Aar a0,.int .i32 a1] w (fun v w'=>Ext w w'∧v=.bool r):=by
 refine A5 (n:=9) [(0,(Aar a0)),(1,.int .i32 a1)] func207 rfl rfl rfl rfl rfl ?_;have hL:=AR.start w;refine AD 1 rfl<|Bl 2 rfl ?_;obtain⟨e,a,h⟩:=Go.L.bind_some h;refine Ax rfl rfl hL (HU _ _ (As hH hL) a) ?_;rintro _ f rfl d b c;refine AB 2 rfl<|Az ?_;obtain rfl:=Option.some.inj h;refine An rfl rfl ?_;exact⟨b.ext,rfl⟩
def Mu(a0:Int):Option (Bool):=
 if(a0<(97:Int))∨((122:Int)<a0) then if a0<(48:Int) then Option.bind (Er ([45,95,46]:Aas) a0) (fun b=>some (!b)) else if(57:Int)<a0 then Option.bind (Er ([45,95,46]:Aas) a0) (fun a=>some (!a)) else some (false) else some (false)
theorem Qi(w:World)(H:PH)(hH:Le H (hp w)){a0:Int}{r:Bool}(h:Mu a0=some r):
  Ok Tryz.prog 206 [.int .i32 a0] w (fun v w'=>Ext w w'∧v=.bool r):=by
 refine A5 (n:=22) [(0,.int .i32 a0)] func206 rfl rfl rfl rfl rfl ?_;have hL:=AR.start w;refine AD 1 rfl<|Bl 3 rfl<|R6 2 2 rfl rfl rfl rfl rfl rfl<|Ar 1 rfl<|AQ (s:=9) rfl (fun a=>?_) (fun a=>?_)
 ·have h:=A1 (of_decide_eq_true a) h;refine Aa rfl rfl a<|Af (Ae rfl) rfl<|Aa rfl rfl a<|Af (Ae rfl) rfl<|Aa rfl rfl a<|Af (Ae rfl) rfl<|AQ (s:=12) rfl (fun c=>?_) (fun c=>?_)
  ·have h:=A1 (of_decide_eq_true c) h
   iterate 2 refine Aj rfl rfl c rfl ?_
   refine Aa rfl rfl a<|Af (A3 rfl c rfl) rfl<|Af (A3 rfl a rfl) rfl<|Ar 1 rfl<|Aa rfl rfl rfl<|Af (Ae rfl) rfl<|Aa rfl rfl rfl ?_;obtain⟨p,f,h⟩:=Go.L.bind_some h;refine Ax rfl rfl hL (Jk _ _ (As hH hL) f) ?_;rintro _ q rfl l g j;refine Aa rfl rfl rfl<|Af (Ae rfl) rfl<|Af (A3 rfl rfl rfl) rfl<|AB 1 rfl<|Az ?_;obtain rfl:=Option.some.inj h;refine An rfl rfl ?_;exact⟨g.ext,rfl⟩
  have h:=A2 (of_decide_eq_false c) h;refine Aa rfl rfl c<|Af (Ae rfl) rfl<|Aa rfl rfl c<|Af (Ae rfl) rfl<|Aa rfl rfl a<|Af (A7 rfl c rfl) rfl<|Af (A3 rfl a rfl) rfl<|Ar 1 rfl<|AQ (s:=17) rfl (fun b=>?_) (fun b=>?_)
  ·have h:=A1 (of_decide_eq_true b) h;refine Aa rfl rfl b<|Af (Ae rfl) rfl<|Aa rfl rfl b ?_;obtain⟨m,d,h⟩:=Go.L.bind_some h;refine Ax rfl rfl hL (Jk _ _ (As hH hL) d) ?_;rintro _ o rfl k e i;refine Aa rfl rfl b<|Af (Ae rfl) rfl<|Af (A3 rfl b rfl) rfl<|AB 1 rfl<|Az ?_;obtain rfl:=Option.some.inj h;refine An rfl rfl ?_;exact⟨e.ext,rfl⟩
  have h:=A2 (of_decide_eq_false b) h
  iterate 3 refine Aj rfl rfl b rfl ?_
  refine Af (A7 rfl b rfl) rfl<|AB 1 rfl<|Az ?_;obtain rfl:=Option.some.inj h;refine An rfl rfl ?_;exact⟨hL.ext,rfl⟩
 have h:=A2 (of_decide_eq_false a) h
 iterate 3 refine Aj rfl rfl a rfl ?_
 iterate 2 refine BQ rfl rfl rfl ?_
 refine Aj rfl rfl a rfl<|Af (A7 rfl a rfl) rfl<|Ar 1 rfl ?_
 iterate 3 refine Aj rfl rfl rfl rfl ?_
 refine Af (A7 rfl rfl rfl) rfl<|AB 1 rfl<|Az ?_;obtain rfl:=Option.some.inj h;refine An rfl rfl ?_;exact⟨hL.ext,rfl⟩
end Go.Proofs.YtekmbcbgknmhiaaGreatDoor
end
noncomputable section
namespace Go.L
set_option maxRecDepth 20000 in
theorem VX{x:Int}(h:128≤x)(hx:x≤1114111)(hv:Go.Utf8.valid x=true):∃ k:Nat,(Ej x).length=k∧2≤k∧k≤4∧128≤((Ej x).getD (k - 1) default).toNat:=by
 obtain⟨c,rfl⟩:=Int.eq_ofNat_of_zero_le (show 0≤x by omega);have hm:∀ j:Nat,(128+j % 64) % 256=128+j % 64:=fun j=>Nat.mod_eq_of_lt (by omega);unfold Ej Go.Utf8.encode;simp only [hv,if_true,Int.toNat_natCast];rw [if_neg (by omega)];have e:∀ j:Nat,128≤(UInt8.ofNat (128+j % 64)).toNat:=fun j=>by rw [UInt8.toNat_ofNat',hm];omega
 have f:∀ a b:UInt8,((ByteArray.mk #[a,b]).data.toList.length=2)∧(ByteArray.mk #[a,b]).data.toList.getD (2 - 1) default=b:=fun _ _=>⟨rfl,rfl⟩;have g:∀ a b c:UInt8,((ByteArray.mk #[a,b,c]).data.toList.length=3)∧(ByteArray.mk #[a,b,c]).data.toList.getD (3 - 1) default=c:=fun _ _ _=>⟨rfl,rfl⟩;have i:∀ a b c d:UInt8,((ByteArray.mk #[a,b,c,d]).data.toList.length=4)∧(ByteArray.mk #[a,b,c,d]).data.toList.getD (4 - 1) default=d:=fun _ _ _ _=>⟨rfl,rfl⟩
 by_cases l:c<2048
 ·rw [if_pos l];refine⟨2,(f _ _).1,by omega,by omega,?_⟩;rw [(f _ _).2];exact e _
 ·rw [if_neg l]
  by_cases h2:c<65536
  ·rw [if_pos h2];refine⟨3,(g _ _ _).1,by omega,by omega,?_⟩;rw [(g _ _ _).2];exact e _
  ·rw [if_neg h2];refine⟨4,(i _ _ _ _).1,by omega,by omega,?_⟩;rw [(i _ _ _ _).2];exact e _
end Go.L
namespace Go.Proofs.YtekmbcbgknmhiaaGreatDoor
open Go Go.L
theorem U9:∀ n:Fin 128,(0≤Lib.indexByte [45,95,46] (u8 (n.val:Int))↔(n.val=45∨n.val=95∨n.val=46)):=by decide
theorem X3:Eo [45,95,46] 0=some (-1):=by
 unfold Eo;have r0:Ca [45,95,46] 0=some (.inl 1):=by rfl
 have r1:Ca [45,95,46] 1=some (.inl 2):=by rfl
 have r2:Ca [45,95,46] 2=some (.inl 3):=by rfl
 have r3:Ca [45,95,46] 3=some (.inr (-1)):=by rfl
 rw [BK r0,BK r1,BK r2];exact B2 (m:=some (-1)) r3
theorem VY{x:Int}(a:0≤x)(hx:x≤1114111):∃ i,CO [45,95,46] x=some i∧(0≤i↔(x=45∨x=95∨x=46)):=by
 unfold CO
 by_cases f:x<128
 ·rw [if_pos ⟨a,f⟩];have:=U9 ⟨x.toNat,by omega⟩;simp only [Int.toNat_of_nonneg a] at this;exact⟨_,rfl,by rw [this];omega⟩
 ·rw [if_neg (by omega)];have hn : ¬ (x=45∨x=95∨x=46):=by omega
  by_cases h2:x=65533
  ·rw [if_pos h2,X3];exact⟨_,rfl,by omega⟩
  ·rw [if_neg h2]
   by_cases hv:Go.Utf8.valid x=true
   ·have e:BZ x=some true:=by
     unfold BZ;simp only [Go.Utf8.valid,Bool.or_eq_true,Bool.and_eq_true,decide_eq_true_eq] at hv
     by_cases h3:0≤x∧x<55296
     ·rw [if_pos h3]
     ·rw [if_neg h3,if_pos (by omega)]
    rw [e];obtain⟨k,hk,h,j,hl⟩:=VX (by omega) hx hv;simp only [Option.bind_some,Bool.not_true,Bool.false_eq_true,if_false,hk];rw [Aw (by unfold BJ;omega)];refine⟨-1,B2 ?_,by omega⟩;unfold DP;have g:((k:Int) - 1).toNat=k - 1:=by omega
    have key:∀ (l:List UInt8) (c:UInt8),(∀ b∈l,b.toNat<128)→128≤c.toNat→Lib.indexByte l c = -1:=by
     intro l c hl hc
     induction l with
     | nil=>rfl
     | cons b l ih=>
      have hb:=hl b (.head _)
      have hne:(b==c)=false:=by
       cases hh:b==c with
       | false=>rfl
       | true=>have:=beq_iff_eq.1 hh;subst this;omega
      unfold Lib.indexByte;rw [ih (fun b hb=>hl b (.tail _ hb)),hne]
      rfl
    have d:k=2∨k=3∨k=4:=by omega
    simp only [hk,g]
    rcases d with rfl | rfl | rfl
    ·rw [if_pos (by decide),Aw (by decide),Aw (by decide),if_neg (by intro hh;have:(([45,95,46]:List UInt8).getD 1 default).toNat=95:=rfl;simp only [Nat.reduceSub] at hl hh;omega),Aw (by unfold BJ;decide),Aw (by decide),Aw (by decide)];unfold PT;rw [Option.bind_some,key _ _ (by decide) hl,if_pos (by decide)]
    ·rw [if_pos (by decide),Aw (by decide),Aw (by decide),if_neg (by intro hh;have:(([45,95,46]:List UInt8).getD 2 default).toNat=46:=rfl;simp only [Nat.reduceSub] at hl hh;omega),Aw (by unfold BJ;decide),Aw (by decide),Aw (by decide)];unfold PT;rw [Option.bind_some,key _ _ (by decide) hl,if_pos (by decide)]
    ·rw [if_neg (by decide)]
     rfl
   ·have e:BZ x=some false:=by
     unfold BZ;simp only [Go.Utf8.valid,Bool.or_eq_true,Bool.and_eq_true,decide_eq_true_eq] at hv;rw [if_neg (by omega),if_neg (by omega)]
    rw [e];exact⟨-1,rfl,by omega⟩
def Tc(n:Nat):Bool:=!((decide (97≤n∧n≤122))||(decide (48≤n∧n≤57))||(decide (n=45∨n=95∨n=46)))
theorem X4{n:Nat}(hx:n≤1114111):Mu (n:Int)=some (Tc n):=by
 obtain⟨i,hi,hd⟩:=VY (x:=(n:Int)) (by omega) (by omega);have hc:Er [45,95,46] (n:Int)=some (decide (0≤i)):=by unfold Er;rw [hi];rfl
 have hd':decide (0≤i)=decide (n=45∨n=95∨n=46):=by
  rw [Bool.eq_iff_iff,decide_eq_true_eq,decide_eq_true_eq,hd];omega
 unfold Mu Tc;rw [hc,hd'];simp only [Option.bind_some]
 by_cases c:(n:Int)<97∨(122:Int)<n
 ·rw [if_pos c];have a:decide (97≤n∧n≤122)=false:=decide_eq_false (by omega)
  by_cases h2:(n:Int)<48
  ·rw [if_pos h2];have b:decide (48≤n∧n≤57)=false:=decide_eq_false (by omega);rw [a,b];rfl
  ·rw [if_neg h2]
   by_cases h3:(57:Int)<n
   ·rw [if_pos h3];have b:decide (48≤n∧n≤57)=false:=decide_eq_false (by omega);rw [a,b];rfl
   ·rw [if_neg h3];have b:decide (48≤n∧n≤57)=true:=decide_eq_true (by omega);rw [a,b];rfl
 ·rw [if_neg c];have a:decide (97≤n∧n≤122)=true:=decide_eq_true (by omega);rw [a];rfl
end Go.Proofs.YtekmbcbgknmhiaaGreatDoor
end
noncomputable section
namespace Go.Proofs.YtekmbcbgknmhiaaGreatDoor
open Go Go.E Go.RowKit Go.Shelf
def Ro(a:List UInt8):Option Bool:=some (decide (0≤Lib.idxFunc Tc true ⟨a.toArray⟩))
theorem VZ(w:World)(H:PH)(_hH:Le H (hp w)){a0:List UInt8}{r:Bool}(h:Ro a0=some r):
  Ok Tryz.prog 205 [.string ⟨a0.toArray⟩,.func (.func 206) #[] #[]] w (fun v w'=>Ext w w'∧v=.bool r):=by
 obtain rfl:=Option.some.inj h;refine⟨⟨Tryz.f205,_,Tryz.func205,rfl,rfl⟩,(Any.strings_ContainsFunc_grows Tryz.AaB 206 #[] (enters_of Tryz.func206 (by kernel_rfl) rfl) Tc ⟨a0.toArray⟩ w ?_).mono fun e w' he=>?_⟩
 ·intro W x hx _;refine(Qi W (hp W) (Le.refl _) (X4 hx)).2.mono fun e w' he=>?_;obtain⟨v,rfl,hx,rfl⟩:=he;exact⟨rfl,hx.toBelow⟩
 ·obtain⟨rfl,hb⟩:=he;exact⟨_,rfl,Ext.off hb,rfl⟩
end Go.Proofs.YtekmbcbgknmhiaaGreatDoor
end
noncomputable section
namespace Go.Proofs.YtekmbcbgknmhiaaGreatDoor
open Go Go.E Go.RowKit Go.L
set_option maxHeartbeats 1000000
set_option maxRecDepth 10000
open _root_.Go.Proofs.Tryz
def Jd(a0:Aas):Option (Bool):=
 if a0=([]:Aas) then some (false) else if(32:Int)<(a0.length:Int) then some (false) else AY (0≤(0:Int)∧(0:Int)<(a0.length:Int)) (if((a0.getD (0:Int).toNat default).toNat:Int)<97 then some (false) else AY (0≤(0:Int)∧(0:Int)<(a0.length:Int)) (if 122<((a0.getD (0:Int).toNat default).toNat:Int) then some (false) else Option.bind (Ro a0) (fun a=>some (!a))))
theorem Om(w:World)(H:PH)(hH:Le H (hp w)){a0:Aas}{r:Bool}(h:Jd a0=some r):
  Ok Tryz.prog 159 [Aar a0] w (fun v w'=>Ext w w'∧v=.bool r):=by
 refine A5 (n:=23) [(0,(Aar a0))] func159 rfl rfl rfl rfl rfl ?_;have hL:=AR.start w;refine AD 1 rfl<|A8<|Bl 1 rfl<|Af (LP rfl rfl) rfl<|Ar 1 rfl<|AQ (s:=5) rfl (fun a=>?_) (fun a=>?_)
 ·have h:=A1 (of_decide_eq_true a) h
  iterate 3 refine Aj rfl rfl a rfl ?_
  refine Af (A3 rfl a rfl) rfl<|Ar 1 rfl ?_
  iterate 3 refine Aj rfl rfl rfl rfl ?_
  refine Af (A3 rfl rfl rfl) rfl<|Ar 1 rfl ?_
  iterate 3 refine Aj rfl rfl rfl rfl ?_
  refine Af (A3 rfl rfl rfl) rfl<|Ad<|Ce rfl<|AD 1 rfl<|Az<|Au ?_;obtain rfl:=Option.some.inj h;refine An rfl rfl ?_;exact⟨hL.ext,rfl⟩
 have h:=A2 (of_decide_eq_false a) h;refine Aa rfl rfl a<|Af (Ae rfl) rfl<|Aa rfl rfl a<|Af (CL rfl AaG) rfl<|Aa rfl rfl a<|Af (Ae rfl) rfl<|Af (A7 rfl a rfl) rfl<|Ar 1 rfl<|AQ (s:=10) rfl (fun b=>?_) (fun b=>?_)
 ·have h:=A1 (of_decide_eq_true b) h
  iterate 3 refine Aj rfl rfl b rfl ?_
  refine Af (A3 rfl b rfl) rfl<|Ar 1 rfl ?_
  iterate 3 refine Aj rfl rfl rfl rfl ?_
  refine Af (A3 rfl rfl rfl) rfl<|Ad<|Ce rfl<|AD 1 rfl<|Az<|Au ?_;obtain rfl:=Option.some.inj h;refine An rfl rfl ?_;exact⟨hL.ext,rfl⟩
 have h:=A2 (of_decide_eq_false b) h;refine Aa rfl rfl b<|Af (Ae rfl) rfl<|Aa rfl rfl b ?_;obtain⟨i,h⟩:=Ac h;refine Af (G3 rfl rfl AaG i) rfl<|Aa rfl rfl b<|Af (Ae rfl) rfl<|Af (A7 rfl b rfl) rfl<|Ar 1 rfl<|AQ (s:=15) rfl (fun c=>?_) (fun c=>?_)
 ·have h:=A1 (of_decide_eq_true c) h
  iterate 3 refine Aj rfl rfl c rfl ?_
  refine Af (A3 rfl c rfl) rfl<|Ad<|Ce rfl<|AD 1 rfl<|Az<|Au ?_;obtain rfl:=Option.some.inj h;refine An rfl rfl ?_;exact⟨hL.ext,rfl⟩
 have h:=A2 (of_decide_eq_false c) h;refine Aa rfl rfl c<|Af (Ae rfl) rfl<|Aa rfl rfl c ?_;obtain⟨e,h⟩:=Ac h;refine Af (G3 rfl rfl AaG e) rfl<|Aa rfl rfl c<|Af (Ae rfl) rfl<|Af (A7 rfl c rfl) rfl<|Ad<|Bg rfl (fun d=>?_) (fun d=>?_)
 ·have h:=A1 d h;refine AD 1 rfl<|Az<|Au ?_;obtain rfl:=Option.some.inj h;refine An rfl rfl ?_;exact⟨hL.ext,rfl⟩
 have h:=A2 d h;refine Av<|Ao<|Bl 1 rfl ?_;obtain⟨l,f,h⟩:=Go.L.bind_some h;refine Ax rfl rfl hL (VZ _ _ (As hH hL) f) ?_;rintro _ m rfl k g j;refine AB 2 rfl<|Az ?_;obtain rfl:=Option.some.inj h;refine An rfl rfl ?_;exact⟨g.ext,rfl⟩
def IM:Option ((Int×Int)):=
 some (((0:Int),(0:Int)))
def CD(c:(List Aas)):Int×Int→Option ((Int×Int) ⊕ ((Int×Int))):=fun⟨b,a⟩=>
 if a<(c.length:Int) then AY (0≤a∧a<(c.length:Int)) (if c.getD a.toNat default=([35]:Aas) then AY (BJ (((c.getD a.toNat default).length:Int)+(1:Int))) (AY (BJ (b+(((c.getD a.toNat default).length:Int)+(1:Int)))) (AY (BJ (a+(1:Int))) (some (Sum.inl ((b+(((c.getD a.toNat default).length:Int)+(1:Int))),(a+(1:Int))))))) else if c.getD a.toNat default=([42]:Aas) then AY (BJ (((c.getD a.toNat default).length:Int)+(1:Int))) (AY (BJ (b+(((c.getD a.toNat default).length:Int)+(1:Int)))) (AY (BJ (a+(1:Int))) (some (Sum.inl ((b+(((c.getD a.toNat default).length:Int)+(1:Int))),(a+(1:Int))))))) else if c.getD a.toNat default=([42,42]:Aas) then AY (BJ (((c.getD a.toNat default).length:Int)+(1:Int))) (AY (BJ (b+(((c.getD a.toNat default).length:Int)+(1:Int)))) (AY (BJ (a+(1:Int))) (some (Sum.inl ((b+(((c.getD a.toNat default).length:Int)+(1:Int))),(a+(1:Int))))))) else Option.bind (Jd (c.getD a.toNat default)) (fun e=>if !e then Option.bind (Io (1:Int) b) (fun d=>Option.map Sum.inr (some ((d.1,d.2)))) else AY (BJ (((c.getD a.toNat default).length:Int)+(1:Int))) (AY (BJ (b+(((c.getD a.toNat default).length:Int)+(1:Int)))) (AY (BJ (a+(1:Int))) (some (Sum.inl ((b+(((c.getD a.toNat default).length:Int)+(1:Int))),(a+(1:Int))))))))) else Option.map Sum.inr (IM)
def Kn(a:(List Aas))(s:Int×Int):Option ((Int×Int)):=Go.L.run (CD a) s
def Iq(a0:Aas):Option ((Int×Int)):=
 if(64:Int)<(a0.length:Int) then Option.bind (Io (3:Int) (-1:Int)) (fun a=>some ((a.1,a.2))) else Option.bind (Ip a0) (fun b=>(Kn b) ((0:Int),(0:Int)))
theorem Qj(w:World)(H:PH)(hH:Le H (hp w)){a0:Aas}{r:(Int×Int)}(h:Iq a0=some r):
  Ok Tryz.prog 103 [Aar a0] w (fun v w'=>Ext w w'∧v=.agg #[No r.1,No r.2]):=by
 refine A5 (n:=41) [(0,(Aar a0))] func103 rfl rfl rfl rfl rfl ?_;have hL:=AR.start w;refine Al<|AJ AT rfl rfl hL fun w1 b1 q bb _=>Ad<|A8<|Bl 1 rfl<|Af (CL rfl AaG) rfl<|AB 1 rfl<|Bg rfl (fun aa=>?_) (fun aa=>?_)
 ·have h:=A1 aa h;refine Al ?_;obtain⟨x4,a2,h⟩:=Go.L.bind_some h;refine Ax rfl rfl q (ME _ _ (As hH q) a2) ?_;rintro _ w5 rfl bn a3 bc;refine Ak 0 rfl rfl rfl AT a3 rfl rfl (AF rfl (AF rfl BM)) fun w6 aw bd=>Ad<|Az<|Au ?_;obtain rfl:=Option.some.inj h;refine B7 rfl (.cell rfl AaR rfl AT (AS (i:=0) aw rfl)) ?_;exact⟨aw.ext,rfl⟩
 have h:=A2 aa h;refine Av<|Ao<|AD 1 rfl<|Bm (σ:=Unit) (fun(_:Unit)=>[(2,(Aam b1))]) (fun(_:Unit) wr=>AR w [.box b1 [No (0:Int),No (0:Int)] 28] wr∧IM=some r) ?_ ?_
 ·refine Bl 1 rfl ?_;obtain⟨l,ax,h⟩:=Go.L.bind_some h;refine Ax rfl rfl q (Qh _ _ (As hH q) ax) ?_;rintro u bo ⟨_,rfl,ab⟩ ay az a7;have t:=ab.Ct hH q ay;refine Af (Bn rfl AaT t) rfl<|AB 1 rfl<|A4 ?_;obtain⟨k,h⟩:=Bb h;refine Bu (σ:=Int×Int×Nat) (fun⟨b,a,n⟩=>[(2,(Aam b1)),(3,No b),(11,u),(12,No (l.length:Int)),(13,No a)]) (fun⟨b,a,n⟩ wr=>DM w [.box b1 [No (0:Int),No (0:Int)] 28] wr fun Oz=>AI .st (gz H w wr Oz) (u) (l)∧FM (CD l) n (b,a)=some r) (fun⟨b,a,n⟩=>n) ((0:Int),(0:Int),k) (.cons rfl (.cons rfl (.cons rfl (.cons rfl (.cons rfl (Sub.nil _)))))) ⟨az,t,h⟩ ?_;rintro⟨b,a,nn124⟩ a8 ⟨g,c,h⟩;obtain⟨k,be,rfl,h,j⟩:=Ba h;refine AD 1 rfl<|A8<|Bg rfl (fun m=>?_) (fun m=>?_)
  ·have h:=A1 m h;refine Av<|Ao<|A8<|A4<|Al ?_;obtain⟨x,h⟩:=Ac h;refine Be rfl rfl AaT Fo c a.toNat (Int.toNat_of_nonneg x.1).symm (AZ x) rfl ?_;rintro bf _ rfl ae;refine Af (Bh rfl AaG rfl ae (As hH g)) rfl<|AB 1 rfl<|A8<|Bl 1 rfl<|Af (MB rfl rfl) rfl<|Ar 1 rfl<|AQ (s:=19) rfl (fun e=>?_) (fun e=>?_)
   ·have h:=A2 (CT e) h;refine Aa rfl rfl e<|Af (Ae rfl) rfl<|Aa rfl rfl e<|Af (MB rfl rfl) rfl<|Af (A3 rfl e rfl) rfl<|Ar 1 rfl<|AQ (s:=23) rfl (fun f=>?_) (fun f=>?_)
    ·have h:=A2 (CT f) h;refine Aa rfl rfl f<|Af (Ae rfl) rfl<|Aa rfl rfl f<|Af (MB rfl rfl) rfl<|Af (A3 rfl f rfl) rfl<|Ar 1 rfl<|AQ (s:=27) rfl (fun d=>?_) (fun d=>?_)
     ·have h:=A2 (CT d) h;refine Aa rfl rfl d<|Af (Ae rfl) rfl<|Aa rfl rfl d ?_;obtain⟨bg,af,h⟩:=Go.L.bind_some h;refine Ax rfl rfl g (Om _ _ (As hH g) af) ?_;rintro _ bh rfl a9 o ac;refine Aa rfl rfl d<|Af (Ae rfl) rfl<|Af (A3 rfl d rfl) rfl<|Ad<|By rfl (fun p=>?_) (fun p=>?_)
      ·have h:=Bv p h;refine Bl 1 rfl ?_;obtain⟨bi,ag,h⟩:=Go.L.bind_some h;refine Ax rfl rfl o (ME _ _ (As hH o) ag) ?_;rintro _ bj rfl ba ah a4;refine Ak 0 rfl rfl rfl AT ah rfl rfl (AF rfl (AF rfl BM)) fun bk y a5=>Ad<|Az<|Au<|Ay<|Au<|BB ?_;have h:=BF.out h j;refine Ay<|Bs ?_;obtain rfl:=Option.some.inj h;refine B7 rfl (.cell rfl AaR rfl AT (AS (i:=0) y rfl)) ?_;exact⟨y.ext,rfl⟩
      have h:=Bw p h;refine Av<|Ao<|Aq<|Ar 2 rfl<|Af (CL rfl AaG) rfl ?_;obtain⟨ai,h⟩:=Ac h;refine Af (AK rfl rfl rfl ai) rfl ?_;obtain⟨aj,h⟩:=Ac h;refine Af (AK rfl rfl rfl aj) rfl<|Ar 1 rfl<|AL<|AA<|Ao<|Aq ?_;obtain⟨ak,h⟩:=Ac h;refine Af (AK rfl rfl rfl ak) rfl<|Ar 1 rfl<|AL ?_;have h:=BF.again h j;have c:=c.mono (Ab hH ac);refine AO ((b+(((l.getD a.toNat default).length:Int)+(1:Int))),(a+(1:Int)),k) (.cons rfl (.cons rfl (.cons rfl (.cons rfl (.cons rfl (Sub.nil _)))))) ⟨o,c,h⟩ (Nat.lt_succ_self _)
     have h:=A1 (CU d) h
     iterate 3 refine Aj rfl rfl d rfl ?_
     refine Af (A7 rfl d rfl) rfl<|Ad<|Ch rfl<|Av<|Ao<|Aq<|Ar 2 rfl<|Af (CL rfl AaG) rfl ?_;obtain⟨al,h⟩:=Ac h;refine Af (AK rfl rfl rfl al) rfl ?_;obtain⟨am,h⟩:=Ac h;refine Af (AK rfl rfl rfl am) rfl<|Ar 1 rfl<|AL<|AA<|Ao<|Aq ?_;obtain⟨an,h⟩:=Ac h;refine Af (AK rfl rfl rfl an) rfl<|Ar 1 rfl<|AL ?_;have h:=BF.again h j;refine AO ((b+(((l.getD a.toNat default).length:Int)+(1:Int))),(a+(1:Int)),k) (.cons rfl (.cons rfl (.cons rfl (.cons rfl (.cons rfl (Sub.nil _)))))) ⟨g,c,h⟩ (Nat.lt_succ_self _)
    have h:=A1 (CU f) h
    iterate 2 refine Aj rfl rfl f rfl ?_
    refine Af (A7 rfl f rfl) rfl<|Ar 1 rfl ?_
    iterate 3 refine Aj rfl rfl rfl rfl ?_
    refine Af (A7 rfl rfl rfl) rfl<|Ad<|Ch rfl<|Av<|Ao<|Aq<|Ar 2 rfl<|Af (CL rfl AaG) rfl ?_;obtain⟨ao,h⟩:=Ac h;refine Af (AK rfl rfl rfl ao) rfl ?_;obtain⟨ap,h⟩:=Ac h;refine Af (AK rfl rfl rfl ap) rfl<|Ar 1 rfl<|AL<|AA<|Ao<|Aq ?_;obtain⟨aq,h⟩:=Ac h;refine Af (AK rfl rfl rfl aq) rfl<|Ar 1 rfl<|AL ?_;have h:=BF.again h j;refine AO ((b+(((l.getD a.toNat default).length:Int)+(1:Int))),(a+(1:Int)),k) (.cons rfl (.cons rfl (.cons rfl (.cons rfl (.cons rfl (Sub.nil _)))))) ⟨g,c,h⟩ (Nat.lt_succ_self _)
   have h:=A1 (CU e) h
   iterate 2 refine Aj rfl rfl e rfl ?_
   refine Af (A7 rfl e rfl) rfl<|Ar 1 rfl ?_
   iterate 2 refine Aj rfl rfl rfl rfl ?_
   refine Af (A7 rfl rfl rfl) rfl<|Ar 1 rfl ?_
   iterate 3 refine Aj rfl rfl rfl rfl ?_
   refine Af (A7 rfl rfl rfl) rfl<|Ad<|Ch rfl<|Av<|Ao<|Aq<|Ar 2 rfl<|Af (CL rfl AaG) rfl ?_;obtain⟨ar,h⟩:=Ac h;refine Af (AK rfl rfl rfl ar) rfl ?_;obtain⟨au,h⟩:=Ac h;refine Af (AK rfl rfl rfl au) rfl<|Ar 1 rfl<|AL<|AA<|Ao<|Aq ?_;obtain⟨av,h⟩:=Ac h;refine Af (AK rfl rfl rfl av) rfl<|Ar 1 rfl<|AL ?_;have h:=BF.again h j;refine AO ((b+(((l.getD a.toNat default).length:Int)+(1:Int))),(a+(1:Int)),k) (.cons rfl (.cons rfl (.cons rfl (.cons rfl (.cons rfl (Sub.nil _)))))) ⟨g,c,h⟩ (Nat.lt_succ_self _)
  have h:=A2 m h;refine Bq<|AH<|A6 ?_;have h:=BF.out h j;refine Bf<|A9 () (.cons rfl (Sub.nil _)) ⟨g,h⟩
 rintro _ bl ⟨a1,h⟩;refine Al<|Af (AW rfl (fun _=>BL _)) rfl<|Ak 0 rfl rfl rfl AT a1 rfl rfl (AF rfl (AF rfl BM)) fun bm z a6=>Ad<|Az ?_;obtain rfl:=Option.some.inj h;refine B7 rfl (.cell rfl AaR rfl AT (AS (i:=0) z rfl)) ?_;exact⟨z.ext,rfl⟩
def HB(a0:Aas):Option (Bool):=
 Option.bind (Jd a0) (fun a=>some (!a))
theorem Nq(w:World)(H:PH)(hH:Le H (hp w)){a0:Aas}{r:Bool}(h:HB a0=some r):
  Ok Tryz.prog 230 [Aar a0] w (fun v w'=>Ext w w'∧v=.bool r):=by
 refine A5 (n:=6) [(0,(Aar a0))] func230 rfl rfl rfl rfl rfl ?_;have hL:=AR.start w;refine AD 1 rfl<|Bl 1 rfl ?_;obtain⟨e,a,h⟩:=Go.L.bind_some h;refine Ax rfl rfl hL (Om _ _ (As hH hL) a) ?_;rintro _ f rfl d b c;refine AB 2 rfl<|Az ?_;obtain rfl:=Option.some.inj h;refine An rfl rfl ?_;exact⟨b.ext,rfl⟩
def Gq:Option (Int):=
 some ((-1:Int))
def FW(a0:List Aas):Int→Option ((Int) ⊕ (Int)):=fun a=>
 if a<(a0.length:Int) then AY (0≤a∧a<(a0.length:Int)) (Option.bind (HB (a0.getD a.toNat default)) (fun b=>if b then Option.map Sum.inr (some (a)) else AY (BJ (a+(1:Int))) (some (Sum.inl (a+(1:Int)))))) else Option.map Sum.inr (Gq)
def I6(a0:List Aas)(s:Int):Option (Int):=Go.L.run (FW a0) s
def Ir(a0:List Aas):Option (Int):=
 (I6 a0) (0:Int)
theorem NR(w:World)(H:PH)(hH:Le H (hp w)){a0:List Aas}{b:Value}(g:AI .st H b (a0)){r:Int}(h:Ir a0=some r):
  Ok Tryz.prog 284 [b,.func (.func 230) #[] #[]] w (fun v w'=>Ext w w'∧v=No r):=by
 refine A5 (n:=19) [(0,b),(1,.func (.func 230) #[] #[])] func284 rfl rfl rfl rfl rfl ?_;have hL:=AR.start w;refine AD 1 rfl<|Bm (σ:=Unit) (fun(_:Unit)=>[]) (fun(_:Unit) wr=>AR w [] wr∧Gq=some r) ?_ ?_
 ·refine Bl 1 rfl<|Af (Bn rfl AaT g) rfl<|AB 1 rfl<|A4 ?_;obtain⟨i,h⟩:=Bb h;refine Bu (σ:=Int×Nat) (fun⟨a,n⟩=>[(0,b),(1,.func (.func 230) #[] #[]),(7,No (a0.length:Int)),(8,No a)]) (fun⟨a,n⟩ wr=>AR w [] wr∧FM (FW a0) n a=some r) (fun⟨a,n⟩=>n) ((0:Int),i) (.cons rfl (.cons rfl (.cons rfl (.cons rfl (Sub.nil _))))) ⟨hL,h⟩ ?_;rintro⟨a,nn42⟩ s ⟨c,h⟩;obtain⟨i,x,rfl,h,d⟩:=Ba h;refine AD 1 rfl<|A8<|Bg rfl (fun e=>?_) (fun e=>?_)
  ·have h:=A1 e h;refine Av<|Ao<|A8<|A4<|AD 2 rfl<|Bl 3 rfl ?_;obtain⟨j,h⟩:=Ac h;refine Be rfl rfl AaT Fo g a.toNat (Int.toNat_of_nonneg j.1).symm (AZ j) rfl ?_;rintro y _ rfl l;refine Af (Bh rfl AaG rfl l (hH.trans c.arg)) rfl ?_;obtain⟨z,m,h⟩:=Go.L.bind_some h;refine Rb rfl rfl rfl c (Nq _ _ (As hH c) m) ?_;rintro _ aa rfl t k q;refine Ad<|By rfl (fun f=>?_) (fun f=>?_)
   ·have h:=Bv f h;refine AD 2 rfl<|Az<|Ay<|Au<|BB ?_;have h:=BF.out h d;refine Ay<|Bs ?_;obtain rfl:=Option.some.inj h;refine An rfl rfl ?_;exact⟨k.ext,rfl⟩
   have h:=Bw f h;refine Av<|AA<|Ao<|Aq ?_;obtain⟨o,h⟩:=Ac h;refine Af (AK rfl rfl rfl o) rfl<|Ar 1 rfl<|AL ?_;have h:=BF.again h d;refine AO ((a+(1:Int)),i) (.cons rfl (.cons rfl (.cons rfl (.cons rfl (Sub.nil _))))) ⟨k,h⟩ (Nat.lt_succ_self _)
  have h:=A2 e h;refine Bq<|AH<|A6 ?_;have h:=BF.out h d;refine Bf<|A9 () (Sub.nil _) ⟨c,h⟩
 rintro _ u ⟨p,h⟩;refine AD 1 rfl<|Az ?_;obtain rfl:=Option.some.inj h;refine An rfl rfl ?_;exact⟨p.ext,rfl⟩
def Is(a0:List Aas):Option (Bool):=
 Option.bind (Ir a0) (fun a=>some (decide ((0:Int)≤a)))
theorem NS(w:World)(H:PH)(hH:Le H (hp w)){a0:List Aas}{a:Value}(b:AI .st H a (a0)){r:Bool}(h:Is a0=some r):
  Ok Tryz.prog 229 [a,.func (.func 230) #[] #[]] w (fun v w'=>Ext w w'∧v=.bool r):=by
 refine A5 (n:=9) [(0,a),(1,.func (.func 230) #[] #[])] func229 rfl rfl rfl rfl rfl ?_;have hL:=AR.start w;refine AD 1 rfl<|Bl 2 rfl ?_;obtain⟨g,c,h⟩:=Go.L.bind_some h;refine Ax rfl rfl hL (NR _ _ (As hH hL) (b.mono (Ai hH)) c) ?_;rintro _ i rfl f d e;refine AB 2 rfl<|Az ?_;obtain rfl:=Option.some.inj h;refine An rfl rfl ?_;exact⟨d.ext,rfl⟩
end Go.Proofs.YtekmbcbgknmhiaaGreatDoor
end
noncomputable section
namespace Go.L
def RN:List UInt8→List UInt8→List (List UInt8)
 | cur,[]=>[cur]
 | cur,c::s=>if c=47 then cur::RN [] s else RN (cur++[c]) s
theorem Td:∀ (s cur:List UInt8),RN cur s=(cur++(RN [] s).headD [])::(RN [] s).tail
 | [],cur=>by simp [RN]
 | c::s,cur=>by
  unfold RN
  by_cases h:c=47
  ·rw [if_pos h,if_pos h];simp
  ·rw [if_neg h,if_neg h,Td s (cur++[c]),Td s ([]++[c])];simp
def Tt:List (List UInt8)→Nat
 | []=>0
 | x::l=>x.length+1+Tt l
theorem Te:∀ (s cur:List UInt8),Tt (RN cur s)=cur.length+s.length+1
 | [],cur=>by simp [RN,Tt]
 | c::s,cur=>by
  unfold RN
  split
  ·unfold Tt;rw [Te s []];simp only [List.length_cons,List.length_nil];omega
  ·rw [Te s];simp only [List.length_append,List.length_cons,List.length_nil];omega
theorem Rr:∀ s:List UInt8,Lib.splitK [47] 0 (s.count 47) s=RN [] s
 | []=>rfl
 | c::s=>by
  have ih:=Rr s
  have hi:Lib.index (c::s) [47]=if c==47 then 0 else if Lib.index s [47] == -1 then -1 else Lib.index s [47]+1:=by
   rw [Lib.index_one,Lib.index_one];rfl
  by_cases h:c=47
  ·subst h;rw [List.count_cons_self];unfold Lib.splitK RN;rw [hi];simp [ih]
  ·have hb:(c==47)=false:=by simpa using h
   rw [List.count_cons_of_ne (fun e=>h e)]
   have hp:RN [] (c::s)=([c]++(RN [] s).headD [])::(RN [] s).tail:=by
    conv=>lhs;unfold RN
    rw [if_neg h,Td s ([]++[c])];rfl
   rw [hp,← ih]
   cases hk:s.count 47 with
   | zero=>rfl
   | succ k=>
    unfold Lib.splitK;rw [hi,hb]
    by_cases a:(Lib.index s [47] == -1)=true
    ·simp [a]
    ·have hge : -1≤Lib.index s [47]:=Lib.index_ge s [47];have h2:0≤Lib.index s [47]:=by have:Lib.index s [47]≠-1:=fun e=>a (by simp [e]);omega
     obtain⟨i,b⟩:=Int.eq_ofNat_of_zero_le h2;have h3:((i:Int)+1 == -1)=false:=by simp;omega
     have d:((i:Int) == -1)=false:=by simp
     rw [b] at a ⊢;simp [h3,d,show((i:Int)+1).toNat=i+1 by omega]
def sl(s:List UInt8):List (List UInt8):=if s=[] then[] else RN [] s
theorem X5(s:List UInt8):Tt (sl s)≤s.length+1:=by unfold sl;split;simp [Tt];rw [Te];simp
theorem Tf:∀ {l:List (List UInt8)} {x:List UInt8},x∈l→x.length<Tt l
 | y::l,x,h=>by
  unfold Tt
  rcases List.mem_cons.1 h with rfl | h
  ·omega
  ·have:=Tf h;omega
def Tu(c:UInt8):Bool:=decide ((97≤c.toNat∧c.toNat≤122)∨(48≤c.toNat∧c.toNat≤57)∨c.toNat=45∨c.toNat=95∨c.toNat=46)
def Wu(s:List UInt8):Bool:=decide (1≤s.length∧s.length≤32∧97≤(s.getD 0 default).toNat∧(s.getD 0 default).toNat≤122)&&s.all Tu
def wr(w:Bool):Int→List (List UInt8)→Int
 | _,[]=>-1
 | a,x::l=>if(Wu x||decide (x=[35])||(w&&(decide (x=[42])||decide (x=[42,42]))))=true then wr w (a+x.length+1) l else a
theorem drop_cons{α:Type}[Inhabited α]{l:List α}{i:Nat}(h:i<l.length):l.drop i=l.getD i default::l.drop (i+1):=by
 rw [List.drop_eq_getElem_cons h];simp [List.getD_eq_getElem?_getD,List.getElem?_eq_getElem h]
theorem TY{α:Type}[Inhabited α]{l:List α}{i:Nat}(h:i<l.length):l.getD i default∈l:=by
 rw [List.getD_eq_getElem?_getD,List.getElem?_eq_getElem h];exact List.getElem_mem h
end Go.L
namespace Go.Proofs.YtekmbcbgknmhiaaGreatDoor
open Go Go.L
theorem X6{s:List UInt8}(h:s.length<4294967281):Ip s=some (sl s):=by
 unfold Ip sl
 by_cases hs:s=[]
 ·rw [if_pos hs,if_pos hs]
 ·rw [if_neg hs,if_neg hs];unfold strings_Split NN;rw [Aw ⟨h,rfl,rfl,rfl⟩]
  show some (pieces s)=some (RN [] s)
  unfold pieces Lib.split;rw [Lib.count_one,Rr]
theorem RO{s:List UInt8}(hs:s.length≤1000000000000):∀ (d i f:Nat) (L:List (List UInt8)),i+d=s.length→f≤i→L.length≤i→
  Go.L.run (CX s) (L,(f:Int),(i:Int))=some (L++RN ((s.drop f).take (i - f)) (s.drop i)):=by
 intro d
 induction d with
 | zero=>
  intro i f L hi hf hL
  have a:CX s (L,(f:Int),(i:Int))=some (.inl (L++[(s.drop f).take (i - f)],((i+1:Nat):Int),((i+1:Nat):Int))):=by
   unfold CX;simp only [Int.toNat_natCast];rw [if_pos (by omega),if_pos (by omega),Aw (by omega),Aw (by unfold Go.E.JE;simp;omega),Aw (by unfold BJ;omega),Aw (by unfold BJ;omega)]
   rfl
  rw [BK a,B2 (m:=some (L++[(s.drop f).take (i - f)]))]
  ·rw [List.drop_eq_nil_of_le (by omega:s.length≤i)];rfl
  ·unfold CX;dsimp only;rw [if_neg (by omega)]
   rfl
 | succ d ih=>
  intro i f L hi hf hL;have hil:i<s.length:=by omega
  have hd:=drop_cons hil
  by_cases hc:s.getD i default=47
  ·have a:CX s (L,(f:Int),(i:Int))=some (.inl (L++[(s.drop f).take (i - f)],((i+1:Nat):Int),((i+1:Nat):Int))):=by
    unfold CX;simp only [Int.toNat_natCast];rw [if_pos (by omega),if_neg (by omega),Aw (by omega),if_pos (by rw [hc];rfl),Aw (by omega),Aw (by unfold Go.E.JE;simp;omega),Aw (by unfold BJ;omega),Aw (by unfold BJ;omega)]
    rfl
   rw [BK a,ih (i+1) (i+1) _ (by omega) (Nat.le_refl _) (by simp;omega),hd]
   conv=>rhs;unfold RN
   rw [if_pos hc,Nat.sub_self,List.take_zero,List.append_assoc]
   rfl
  ·have a:CX s (L,(f:Int),(i:Int))=some (.inl (L,(f:Int),((i+1:Nat):Int))):=by
    unfold CX;simp only [Int.toNat_natCast];rw [if_pos (by omega),if_neg (by omega),Aw (by omega),if_neg (fun e=>hc (UInt8.toNat.inj (show(s.getD i default).toNat=47 by omega))),Aw (by unfold BJ;omega)]
    rfl
   rw [BK a,ih (i+1) f _ (by omega) (by omega) (by omega),hd]
   conv=>rhs;unfold RN
   rw [if_neg hc]
   congr 2
   rw [show i+1 - f=(i - f)+1 by omega,List.take_add_one,List.getElem?_drop,show f+(i - f)=i by omega,List.getElem?_eq_getElem hil];simp [List.getD_eq_getElem?_getD,List.getElem?_eq_getElem hil]
theorem Wa{s:List UInt8}(hs:s.length≤1000000000000):Mt s=some (sl s):=by
 unfold Mt sl
 split
 ·rfl
 ·have:=RO hs s.length 0 0 [] (by omega) (Nat.le_refl _) (Nat.le_refl _);exact this
theorem UA{s:List UInt8}(hs:s.length≤1000000000000):∀ (d i:Nat),i+d=s.length→1≤i→Go.L.run (C7 s) (i:Int)=some ((s.drop i).all Tu&&decide (1≤s.length∧s.length≤32)):=by
 intro d
 induction d with
 | zero=>
  intro i hi h;refine B2 ?_;unfold C7 KQ Ey;rw [if_neg (by omega),List.drop_eq_nil_of_le (by omega:s.length≤i)];simp only [Option.bind_some,Option.map_some,List.all_nil,Bool.true_and]
  congr 2
  rw [decide_eq_decide];omega
 | succ d ih=>
  intro i hi h;have hil:i<s.length:=by omega
  rw [drop_cons hil,List.all_cons]
  have hstep:C7 s (i:Int)=if Tu (s.getD i default) then some (.inl ((i+1:Nat):Int)) else some (.inr false):=by
   unfold C7 Ey Tu;rw [if_pos (by omega),Aw (by omega),Int.toNat_natCast];have hk:BJ ((i:Int)+1):=by unfold BJ;omega
   have hz : ¬ ((i:Int)=0):=by omega
   simp only [Option.bind_some,Aw hk,if_neg hz];generalize (s.getD i default).toNat=c;have j:(decide ((97:Int)≤(c:Int)∧(c:Int)≤122))=decide (97≤c∧c≤122):=by rw [decide_eq_decide];omega
   have k:(decide ((48:Int)≤(c:Int)∧(c:Int)≤57))=decide (48≤c∧c≤57):=by rw [decide_eq_decide];omega
   rw [j,k]
   by_cases a:97≤c∧c≤122
   ·simp [a]
   ·by_cases b:48≤c∧c≤57
    ·simp [a,b]
    ·by_cases e:c=45
     ·subst e;simp
     ·by_cases f:c=95
      ·subst f;simp
      ·by_cases g:c=46
       ·subst g;simp
       ·have k3' : ¬ ((c:Int)=45):=by omega
        have k4' : ¬ ((c:Int)=95):=by omega
        have k5' : ¬ ((c:Int)=46):=by omega
        simp [a,b,e,f,g,k3',k4',k5']
  by_cases hn:Tu (s.getD i default)=true
  ·rw [if_pos hn] at hstep;rw [BK hstep,ih (i+1) (by omega) (by omega),hn,Bool.true_and]
  ·rw [if_neg hn] at hstep;have hn':Tu (s.getD i default)=false:=by simpa using hn
   rw [B2 (m:=some false) hstep,hn',Bool.false_and,Bool.false_and]
theorem Wb{s:List UInt8}(hs:s.length≤1000000000000):Lu s=some (Wu s):=by
 unfold Lu Nh
 by_cases b:s=[]
 ·subst b;refine B2 ?_
  rfl
 ·have hl:0<s.length:=List.length_pos_iff.2 b;have hd:s=s.getD 0 default::s.drop 1:=by have:=drop_cons hl;simpa using this
  by_cases hc:97≤(s.getD 0 default).toNat∧(s.getD 0 default).toNat≤122
  ·have a:C7 s (0:Int)=some (.inl ((1:Nat):Int)):=by
    unfold C7 Ey;rw [if_pos (by omega),Aw (by omega)];simp only [Option.bind_some,Int.toNat_zero];have hh:(decide ((97:Int)≤((s.getD 0 default).toNat:Int)∧((s.getD 0 default).toNat:Int)≤122))=true:=by rw [decide_eq_true_eq];omega
    rw [hh,if_neg (by decide),Aw (by unfold BJ;omega)]
    rfl
   rw [BK a,UA hs (s.length - 1) 1 (by omega) (Nat.le_refl _)];unfold Wu;have hn:Tu (s.getD 0 default)=true:=by unfold Tu;rw [decide_eq_true_eq];exact .inl hc
   have ha:s.all Tu=(s.drop 1).all Tu:=by conv=>lhs;rw [hd,List.all_cons,hn,Bool.true_and]
   rw [ha,Bool.and_comm]
   congr 2
   rw [decide_eq_decide]
   constructor
   ·intro h;exact⟨h.1,h.2,hc.1,hc.2⟩
   ·intro h;exact⟨h.1,h.2.1⟩
  ·have a:C7 s (0:Int)=some (.inr false):=by
    unfold C7 Ey;rw [if_pos (by omega),Aw (by omega)];simp only [Option.bind_some,Int.toNat_zero];have hh:(decide ((97:Int)≤((s.getD 0 default).toNat:Int)∧((s.getD 0 default).toNat:Int)≤122))=false:=by rw [decide_eq_false_iff_not];omega
    rw [hh]
    rfl
   rw [B2 (m:=some false) a];unfold Wu;rw [show(decide (1≤s.length∧s.length≤32∧97≤(s.getD 0 default).toNat∧(s.getD 0 default).toNat≤122))=false by rw [decide_eq_false_iff_not];intro h;exact hc ⟨h.2.2.1,h.2.2.2⟩]
   rfl
theorem Sn(l:List UInt8)(k:Nat):((ByteArray.mk l.toArray).get! k).toNat=(l.getD k default).toNat:=by
 simp [ByteArray.get!,List.getD_eq_getElem?_getD,getElem!_def]
 cases l[k]? <;> rfl
theorem Zb{l:List UInt8}{p:Nat}(h:(l.getD p default).toNat<128):Utf8.decode ⟨l.toArray⟩ p=((l.getD p default).toNat,1):=by
 unfold Utf8.decode;simp only [Nat.add_zero,Sn];rw [if_pos h]
theorem X7{l:List UInt8}{p:Nat}(h : ¬ (l.getD p default).toNat<128):128≤(Utf8.decode ⟨l.toArray⟩ p).1:=by
 unfold Utf8.decode;simp only [Nat.add_zero,Sn];rw [if_neg h]
 split
 ·split
  ·rename_i h2;simpa using h2
  ·decide
 ·split
  ·split
   ·rename_i h2;simp only [ge_iff_le,Bool.and_eq_true,decide_eq_true_eq] at h2;show 128≤_;omega
   ·decide
  ·split
   ·split
    ·rename_i h2;simp only [ge_iff_le,Bool.and_eq_true,decide_eq_true_eq] at h2;show 128≤_;omega
    ·decide
   ·decide
theorem X8(c:UInt8):Tc c.toNat = !(Tu c):=by
 unfold Tc Tu;generalize c.toNat=n;rw [Bool.eq_iff_iff];simp;omega
theorem X9{a:List UInt8}:∀ (f p:Nat),a.length≤p+f→(0≤Lib.idxFuncFrom Tc true ⟨a.toArray⟩ f p↔(a.drop p).all Tu=false)
 | 0,p,h=>by
  rw [List.drop_eq_nil_of_le (by omega)];simp [Lib.idxFuncFrom]
 | f+1,p,h=>by
  have hsz:(ByteArray.mk a.toArray).size=a.length:=by simp [ByteArray.size]
  unfold Lib.idxFuncFrom;rw [hsz]
  by_cases hp:p<a.length
  ·rw [if_pos hp,drop_cons hp,List.all_cons]
   by_cases hc:(a.getD p default).toNat<128
   ·rw [Zb hc];simp only [X8]
    by_cases hn:Tu (a.getD p default)=true
    ·rw [hn,if_neg (by decide),Bool.true_and];exact X9 f (p+1) (by omega)
    ·have hn':Tu (a.getD p default)=false:=by simpa using hn
     rw [hn',if_pos (by decide)];simp
   ·have hb:Tc (Utf8.decode ⟨a.toArray⟩ p).1=true:=by
     have:=X7 hc;unfold Tc;simp;omega
    have hn:Tu (a.getD p default)=false:=by
     unfold Tu;rw [decide_eq_false_iff_not];omega
    rw [hb,if_pos rfl,hn];simp
  ·rw [if_neg hp,List.drop_eq_nil_of_le (by omega)];simp
theorem Wc(a:List UInt8):Ro a=some (!(a.all Tu)):=by
 unfold Ro Lib.idxFunc
 congr 1
 have:=X9 (a:=a) (ByteArray.mk a.toArray).size 0 (by simp [ByteArray.size]);rw [List.drop_zero] at this;rw [Bool.eq_iff_iff,decide_eq_true_eq,this];simp
theorem Zc(s:List UInt8):Jd s=some (Wu s):=by
 unfold Jd Wu
 by_cases a:s=[]
 ·subst a;rfl
 ·have hl:0<s.length:=List.length_pos_iff.2 a;rw [if_neg a]
  by_cases b:(32:Int)<(s.length:Int)
  ·rw [if_pos b,show decide (1≤s.length∧s.length≤32∧97≤(s.getD 0 default).toNat∧(s.getD 0 default).toNat≤122)=false by rw [decide_eq_false_iff_not];omega]
   rfl
  ·rw [if_neg b,Aw (by omega),Int.toNat_zero]
   by_cases h2:((s.getD 0 default).toNat:Int)<97
   ·rw [if_pos h2,show decide (1≤s.length∧s.length≤32∧97≤(s.getD 0 default).toNat∧(s.getD 0 default).toNat≤122)=false by rw [decide_eq_false_iff_not];omega]
    rfl
   ·rw [if_neg h2,Aw (by omega)]
    by_cases h3:122<((s.getD 0 default).toNat:Int)
    ·rw [if_pos h3,show decide (1≤s.length∧s.length≤32∧97≤(s.getD 0 default).toNat∧(s.getD 0 default).toNat≤122)=false by rw [decide_eq_false_iff_not];omega]
     rfl
    ·rw [if_neg h3,Wc,show decide (1≤s.length∧s.length≤32∧97≤(s.getD 0 default).toNat∧(s.getD 0 default).toNat≤122)=true by rw [decide_eq_true_eq];omega];simp
theorem Wd{w:Bool}{l:List (List UInt8)}(hl:Tt l≤1000000000000):∀ (d i a:Nat),i+d=l.length→a+Tt (l.drop i)≤2000000000000→
  Go.L.run (Fx w l) ((a:Int),(i:Int))=some (wr w (a:Int) (l.drop i)):=by
 intro d
 induction d with
 | zero=>
  intro i a hi ha;rw [List.drop_eq_nil_of_le (by omega)];refine B2 ?_;unfold Fx;dsimp only;rw [if_neg (by omega)]
  rfl
 | succ d ih=>
  intro i a hi ha;have hil:i<l.length:=by omega
  have hlt:l.length≤1000000000000:=by
   have:∀ m:List (List UInt8),m.length≤Tt m:=fun m=>by
    induction m with
    | nil=>exact Nat.zero_le _
    | cons x m ih=>simp only [List.length_cons,Tt];omega
   exact Nat.le_trans (this l) hl
  have hx:=Tf (TY hil);rw [drop_cons hil] at ha ⊢;unfold wr;unfold Tt at ha;generalize hX:l.getD i default=x at *;have c:BJ ((a:Int)+(x.length:Int)):=by unfold BJ;omega
  have e:BJ ((a:Int)+(x.length:Int)+1):=by unfold BJ;omega
  have f:BJ ((i:Int)+1):=by unfold BJ;omega
  have b:0≤(i:Int)∧(i:Int)<(l.length:Int):=by omega
  have hgo:Go.L.run (Fx w l) ((a:Int)+(x.length:Int)+1,(i:Int)+1)=some (wr w ((a:Int)+(x.length:Int)+1) (l.drop (i+1))):=by
   have:=ih (i+1) (a+x.length+1) (by omega) (by omega)
   simpa using this
  have hb:Fx w l ((a:Int),(i:Int))=if(Wu x||decide (x=[35])||(w&&(decide (x=[42])||decide (x=[42,42]))))=true then some (.inl ((a:Int)+(x.length:Int)+1,(i:Int)+1)) else some (.inr (a:Int)):=by
   unfold Fx;simp only [Int.toNat_natCast,hX];rw [if_pos (by omega),Aw b,Wb (by omega)];simp only [Option.bind_some,Aw b,Aw c,Aw e,Aw f]
   cases hn:Wu x <;> by_cases g:x=[35] <;> cases w <;> by_cases h2:x=[42] <;> by_cases h3:x=[42,42] <;> simp_all
  by_cases hc:(Wu x||decide (x=[35])||(w&&(decide (x=[42])||decide (x=[42,42]))))=true
  ·rw [if_pos hc] at hb ⊢;rw [BK hb,hgo]
  ·rw [if_neg hc] at hb ⊢;exact B2 (m:=some (a:Int)) hb
theorem XA{s:List UInt8}(hs:s.length≤100000000000)(w:Bool):KR s w=some (wr w 0 (sl s)):=by
 unfold KR;rw [Wa (by omega),Option.bind_some];have a:=X5 s;have:=Wd (w:=w) (l:=sl s) (by omega) (sl s).length 0 0 (by omega) (by simp;omega);rw [List.drop_zero] at this;exact this
def pf(s:List UInt8):Int×Int:=if 64<s.length then(3,-1) else if 0≤wr true 0 (sl s) then(1,wr true 0 (sl s)) else(0,0)
theorem We(s:List UInt8):HA s=some (pf s):=by
 unfold HA pf
 by_cases h:64<s.length
 ·rw [if_pos (by omega),if_pos h];rfl
 ·rw [if_neg (by omega),if_neg h,XA (by omega)];simp only [Option.bind_some]
  split <;> rfl
theorem Wf{l:List (List UInt8)}(hl:Tt l≤1000000000000):∀ (d i a:Nat),i+d=l.length→a+Tt (l.drop i)≤2000000000000→
  Go.L.run (CD l) ((a:Int),(i:Int))=some (if 0≤wr true (a:Int) (l.drop i) then(1,wr true (a:Int) (l.drop i)) else(0,0)):=by
 intro d
 induction d with
 | zero=>
  intro i a hi ha;rw [List.drop_eq_nil_of_le (by omega)];refine B2 ?_;unfold CD;dsimp only;rw [if_neg (by omega)]
  rfl
 | succ d ih=>
  intro i a hi ha;have hil:i<l.length:=by omega
  have hlt:l.length≤1000000000000:=by
   have:∀ m:List (List UInt8),m.length≤Tt m:=fun m=>by
    induction m with
    | nil=>exact Nat.zero_le _
    | cons x m ih=>simp only [List.length_cons,Tt];omega
   exact Nat.le_trans (this l) hl
  have hx:=Tf (TY hil);rw [drop_cons hil] at ha ⊢;unfold wr;unfold Tt at ha;generalize hX:l.getD i default=x at *;have b:BJ ((x.length:Int)+1):=by unfold BJ;omega
  have c:BJ ((a:Int)+((x.length:Int)+1)):=by unfold BJ;omega
  have e:BJ ((i:Int)+1):=by unfold BJ;omega
  have f:0≤(i:Int)∧(i:Int)<(l.length:Int):=by omega
  have hgo:Go.L.run (CD l) ((a:Int)+((x.length:Int)+1),(i:Int)+1)=some (if 0≤wr true ((a:Int)+(x.length:Int)+1) (l.drop (i+1)) then(1,wr true ((a:Int)+(x.length:Int)+1) (l.drop (i+1))) else(0,0)):=by
   have:=ih (i+1) (a+x.length+1) (by omega) (by omega);rw [show((a:Int)+((x.length:Int)+1))=((a+x.length+1:Nat):Int) by omega,show((a:Int)+(x.length:Int)+1)=((a+x.length+1:Nat):Int) by omega];exact this
  have hb:CD l ((a:Int),(i:Int))=if(Wu x||decide (x=[35])||(true&&(decide (x=[42])||decide (x=[42,42]))))=true then some (.inl ((a:Int)+((x.length:Int)+1),(i:Int)+1)) else some (.inr (1,(a:Int))):=by
   unfold CD;simp only [Int.toNat_natCast,hX];rw [if_pos (by omega),Aw f,Zc];simp only [Option.bind_some,Aw b,Aw c,Aw e]
   cases hn:Wu x <;> by_cases g:x=[35] <;> by_cases h2:x=[42] <;> by_cases h3:x=[42,42] <;> simp_all [Io]
  by_cases hc:(Wu x||decide (x=[35])||(true&&(decide (x=[42])||decide (x=[42,42]))))=true
  ·rw [if_pos hc] at hb ⊢;rw [BK hb,hgo]
  ·rw [if_neg hc] at hb ⊢;rw [if_pos (by omega)];exact B2 (m:=some (1,(a:Int))) hb
theorem Wg(s:List UInt8):Iq s=some (pf s):=by
 unfold Iq pf
 by_cases h:64<s.length
 ·rw [if_pos (by omega),if_pos h];rfl
 ·rw [if_neg (by omega),if_neg h,X6 (by omega),Option.bind_some];have a:=X5 s;have:=Wf (l:=sl s) (by omega) (sl s).length 0 0 (by omega) (by simp;omega);rw [List.drop_zero] at this;exact this
end Go.Proofs.YtekmbcbgknmhiaaGreatDoor
end
noncomputable section
namespace Go.Proofs.YtekmbcbgknmhiaaGreatDoor
open Go Go.E Go.RowKit Go.Shelf
theorem UB(w:World)(k:Nat)(os:Array Obj):Below w.heap.size w (Go.Sort.grow (w.drewN k) os):=
 ⟨rfl,rfl,rfl,by simp [Go.Sort.grow,World.drewN],fun j hj=>by
  simp only [Go.Sort.grow,World.drewN];rw [Array.getElem?_append_left hj]⟩
def OO(n:Int):Option (List UInt8):=Go.L.AY (-9223372036854775808≤n∧n≤9223372036854775807) (some (Lib.itoa n))
theorem Tg(w:World)(H:PH)(hH:Le H (hp w))(hU:Dt H){a0:Int}{r:List UInt8}(h:OO a0=some r):Ok Tryz.prog 64 [.int .i64 a0] w (fun v w'=>Ext w w'∧v=.string ⟨r.toArray⟩):=by
 obtain⟨hk,h⟩:=Go.L.Ac h;obtain rfl:=Option.some.inj h;refine⟨⟨Tryz.f64,_,Tryz.func64,rfl,rfl⟩,(Any.strconv_Itoa Tryz.YT a0 hk.1 hk.2 w (hU.2.1 w hH)).mono fun e w' he=>?_⟩;obtain⟨rfl,k,os,rfl⟩:=he;exact⟨_,rfl,Ext.off (UB _ _ _),rfl⟩
theorem XB(w:World)(H:PH)(_hH:Le H (hp w)){a:Int}:Ok Tryz.prog 220 [.int .i64 a] w (fun v w'=>Ext w w'∧v=.bool (decide ((8:Int)<a))):=by
 refine⟨⟨Tryz.f220,_,Tryz.func220,rfl,rfl⟩,(Any.strings_shouldUseASCIISet (ρ:=Tryz.P3) {Tryz.Xw with} a w).mono fun e w' he=>?_⟩;obtain⟨rfl,rfl⟩:=he;exact⟨_,rfl,Ext.refl _,rfl⟩
def XC(l:List UInt8):Option (Int×Bool):=Go.L.AY (l.length≤281474976710656) (some (match Lib.atoiAll l with
 | .ok v=>(v,true)
 | .range=>(Lib.atoiSat l,false)
 | _=>(0,false)))
theorem Zd(w:World)(H:PH)(hH:Le H (hp w))(hU:Dt H){a0:List UInt8}{r:Int×Bool}(h:XC a0=some r):Ok Tryz.prog 169 [.string ⟨a0.toArray⟩] w (fun v w'=>Ext w w'∧∃ e,v=.tuple #[.int .i64 r.1,e]∧(r.2=true→e=.nilIface)∧(r.2=false→∃ t p,e=.iface t p)):=by
 obtain⟨hk,h⟩:=Go.L.Ac h;obtain rfl:=Option.some.inj h;have hs:(ByteArray.mk a0.toArray).size=a0.length:=by simp [ByteArray.size]
 obtain⟨_,_,⟨ts,vs,h3⟩,⟨tr,vr,a⟩⟩:=hU;have b:=cell_of hH h3;have c:=cell_of hH a;refine⟨⟨Tryz.f169,_,Tryz.func169,rfl,rfl⟩,?_⟩
 cases hq:Lib.atoiAll a0 with
 | ok v=>
  refine(Any.strconv_Atoi_ok (P:=Tryz.prog) Tryz.SR ⟨a0.toArray⟩ (by rw [hs];omega) v (by simpa using hq) w).mono fun e w' he=>?_;obtain⟨rfl,hw⟩:=he;refine⟨_,rfl,?_,_,rfl,fun _=>rfl,fun h=>by cases h⟩
  rcases hw with rfl | ⟨t,rfl⟩
  ·exact Ext.refl _
  ·exact Ext.off (Lib.bytesWorld_below _ _ _)
 | range=>
  refine(Any.strconv_Atoi_range (P:=Tryz.prog) Tryz.SR ⟨a0.toArray⟩ (by rw [hs];exact hk) (by simpa using hq) _ w c (.inr ⟨_,_,rfl⟩)).mono fun e w' he=>?_;obtain⟨n,rfl,_,_,hb⟩:=he;exact⟨_,rfl,Ext.off hb,_,rfl,fun h=>(by cases h),fun _=>⟨_,_,rfl⟩⟩
 | _=>
  refine(Any.strconv_Atoi_syntax (P:=Tryz.prog) Tryz.SR ⟨a0.toArray⟩ (by rw [hs];exact hk) (by simpa using hq) _ w b (.inr ⟨_,_,rfl⟩)).mono fun e w' he=>?_;obtain⟨n,rfl,_,_,hb⟩:=he;exact⟨_,rfl,Ext.off hb,_,rfl,fun h=>(by cases h),fun _=>⟨_,_,rfl⟩⟩
end Go.Proofs.YtekmbcbgknmhiaaGreatDoor
end
noncomputable section
namespace Go.Proofs.YtekmbcbgknmhiaaGreatDoor
open Go Go.E Go.RowKit Go.L
set_option maxHeartbeats 1000000
set_option maxRecDepth 10000
open _root_.Go.Proofs.Tryz
def Ci(a0:List Int)(a1:Go.L.Pv):Option (Bool×Go.L.Pv):=
 Option.bind (Cg a0 a1.f.1) (fun a=>some (a,a1))
theorem C1{a w:World}{H:PH}(hH:Le H (hp a)){O:List AN}{a0:List Int}{a1:Go.L.Pv}{va0:Value}{ba1:Nat}{va1_2:Value}{va1_3:Value}{va1_4:Value}(hL:AR a (HAppend.hAppend ([.box ba1 [No a1.f.1,No a1.f.2.1,va1_2,va1_3,va1_4] 64]:List AN) O) w)(l:AI (.int .i64) (gz H a w (HAppend.hAppend ([.box ba1 [No a1.f.1,No a1.f.2.1,va1_2,va1_3,va1_4] 64]:List AN) O)) va0 (a0))(i:AI .byte (gz H a w (HAppend.hAppend ([.box ba1 [No a1.f.1,No a1.f.2.1,va1_2,va1_3,va1_4] 64]:List AN) O)) va1_2 (a1.f.2.2.1))(j:AI .st (gz H a w (HAppend.hAppend ([.box ba1 [No a1.f.1,No a1.f.2.1,va1_2,va1_3,va1_4] 64]:List AN) O)) va1_3 (a1.f.2.2.2.1))(k:AI .tree (gz H a w (HAppend.hAppend ([.box ba1 [No a1.f.1,No a1.f.2.1,va1_2,va1_3,va1_4] 64]:List AN) O)) va1_4 (a1.f.2.2.2.2)){r:Bool×Go.L.Pv}(h:Ci a0 a1=some r):
  Ok Tryz.prog 228 [va0,Aam ba1] w (fun v w'=>∃ (c:Value) (d:Value) (e:Value),v=.bool r.1∧AR a (HAppend.hAppend ([.box ba1 [No r.2.f.1,No r.2.f.2.1,c,d,e] 64]:List AN) O) w'∧Le (fz w (HAppend.hAppend ([.box ba1 [No a1.f.1,No a1.f.2.1,va1_2,va1_3,va1_4] 64]:List AN) O)) (fz w' (HAppend.hAppend ([.box ba1 [No r.2.f.1,No r.2.f.2.1,c,d,e] 64]:List AN) O))∧AI .byte (gz H a w' (HAppend.hAppend ([.box ba1 [No r.2.f.1,No r.2.f.2.1,c,d,e] 64]:List AN) O)) c (r.2.f.2.2.1)∧AI .st (gz H a w' (HAppend.hAppend ([.box ba1 [No r.2.f.1,No r.2.f.2.1,c,d,e] 64]:List AN) O)) d (r.2.f.2.2.2.1)∧AI .tree (gz H a w' (HAppend.hAppend ([.box ba1 [No r.2.f.1,No r.2.f.2.1,c,d,e] 64]:List AN) O)) e (r.2.f.2.2.2.2)):=by
 refine A5 (n:=8) [(0,va0),(1,(Aam ba1))] func228 rfl rfl rfl rfl rfl ?_;have hT:=Le.refl (fz w (HAppend.hAppend ([.box ba1 [No a1.f.1,No a1.f.2.1,va1_2,va1_3,va1_4] 64]:List AN) O));have b:=hL.rG H;refine AD 1 rfl<|Bl 1 rfl<|Af (Ag rfl AaU rfl BG (by decide)) rfl<|Af (Ah 0 rfl Aau rfl hL rfl rfl) rfl ?_;obtain⟨q,m,h⟩:=Go.L.bind_some h;refine Ax rfl rfl hL (HP _ _ (As hH hL) (l.mono b) m) ?_;rintro _ s rfl p o g;refine AB 1 rfl<|Az ?_;obtain rfl:=Option.some.inj h;refine An rfl rfl ?_;have b:=b.trans (Ab hH g);have hT:=hT.trans g;exact⟨va1_2,va1_3,va1_4,rfl,o,hT,(i.mono b),(j.mono b),(k.mono b)⟩
def GS:Option (Int):=
 some ((0:Int))
def Gr(b:List Aas):Int→Option ((Int) ⊕ (Int)):=fun a=>
 if a<(b.length:Int) then AY (0≤a∧a<(b.length:Int)) (none) else Option.map Sum.inr (GS)
def Je(a:List Aas)(s:Int):Option (Int):=Go.L.run (Gr a) s
def BN(_c83:Int)(_c84:Int)(_c85:Aas)(b:List Aas)(d:List Go.L.Pv)(a:Bool):Option (Int):=
 if a then none else(if(600:Int)<(d.length:Int) then none else Option.bind (Is b) (fun c=>if c then none else(Je b) (0:Int)))
def F2(g:Int)(h:Int)(i:Aas)(j:List Aas)(e:List Go.L.Pv)(d:Bool):Option (Int):=
 if d then BN g h i j e d else(if(0:Int)<(e.length:Int) then Option.bind (Ci ([(3:Int),(4:Int)]) (Go.L.Pv.mk g h i j e)) (fun c=>if !c.1 then BN c.2.f.1 c.2.f.2.1 c.2.f.2.2.1 c.2.f.2.2.2.1 c.2.f.2.2.2.2 (!c.1) else Option.bind (Ci ([(4:Int)]) c.2) (fun a=>if a.1 then BN a.2.f.1 a.2.f.2.1 a.2.f.2.2.1 a.2.f.2.2.2.1 a.2.f.2.2.2.2 (!decide ((a.2.f.2.2.2.1.length:Int)=(a.2.f.2.2.2.2.length:Int))) else BN a.2.f.1 a.2.f.2.1 a.2.f.2.2.1 a.2.f.2.2.2.1 a.2.f.2.2.2.2 false)) else Option.bind (Ci ([(4:Int)]) (Go.L.Pv.mk g h i j e)) (fun b=>if b.1 then BN b.2.f.1 b.2.f.2.1 b.2.f.2.2.1 b.2.f.2.2.2.1 b.2.f.2.2.2.2 (!decide ((b.2.f.2.2.2.1.length:Int)=(b.2.f.2.2.2.2.length:Int))) else BN b.2.f.1 b.2.f.2.1 b.2.f.2.2.1 b.2.f.2.2.2.1 b.2.f.2.2.2.2 false))
def F3(d:Int)(e:Int)(g:Aas)(c:List Aas)(h:List Go.L.Pv)(b:Bool):Option (Int):=
 if b then BN d e g c h b else(if(0:Int)<(c.length:Int) then Option.bind (Ci ([(4:Int)]) (Go.L.Pv.mk d e g c h)) (fun a=>F2 a.2.f.1 a.2.f.2.1 a.2.f.2.2.1 a.2.f.2.2.2.1 a.2.f.2.2.2.2 (!a.1)) else F2 d e g c h false)
def F4(h:Int)(d:Int)(c:Aas)(e:List Aas)(g:List Go.L.Pv)(b:Bool):Option (Int):=
 if b then BN h d c e g b else(if(0:Int)<(c.length:Int) then Option.bind (Ci ([(2:Int)]) (Go.L.Pv.mk h d c e g)) (fun a=>F3 a.2.f.1 a.2.f.2.1 a.2.f.2.2.1 a.2.f.2.2.2.1 a.2.f.2.2.2.2 (!a.1)) else F3 h d c e g false)
def IN(a0:Go.L.Pv):Option (Int):=
 Option.bind (Ci ([(1:Int),(2:Int),(3:Int),(4:Int)]) a0) (fun b=>if !b.1 then none else(if b.2.f.2.1=(0:Int) then F4 b.2.f.1 b.2.f.2.1 b.2.f.2.2.1 b.2.f.2.2.2.1 b.2.f.2.2.2.2 false else Option.bind (Ci ([(1:Int)]) b.2) (fun a=>F4 a.2.f.1 a.2.f.2.1 a.2.f.2.2.1 a.2.f.2.2.2.1 a.2.f.2.2.2.2 (!a.1))))
theorem O4(w:World)(H:PH)(hH:Le H (hp w)){a0:Go.L.Pv}{cq:Value}{cr:Value}{cs:Value}(ep:AI .byte H cq (a0.f.2.2.1))(eq:AI .st H cr (a0.f.2.2.2.1))(er:AI .tree H cs (a0.f.2.2.2.2)){r:Int}(h:IN a0=some r):
  Ok Tryz.prog 176 [.agg #[No a0.f.1,No a0.f.2.1,cq,cr,cs]] w (fun v w'=>Ext w w'∧v=No r):=by
 refine A5 (n:=88) [(0,.agg #[No a0.f.1,No a0.f.2.1,cq,cr,cs])] func176 rfl rfl rfl rfl rfl ?_;have hL:=AR.start w;refine Al<|Cv (t:=64) rfl rfl rfl hL fun w1 b1 ey fk _=>AB 1 rfl<|AD 2 rfl<|A8<|A4<|Bl 1 rfl<|Br (r:=(.int .i64)) (l:=[(1:Int),(2:Int),(3:Int),(4:Int)]) rfl (fun _=>Vr _ _ _ _ _) rfl (show 4≤9223372036854775807 by decide) hH ey (.c1 rfl (.c1 rfl (.c1 rfl (.c1 rfl .nil)))) ?_;intro v2 w2 ga ez fl e0;obtain⟨x3,e1,h⟩:=Go.L.bind_some h;refine DZ rfl rfl rfl (C1 (a0:=([(1:Int),(2:Int),(3:Int),(4:Int)])) (a1:=a0) (O:=[]) hH ez e0 (ep.mono (Ai hH)) (eq.mono (Ai hH)) (er.mono (Ai hH)) e1) ?_;rintro _ w4 ⟨es,et,eu,rfl,ct,fm,cu,cv,cw⟩;refine AB 2 rfl<|By rfl (fun dd=>?_) (fun dd=>?_)
 ·have h:=Bv dd h
  cases h
 have h:=Bw dd h;refine Bm (σ:=Int×Int×Aas×(List Aas)×(List Go.L.Pv)×Bool×Value×Value×Value) (fun⟨bx,bz,b0,bl,b2,a2,ab,aa,ac⟩=>[(1,(Aam b1)),(12,.bool a2)]) (fun⟨bx,bz,b0,bl,b2,a2,ab,aa,ac⟩ wr=>DM w [.box b1 [No bx,No bz,ab,aa,ac] 64] wr fun Oz=>AI .byte (gz H w wr Oz) (ab) (b0)∧AI .st (gz H w wr Oz) (aa) (bl)∧AI .tree (gz H w wr Oz) (ac) (b2)∧BN bx bz b0 bl b2 a2=some r) ?_ ?_
 ·refine Bm (σ:=Int×Int×Aas×(List Aas)×(List Go.L.Pv)×Bool×Value×Value×Value) (fun⟨bp,aj,ak,al,am,x,ad,ae,af⟩=>[(1,(Aam b1)),(3,.func (.func 228) #[] #[Aam b1]),(12,.bool x)]) (fun⟨bp,aj,ak,al,am,x,ad,ae,af⟩ wr=>DM w [.box b1 [No bp,No aj,ad,ae,af] 64] wr fun Oz=>AI .byte (gz H w wr Oz) (ad) (ak)∧AI .st (gz H w wr Oz) (ae) (al)∧AI .tree (gz H w wr Oz) (af) (am)∧F4 bp aj ak al am x=some r) ?_ ?_
  ·have q:=ct.rG H;refine Aq<|Af (Ag rfl AaU rfl BG (by decide)) rfl<|Af (Ah 0 rfl Aau rfl ct rfl rfl) rfl<|Ar 2 rfl<|AQ (s:=16) rfl (fun d=>?_) (fun d=>?_)
   ·have h:=A2 (CT d) h;refine Aa rfl rfl d<|Af (Ae rfl) rfl<|Aa rfl rfl d<|Br (r:=(.int .i64)) (l:=[(1:Int)]) rfl (fun _=>Ig _ _) rfl (show 1≤9223372036854775807 by decide) hH ct (.c1 rfl .nil) fun fn fo e8 dz de d0=>Aa rfl rfl d ?_;obtain⟨be,d1,h⟩:=Go.L.bind_some h;have q:=q.trans (Ab hH de);refine DZ rfl rfl rfl (C1 (a0:=([(1:Int)])) (a1:=x3.2) (O:=[]) hH dz d0 (cu.mono q) (cv.mono q) (cw.mono q) d1) ?_;rintro _ fp ⟨df,dg,dh,rfl,d2,e2,c2,c3,c4⟩;refine Aa rfl rfl d<|Af (Ae rfl) rfl<|Af (A3 rfl d rfl) rfl<|Ar 1 rfl<|AL<|A9 (be.2.f.1,be.2.f.2.1,be.2.f.2.2.1,be.2.f.2.2.2.1,be.2.f.2.2.2.2,!be.1,df,dg,dh) (.cons rfl (.cons rfl (.cons rfl (Sub.nil _)))) ⟨d2,c2,c3,c4,h⟩
   have h:=A1 (CU d) h
   iterate 4 refine Aj rfl rfl d rfl ?_
   refine Af (A7 rfl d rfl) rfl<|Ar 1 rfl<|AL<|A9 (x3.2.f.1,x3.2.f.2.1,x3.2.f.2.2.1,x3.2.f.2.2.2.1,x3.2.f.2.2.2.2,false,es,et,eu) (.cons rfl (.cons rfl (.cons rfl (Sub.nil _)))) ⟨ct,(cu.mono q),(cv.mono q),(cw.mono q),h⟩
  rintro⟨bp,aj,ak,al,am,x,ad,ae,af⟩ e9 ⟨a3,a4,bq,br,h⟩;refine By rfl (fun b9=>?_) (fun b9=>?_)
  ·have h:=Bv b9 h;refine Av<|A9 (bp,aj,ak,al,am,x,ad,ae,af) (.cons rfl (.cons rfl (Sub.nil _))) ⟨a3,a4,bq,br,h⟩
  have h:=Bw b9 h;refine Bm (σ:=Int×Int×Aas×(List Aas)×(List Go.L.Pv)×Bool×Value×Value×Value) (fun⟨an,ao,ap,aq,ar,y,ag,ah,ai⟩=>[(1,(Aam b1)),(3,.func (.func 228) #[] #[Aam b1]),(12,.bool y)]) (fun⟨an,ao,ap,aq,ar,y,ag,ah,ai⟩ wr=>DM w [.box b1 [No an,No ao,ag,ah,ai] 64] wr fun Oz=>AI .byte (gz H w wr Oz) (ag) (ap)∧AI .st (gz H w wr Oz) (ah) (aq)∧AI .tree (gz H w wr Oz) (ai) (ar)∧F3 an ao ap aq ar y=some r) ?_ ?_
  ·have m:=a3.rG H;refine Aq<|Af (Ag rfl AaU rfl Fs (by decide)) rfl<|Af (Ah 0 rfl AaQ rfl a3 rfl rfl) rfl<|Af (Bn rfl AaQ (a4.mono m)) rfl<|Ar 2 rfl<|AQ (s:=26) rfl (fun e=>?_) (fun e=>?_)
   ·have h:=A1 (of_decide_eq_true e) h;refine Aa rfl rfl e<|Af (Ae rfl) rfl<|Aa rfl rfl e<|Br (r:=(.int .i64)) (l:=[(2:Int)]) rfl (fun _=>Ig _ _) rfl (show 1≤9223372036854775807 by decide) hH a3 (.c1 rfl .nil) fun fq fr fa d3 di d4=>Aa rfl rfl e ?_;obtain⟨bf,d5,h⟩:=Go.L.bind_some h;have m:=m.trans (Ab hH di);refine DZ rfl rfl rfl (C1 (a0:=([(2:Int)])) (a1:=(Go.L.Pv.mk bp aj ak al am)) (O:=[]) hH d3 d4 (a4.mono m) (bq.mono m) (br.mono m) d5) ?_;rintro _ fs ⟨dj,dk,dl,rfl,d6,e3,c5,c6,c7⟩;refine Aa rfl rfl e<|Af (Ae rfl) rfl<|Af (A3 rfl e rfl) rfl<|Ar 1 rfl<|AL<|A9 (bf.2.f.1,bf.2.f.2.1,bf.2.f.2.2.1,bf.2.f.2.2.2.1,bf.2.f.2.2.2.2,!bf.1,dj,dk,dl) (.cons rfl (.cons rfl (.cons rfl (Sub.nil _)))) ⟨d6,c5,c6,c7,h⟩
   have h:=A2 (of_decide_eq_false e) h
   iterate 4 refine Aj rfl rfl e rfl ?_
   refine Af (A7 rfl e rfl) rfl<|Ar 1 rfl<|AL<|A9 (bp,aj,ak,al,am,false,ad,ae,af) (.cons rfl (.cons rfl (.cons rfl (Sub.nil _)))) ⟨a3,(a4.mono m),(bq.mono m),(br.mono m),h⟩
  rintro⟨an,ao,ap,aq,ar,y,ag,ah,ai⟩ fb ⟨a5,bs,a6,bt,h⟩;refine By rfl (fun ca=>?_) (fun ca=>?_)
  ·have h:=Bv ca h;refine Av<|A9 (an,ao,ap,aq,ar,y,ag,ah,ai) (.cons rfl (.cons rfl (Sub.nil _))) ⟨a5,bs,a6,bt,h⟩
  have h:=Bw ca h;refine Bm (σ:=Int×Int×Aas×(List Aas)×(List Go.L.Pv)×Bool×Value×Value×Value) (fun⟨au,av,aw,ax,ay,z,a7,a8,a9⟩=>[(1,(Aam b1)),(3,.func (.func 228) #[] #[Aam b1]),(12,.bool z)]) (fun⟨au,av,aw,ax,ay,z,a7,a8,a9⟩ wr=>DM w [.box b1 [No au,No av,a7,a8,a9] 64] wr fun Oz=>AI .byte (gz H w wr Oz) (a7) (aw)∧AI .st (gz H w wr Oz) (a8) (ax)∧AI .tree (gz H w wr Oz) (a9) (ay)∧F2 au av aw ax ay z=some r) ?_ ?_
  ·have o:=a5.rG H;refine Aq<|Af (Ag rfl AaU rfl Jn (by decide)) rfl<|Af (Ah 0 rfl AaT rfl a5 rfl rfl) rfl<|Af (Bn rfl AaT (a6.mono o)) rfl<|Ar 2 rfl<|AQ (s:=36) rfl (fun g=>?_) (fun g=>?_)
   ·have h:=A1 (of_decide_eq_true g) h;refine Aa rfl rfl g<|Af (Ae rfl) rfl<|Aa rfl rfl g<|Br (r:=(.int .i64)) (l:=[(4:Int)]) rfl (fun _=>Ig _ _) rfl (show 1≤9223372036854775807 by decide) hH a5 (.c1 rfl .nil) fun ft fu fc d7 dm d8=>Aa rfl rfl g ?_;obtain⟨bg,d9,h⟩:=Go.L.bind_some h;have o:=o.trans (Ab hH dm);refine DZ rfl rfl rfl (C1 (a0:=([(4:Int)])) (a1:=(Go.L.Pv.mk an ao ap aq ar)) (O:=[]) hH d7 d8 (bs.mono o) (a6.mono o) (bt.mono o) d9) ?_;rintro _ fv ⟨dn,dp,dq,rfl,ea,e4,c8,c9,da⟩;refine Aa rfl rfl g<|Af (Ae rfl) rfl<|Af (A3 rfl g rfl) rfl<|Ar 1 rfl<|AL<|A9 (bg.2.f.1,bg.2.f.2.1,bg.2.f.2.2.1,bg.2.f.2.2.2.1,bg.2.f.2.2.2.2,!bg.1,dn,dp,dq) (.cons rfl (.cons rfl (.cons rfl (Sub.nil _)))) ⟨ea,c8,c9,da,h⟩
   have h:=A2 (of_decide_eq_false g) h
   iterate 4 refine Aj rfl rfl g rfl ?_
   refine Af (A7 rfl g rfl) rfl<|Ar 1 rfl<|AL<|A9 (an,ao,ap,aq,ar,false,ag,ah,ai) (.cons rfl (.cons rfl (.cons rfl (Sub.nil _)))) ⟨a5,(bs.mono o),(a6.mono o),(bt.mono o),h⟩
  rintro⟨au,av,aw,ax,ay,z,a7,a8,a9⟩ fd ⟨ba,bu,bv,bb,h⟩;refine By rfl (fun cb=>?_) (fun cb=>?_)
  ·have h:=Bv cb h;refine Av<|A9 (au,av,aw,ax,ay,z,a7,a8,a9) (.cons rfl (.cons rfl (Sub.nil _))) ⟨ba,bu,bv,bb,h⟩
  have h:=Bw cb h;have c:=ba.rG H;refine Al<|Af (Ag rfl AaU rfl VG (by decide)) rfl<|Af (Ah 0 rfl Abo rfl ba rfl rfl) rfl<|Af (Bn rfl Abo (bb.mono c)) rfl<|Ar 2 rfl<|AQ (s:=46) rfl (fun i=>?_) (fun i=>?_)
  ·have h:=A1 (of_decide_eq_true i) h;refine Aa rfl rfl i<|Af (Ae rfl) rfl<|Aa rfl rfl i<|Br (r:=(.int .i64)) (l:=[(3:Int),(4:Int)]) rfl (fun _=>Vp _ _ _) rfl (show 2≤9223372036854775807 by decide) hH ba (.c1 rfl (.c1 rfl .nil)) fun fw fx fe eb dr ec=>Aa rfl rfl i ?_;obtain⟨az,ed,h⟩:=Go.L.bind_some h;have c:=c.trans (Ab hH dr);refine DZ rfl rfl rfl (C1 (a0:=([(3:Int),(4:Int)])) (a1:=(Go.L.Pv.mk au av aw ax ay)) (O:=[]) hH eb ec (bu.mono c) (bv.mono c) (bb.mono c) ed) ?_;rintro _ fy ⟨ds,dt,du,rfl,cc,e5,b3,b4,b5⟩;refine Aa rfl rfl i<|Af (Ae rfl) rfl<|Af (A3 rfl i rfl) rfl<|AB 1 rfl<|By rfl (fun cd=>?_) (fun cd=>?_)
   ·have h:=Bv cd h;refine Av<|A9 (az.2.f.1,az.2.f.2.1,az.2.f.2.2.1,az.2.f.2.2.2.1,az.2.f.2.2.2.2,!az.1,ds,dt,du) (.cons rfl (.cons rfl (Sub.nil _))) ⟨cc,b3,b4,b5,h⟩
   have h:=Bw cd h;have bc:=cc.rG H;refine Aq<|Ar 1 rfl<|Br (r:=(.int .i64)) (l:=[(4:Int)]) rfl (fun _=>Ig _ _) rfl (show 1≤9223372036854775807 by decide) hH cc (.c1 rfl .nil) ?_;intro fz f0 ff ee dv ef;obtain⟨j,eg,h⟩:=Go.L.bind_some h;have bc:=bc.trans (Ab hH dv);refine DZ rfl rfl rfl (C1 (a0:=([(4:Int)])) (a1:=az.2) (O:=[]) hH ee ef (b3.mono bc) (b4.mono bc) (b5.mono bc) eg) ?_;rintro _ f1 ⟨ck,cl,cm,rfl,bm,e6,b6,bh,bi⟩;refine Ar 1 rfl<|AQ (s:=55) rfl (fun a=>?_) (fun a=>?_)
   ·have h:=Bv a h;refine Aa rfl rfl a<|Af (Ag rfl AaU rfl Jn (by decide)) rfl<|Aa rfl rfl a<|Af (Ah 0 rfl AaT rfl bm rfl rfl) rfl<|Aa rfl rfl a<|Af (Bn rfl AaT bh) rfl<|Aa rfl rfl a<|Af (Ag rfl AaU rfl VG (by decide)) rfl<|Aa rfl rfl a<|Af (Ah 0 rfl Abo rfl bm rfl rfl) rfl<|Aa rfl rfl a<|Af (Bn rfl Abo bi) rfl ?_;refine Aa rfl rfl a<|Af (Ae rfl) rfl<|Af (A3 rfl a rfl) rfl<|Ar 1 rfl<|AL<|A9 (j.2.f.1,j.2.f.2.1,j.2.f.2.2.1,j.2.f.2.2.2.1,j.2.f.2.2.2.2,!decide ((j.2.f.2.2.2.1.length:Int)=(j.2.f.2.2.2.2.length:Int)),ck,cl,cm) (.cons rfl (.cons rfl (Sub.nil _))) ⟨bm,b6,bh,bi,h⟩
   have h:=Bw a h
   iterate 7 refine Aj rfl rfl a rfl ?_
   refine Af (A7 rfl a rfl) rfl<|Ar 1 rfl<|AL<|A9 (j.2.f.1,j.2.f.2.1,j.2.f.2.2.1,j.2.f.2.2.2.1,j.2.f.2.2.2.2,false,ck,cl,cm) (.cons rfl (.cons rfl (Sub.nil _))) ⟨bm,b6,bh,bi,h⟩
  have h:=A2 (of_decide_eq_false i) h
  iterate 4 refine Aj rfl rfl i rfl ?_
  refine Af (A7 rfl i rfl) rfl<|AB 1 rfl<|Ch rfl<|Aq<|Ar 1 rfl<|Br (r:=(.int .i64)) (l:=[(4:Int)]) rfl (fun _=>Ig _ _) rfl (show 1≤9223372036854775807 by decide) hH ba (.c1 rfl .nil) ?_;intro f2 f3 fg eh dw ei;obtain⟨k,ej,h⟩:=Go.L.bind_some h;have c:=c.trans (Ab hH dw);refine DZ rfl rfl rfl (C1 (a0:=([(4:Int)])) (a1:=(Go.L.Pv.mk au av aw ax ay)) (O:=[]) hH eh ei (bu.mono c) (bv.mono c) (bb.mono c) ej) ?_;rintro _ f4 ⟨cn,co,cp,rfl,bn,e7,b7,bj,bk⟩;refine Ar 1 rfl<|AQ (s:=55) rfl (fun b=>?_) (fun b=>?_)
  ·have h:=Bv b h;refine Aa rfl rfl b<|Af (Ag rfl AaU rfl Jn (by decide)) rfl<|Aa rfl rfl b<|Af (Ah 0 rfl AaT rfl bn rfl rfl) rfl<|Aa rfl rfl b<|Af (Bn rfl AaT bj) rfl<|Aa rfl rfl b<|Af (Ag rfl AaU rfl VG (by decide)) rfl<|Aa rfl rfl b<|Af (Ah 0 rfl Abo rfl bn rfl rfl) rfl<|Aa rfl rfl b<|Af (Bn rfl Abo bk) rfl ?_;refine Aa rfl rfl b<|Af (Ae rfl) rfl<|Af (A3 rfl b rfl) rfl<|Ar 1 rfl<|AL<|A9 (k.2.f.1,k.2.f.2.1,k.2.f.2.2.1,k.2.f.2.2.2.1,k.2.f.2.2.2.2,!decide ((k.2.f.2.2.2.1.length:Int)=(k.2.f.2.2.2.2.length:Int)),cn,co,cp) (.cons rfl (.cons rfl (Sub.nil _))) ⟨bn,b7,bj,bk,h⟩
  have h:=Bw b h
  iterate 7 refine Aj rfl rfl b rfl ?_
  refine Af (A7 rfl b rfl) rfl<|Ar 1 rfl<|AL<|A9 (k.2.f.1,k.2.f.2.1,k.2.f.2.2.1,k.2.f.2.2.2.1,k.2.f.2.2.2.2,false,cn,co,cp) (.cons rfl (.cons rfl (Sub.nil _))) ⟨bn,b7,bj,bk,h⟩
 rintro⟨bx,bz,b0,bl,b2,a2,ab,aa,ac⟩ f5 ⟨bw,ek,ce,cx,h⟩;refine By rfl (fun cf=>?_) (fun cf=>?_)
 ·have h:=Bv cf h
  cases h
 have h:=Bw cf h;have u:=bw.rG H;refine Al<|Af (Ag rfl AaU rfl VG (by decide)) rfl<|Af (Ah 0 rfl Abo rfl bw rfl rfl) rfl<|Af (Bn rfl Abo (cx.mono u)) rfl<|AB 2 rfl<|Bg rfl (fun cg=>?_) (fun cg=>?_)
 ·have h:=A1 cg h
  cases h
 have h:=A2 cg h;refine Al<|Af (Ag rfl AaU rfl Jn (by decide)) rfl<|Af (Ah 0 rfl AaT rfl bw rfl rfl) rfl ?_;obtain⟨f6,el,h⟩:=Go.L.bind_some h;refine Ax rfl rfl bw (NS _ _ (As hH bw) (ce.mono u) el) ?_;rintro _ f7 rfl fh cy dx;refine AB 1 rfl<|By rfl (fun ch=>?_) (fun ch=>?_)
 ·have h:=Bv ch h
  cases h
 have h:=Bw ch h;refine Av<|AA<|Ao<|Bm (σ:=Unit) (fun(_:Unit)=>[]) (fun(_:Unit) wr=>DM w [.box b1 [No bx,No bz,ab,aa,ac] 64] wr fun Oz=>AI .byte (gz H w wr Oz) (ab) (b0)∧AI .st (gz H w wr Oz) (aa) (bl)∧AI .tree (gz H w wr Oz) (ac) (b2)∧GS=some r) ?_ ?_
 ·refine Al<|Af (Ag rfl AaU rfl Jn (by decide)) rfl<|Af (Ah 0 rfl AaT rfl cy rfl rfl) rfl ?_;have u:=u.trans (Ab hH dx);refine Af (Bn rfl AaT (ce.mono u)) rfl<|AB 1 rfl<|A4 ?_;obtain⟨dy,h⟩:=Bb h;refine Bu (σ:=Int×Nat) (fun⟨p,n⟩=>[(74,aa),(75,No (bl.length:Int)),(76,No p)]) (fun⟨p,n⟩ wr=>DM w [.box b1 [No bx,No bz,ab,aa,ac] 64] wr fun Oz=>AI .st (gz H w wr Oz) (aa) (bl)∧AI .byte (gz H w wr Oz) (ab) (b0)∧AI .tree (gz H w wr Oz) (ac) (b2)∧FM (Gr bl) n p=some r) (fun⟨p,n⟩=>n) ((0:Int),dy) (.cons rfl (.cons rfl (.cons rfl (Sub.nil _)))) ⟨cy,(ce.mono u),(ek.mono u),(cx.mono u),h⟩ ?_;rintro⟨p,nn232⟩ fi ⟨ci,b8,db,dc,h⟩;obtain⟨dy,f8,rfl,h,em⟩:=Ba h;have bo:=ci.rG H;refine AD 1 rfl<|A8<|Bg rfl (fun cj=>?_) (fun cj=>?_)
  ·have h:=A1 cj h;refine Av<|Ao<|A8<|A4<|Bl 1 rfl ?_;obtain⟨cz,h⟩:=Ac h;refine Be rfl rfl AaT Fo (b8.mono bo) p.toNat (Int.toNat_of_nonneg cz.1).symm (AZ cz) rfl ?_;rintro f9 _ rfl en;refine Af (Bh rfl AaG rfl en (As hH ci)) rfl<|AB 2 rfl ?_
   cases h
  have h:=A2 cj h;refine Bq<|AH<|A6 ?_;have h:=BF.out h em;refine Bf<|A9 () (Sub.nil _) ⟨ci,(db.mono bo),(b8.mono bo),(dc.mono bo),h⟩
 rintro _ fj ⟨eo,ev,ew,ex,h⟩;refine AD 1 rfl<|Az ?_;obtain rfl:=Option.some.inj h;refine An rfl rfl ?_;exact⟨eo.ext,rfl⟩
def Gs(a1:Int):Option (Int×(Int×Int)):=
 some ((a1+(1:Int)),((0:Int),(0:Int)))
def FX(a0:Go.L.Pv)(a1:Int):Int→Option ((Int) ⊕ (Int×(Int×Int))):=fun a=>
 if a<(a0.f.2.2.2.2.length:Int) then AY (0≤a∧a<(a0.f.2.2.2.2.length:Int)) (none) else Option.map Sum.inr ((Gs a1))
def I7(a0:Go.L.Pv)(a1:Int)(s:Int):Option (Int×(Int×Int)):=Go.L.run (FX a0 a1) s
def G8(_self:Go.L.Pv→Int→Int→Option (Int×(Int×Int)))(a0:Go.L.Pv)(a1:Int)(a2:Int):Option (Int×(Int×Int)):=
 if((600:Int)≤a1)∨((10:Int)<a2) then none else Option.bind (IN a0) (fun a=>if a=(0:Int) then AY (BJ (a1+(1:Int))) ((I7 a0 a1) (0:Int)) else none)
def Hw:Nat→Go.L.Pv→Int→Int→Option (Int×(Int×Int))
 | 0=>fun _ _ _=>none
 | n+1=>G8 (Hw n)
def Lw:Go.L.Pv→Int→Int→Option (Int×(Int×Int)):=Hw 1000
theorem NT(self:Go.L.Pv→Int→Int→Option (Int×(Int×Int)))(_hself:∀ (w:World) (H:PH) (hH:Le H (hp w)) {a0:Go.L.Pv} {a1:Int} {a2:Int} {c:Value} {d:Value} {b:Value} (k:AI .byte H c (a0.f.2.2.1)) (l:AI .st H d (a0.f.2.2.2.1)) (e:AI .tree H b (a0.f.2.2.2.2)) {r:Int×(Int×Int)} (h:self a0 a1 a2=some r),Ok Tryz.prog 125 [.agg #[No a0.f.1,No a0.f.2.1,c,d,b],No a1,No a2] w (fun v w'=>Ext w w'∧v=.tuple #[No r.1,.agg #[No r.2.1,No r.2.2]]))(w:World)(H:PH)(hH:Le H (hp w)){a0:Go.L.Pv}{a1:Int}{a2:Int}{c:Value}{d:Value}{b:Value}(k:AI .byte H c (a0.f.2.2.1))(l:AI .st H d (a0.f.2.2.2.1))(e:AI .tree H b (a0.f.2.2.2.2)){r:Int×(Int×Int)}(h:G8 self a0 a1 a2=some r):
  Ok Tryz.prog 125 [.agg #[No a0.f.1,No a0.f.2.1,c,d,b],No a1,No a2] w (fun v w'=>Ext w w'∧v=.tuple #[No r.1,.agg #[No r.2.1,No r.2.2]]):=by
 refine A5 (n:=52) [(0,.agg #[No a0.f.1,No a0.f.2.1,c,d,b]),(1,No a1),(2,No a2)] func125 rfl rfl rfl rfl rfl ?_;have hL:=AR.start w;refine Al<|Cv (t:=64) rfl rfl rfl hL fun w1 b1 af ak _=>Ar 1 rfl<|AJ AT rfl rfl af fun w2 u m al _=>Ad<|A8<|Bl 3 rfl<|R6 2 2 rfl rfl rfl rfl rfl rfl<|Ad<|Bg rfl (fun o=>?_) (fun o=>?_)
 ·have h:=A1 o h
  cases h
 have h:=A2 o h;refine Av<|Ao<|A8<|Al<|Af (AE 1 rfl AaU rfl GL m rfl) rfl ?_;obtain⟨x6,ag,h⟩:=Go.L.bind_some h;refine Ax rfl rfl m (O4 (a0:=a0) _ _ (As hH m) (k.mono (Ai hH)) (l.mono (Ai hH)) (e.mono (Ai hH)) ag) ?_;rintro _ w7 rfl aq x am;refine AB 1 rfl<|AD 2 rfl<|C9 rfl (fun p=>?_) (fun p=>?_)
 ·have h:=A2 p h
  cases h
 have h:=A1 p h;refine Av<|Ao<|Bl 1 rfl ?_;obtain⟨z,h⟩:=Ac h;refine Af (AK rfl rfl rfl z) rfl<|AB 1 rfl<|Bm (σ:=Unit) (fun(_:Unit)=>[(7,(Aam u)),(9,No (a1+(1:Int)))]) (fun(_:Unit) wr=>AR w [.box u [No (0:Int),No (0:Int)] 28,.box b1 [No a0.f.1,No a0.f.2.1,c,d,b] 64] wr∧(Gs a1)=some r) ?_ ?_
 ·refine Al<|Af (Ag rfl AaU rfl VG (by decide)) rfl<|Af (Ah 1 rfl Abo rfl x rfl rfl) rfl<|Af (Bn rfl Abo e) rfl<|AB 1 rfl<|A4 ?_;obtain⟨y,h⟩:=Bb h;refine Bu (σ:=Int×Nat) (fun⟨a,n⟩=>[(7,(Aam u)),(9,No (a1+(1:Int))),(31,b),(32,No (a0.f.2.2.2.2.length:Int)),(33,No a)]) (fun⟨a,n⟩ wr=>AR w [.box u [No (0:Int),No (0:Int)] 28,.box b1 [No a0.f.1,No a0.f.2.1,c,d,b] 64] wr∧FM (FX a0 a1) n a=some r) (fun⟨a,n⟩=>n) ((0:Int),y) (.cons rfl (.cons rfl (.cons rfl (.cons rfl (.cons rfl (Sub.nil _)))))) ⟨x,h⟩ ?_;rintro⟨a,nn41⟩ an ⟨g,h⟩;obtain⟨y,ar,rfl,h,aa⟩:=Ba h;refine AD 1 rfl<|A8<|Bg rfl (fun j=>?_) (fun j=>?_)
  ·have h:=A1 j h;refine Av<|Ao<|A8<|A4<|Al ?_;obtain⟨q,h⟩:=Ac h;refine Be rfl rfl Abo GL e a.toNat (Int.toNat_of_nonneg q.1).symm (AZ q) rfl ?_;rintro au _ e45t0 ab;obtain⟨_,_,rfl,rfl,⟨_,_,rfl,rfl,⟨_,_,rfl,⟨e45v2,rfl,e45h2⟩,⟨_,_,rfl,⟨e45v3,rfl,e45h3⟩,⟨e45v4,rfl,e45h4⟩⟩⟩⟩⟩:=Go.E.Rp.NF e45t0;refine Af (Cd rfl AaU rfl GL ab (hH.trans g.arg)) rfl<|AJ GL rfl rfl g fun av aw ac ah _=>Ak 0 rfl rfl rfl GL ac rfl rfl (AF rfl (AF rfl (AF e45h2.one (AF e45h3.one (AF e45h4.one BM))))) fun ax ao ai=>Ad ?_
   cases h
  have h:=A2 j h;refine Bq<|AH<|A6 ?_;have h:=BF.out h aa;refine Bf<|A9 () (.cons rfl (.cons rfl (Sub.nil _))) ⟨g,h⟩
 rintro _ ap ⟨ad,h⟩;refine Bl 1 rfl<|Af (AW rfl (fun _=>BL _)) rfl<|Ar 1 rfl<|Ak 0 rfl rfl rfl AT ad rfl rfl (AF rfl (AF rfl BM)) fun ay s aj=>Ad<|Az ?_;obtain rfl:=Option.some.inj h;refine Cm rfl (.tmp rfl) (.cell rfl AaR rfl AT (AS (i:=0) s rfl)) ?_;exact⟨s.ext,rfl⟩
theorem P6(n:Nat):∀ (w:World) (H:PH) (hH:Le H (hp w)) {a0:Go.L.Pv} {a1:Int} {a2:Int} {a:Value} {b:Value} {c:Value} (d:AI .byte H a (a0.f.2.2.1)) (e:AI .st H b (a0.f.2.2.2.1)) (g:AI .tree H c (a0.f.2.2.2.2)) {r:Int×(Int×Int)} (h:Hw n a0 a1 a2=some r),Ok Tryz.prog 125 [.agg #[No a0.f.1,No a0.f.2.1,a,b,c],No a1,No a2] w (fun v w'=>Ext w w'∧v=.tuple #[No r.1,.agg #[No r.2.1,No r.2.2]]):=by
 induction n with
 | zero=>intros;rename_i h;cases h
 | succ n ih=>exact @NT (Hw n) ih
theorem Rs(w:World)(H:PH)(hH:Le H (hp w)){a0:Go.L.Pv}{a1:Int}{a2:Int}{a:Value}{b:Value}{c:Value}(d:AI .byte H a (a0.f.2.2.1))(e:AI .st H b (a0.f.2.2.2.1))(g:AI .tree H c (a0.f.2.2.2.2)){r:Int×(Int×Int)}(h:Lw a0 a1 a2=some r):Ok Tryz.prog 125 [.agg #[No a0.f.1,No a0.f.2.1,a,b,c],No a1,No a2] w (fun v w'=>Ext w w'∧v=.tuple #[No r.1,.agg #[No r.2.1,No r.2.2]]):=P6 1000 w H hH d e g h
def J1(a0:Int):Option (Aas):=
 AY (Go.E.JE 1 (([]:Aas).length+([(Go.L.u8 (((IntKind.u64.wrap ((IntKind.u64.wrap a0) * 2)).toNat ^^^ (IntKind.u64.wrap (a0 / 9223372036854775808)).toNat:Nat):Int))]).length)) (some ((([]:Aas)++[(Go.L.u8 (((IntKind.u64.wrap ((IntKind.u64.wrap a0) * 2)).toNat ^^^ (IntKind.u64.wrap (a0 / 9223372036854775808)).toNat:Nat):Int))])))
def IP(a0:Int):Unit→Option ((Unit) ⊕ (Aas)):=fun _=>
 if(128:Int)≤(((IntKind.u64.wrap ((IntKind.u64.wrap a0) * 2)).toNat ^^^ (IntKind.u64.wrap (a0 / 9223372036854775808)).toNat:Nat):Int) then none else Option.map Sum.inr ((J1 a0))
def KS(a0:Int)(s:Unit):Option (Aas):=Go.L.run (IP a0) s
def DI(a0:Int):Option (Aas):=
 AY ((0≤(IntKind.u64.wrap ((IntKind.u64.wrap a0) * 2))∧(IntKind.u64.wrap ((IntKind.u64.wrap a0) * 2))<2 ^ 64)∧(0≤(IntKind.u64.wrap (a0 / 9223372036854775808))∧(IntKind.u64.wrap (a0 / 9223372036854775808))<2 ^ 64)) ((KS a0) ())
theorem BC(w:World)(H:PH)(hH:Le H (hp w)){a0:Int}{r:Aas}(h:DI a0=some r):
  Ok Tryz.prog 177 [No a0] w (fun v w'=>Ext w w'∧∃ s,v=s∧Co 5 .byte H w w' s (r)):=by
 refine A5 (n:=27) [(0,No a0)] func177 rfl rfl rfl rfl rfl ?_;have hL:=AR.start w;refine AD 1 rfl<|Bl 1 rfl<|Af (ES Aau Abb rfl rfl) rfl<|Af (Zz (c:=1) (m:=2) rfl rfl rfl (by decide) rfl) rfl<|Ar 1 rfl<|Af (RW (c:=63) (m:=9223372036854775808) rfl rfl rfl (by decide)) rfl<|Af (ES Aau Abb rfl rfl) rfl ?_;obtain⟨t,h⟩:=Ac h;refine Af (Aaa rfl rfl rfl t) rfl<|AB 1 rfl<|Bl 1 rfl ?_;obtain⟨u,z,x⟩:=Ck .byte H 5 hL;refine Ad<|Bm (σ:=Unit) (fun(_:Unit)=>[(3,.int .u64 (((IntKind.u64.wrap ((IntKind.u64.wrap a0) * 2)).toNat ^^^ (IntKind.u64.wrap (a0 / 9223372036854775808)).toNat:Nat):Int)),(4,Aak)]) (fun(_:Unit) wr=>DM w [.row (Aak) 5 1 (([]:Aas)).length ([])] wr fun Oz=>AM .byte (gz H w wr Oz) (([]:Aas)) ([])∧(J1 a0)=some r) ?_ ?_
 ·refine A4 ?_;obtain⟨e,h⟩:=Bb h;refine Bu (σ:=Nat) (fun n=>[(3,.int .u64 (((IntKind.u64.wrap ((IntKind.u64.wrap a0) * 2)).toNat ^^^ (IntKind.u64.wrap (a0 / 9223372036854775808)).toNat:Nat):Int)),(4,Aak)]) (fun n wr=>DM w [.row (Aak) 5 1 (([]:Aas)).length ([])] wr fun Oz=>AM .byte (gz H w wr Oz) (([]:Aas)) ([])∧FM (IP a0) n ()=some r) (fun n=>n) e (.cons rfl (.cons rfl (Sub.nil _))) ⟨u,x,h⟩ ?_;rintro nn18 aa ⟨f,he18_r2,h⟩;obtain⟨e,ae,rfl,h,g⟩:=Ba h;refine A8<|AD 2 rfl<|Bg rfl (fun a=>?_) (fun a=>?_)
  ·have h:=A1 a h;refine Av<|Ao ?_
   cases h
  have h:=A2 a h;refine Bq<|AH<|A6 ?_;have h:=BF.out h g;refine Bf<|A9 () (.cons rfl (.cons rfl (Sub.nil _))) ⟨f,he18_r2,h⟩
 rintro _ ab ⟨j,he12_r2,h⟩;refine Bl 2 rfl<|Af (ES Abb AaS rfl (HO _)) rfl<|Br (r:=.byte) (l:=[(Go.L.u8 (((IntKind.u64.wrap ((IntKind.u64.wrap a0) * 2)).toNat ^^^ (IntKind.u64.wrap (a0 / 9223372036854775808)).toNat:Nat):Int))]) rfl (fun _=>Ie _ _) rfl (show 1≤9223372036854775807 by decide) hH j (.c1 rfl .nil) ?_;intro af ag ac k d o;obtain⟨p,h⟩:=Ac h;have he12_r2:=he12_r2.mono (Ab hH d);refine Bo (r:=.byte) (l:=([]:Aas)) (m:=[(Go.L.u8 (((IntKind.u64.wrap ((IntKind.u64.wrap a0) * 2)).toNat ^^^ (IntKind.u64.wrap (a0 / 9223372036854775808)).toNat:Nat):Int))]) 0 rfl rfl AaQ Lj rfl (by decide) rfl hH k rfl he12_r2 o p fun ah ai ad b y q=>AB 1 rfl<|Az ?_;obtain rfl:=Option.some.inj h;refine An rfl rfl ?_;exact⟨b.ext,_,rfl,(b.Gp hH (i:=0) rfl q)⟩
def KT(a0:Aas):Option (Aas):=
 Option.bind (DI (a0.length:Int)) (fun a=>AY (Go.E.JE 1 (a.length+a0.length)) (some ((a++a0))))
theorem Fp(w:World)(H:PH)(hH:Le H (hp w)){a0:Aas}{a:Value}(b:AI .byte H a (a0)){r:Aas}(h:KT a0=some r):
  Ok Tryz.prog 178 [a] w (fun v w'=>Ext w w'∧∃ g,v=g∧Co 5 .byte H w w' g (r)):=by
 refine A5 (n:=8) [(0,a)] func178 rfl rfl rfl rfl rfl ?_;have hL:=AR.start w;refine AD 1 rfl<|Bl 1 rfl<|Af (Bn rfl AaQ b) rfl ?_;obtain⟨s,j,h⟩:=Go.L.bind_some h;refine Ax rfl rfl hL (BC _ _ (As hH hL) j) ?_;rintro t z ⟨_,rfl,c⟩ k d f;obtain⟨x,d,f,o⟩:=c.take hH hL k;refine Ar 1 rfl ?_;obtain⟨p,h⟩:=Ac h;refine Bo (r:=.byte) (l:=s) (m:=a0) 0 rfl rfl AaQ Lj rfl (by decide) rfl hH d rfl o (b.mono (Ai hH)) p fun v3 w3 y e u q=>AB 1 rfl<|Az ?_;obtain rfl:=Option.some.inj h;refine An rfl rfl ?_;exact⟨e.ext,_,rfl,(e.Gp hH (i:=0) rfl q)⟩
def FY(_self:Go.L.Pv→Option (Aas))(a0:Go.L.Pv):Option (Aas):=
 Option.bind (DI a0.f.1) (fun a=>if a0.f.1=(1:Int) then Option.bind (DI a0.f.2.1) (fun b=>AY (Go.E.JE 1 (a.length+b.length)) (some ((a++b)))) else(if a0.f.1=(2:Int) then none else none))
def G9:Nat→Go.L.Pv→Option (Aas)
 | 0=>fun _=>none
 | n+1=>FY (G9 n)
def K5:Go.L.Pv→Option (Aas):=G9 1000
theorem Nr(self:Go.L.Pv→Option (Aas))(_hself:∀ (w:World) (H:PH) (hH:Le H (hp w)) {a0:Go.L.Pv} {a:Value} {b:Value} {c:Value} (_h0_0:AI .byte H a (a0.f.2.2.1)) (_h0_1:AI .st H b (a0.f.2.2.2.1)) (_h0_2:AI .tree H c (a0.f.2.2.2.2)) {r:Aas} (h:self a0=some r),Ok Tryz.prog 126 [.agg #[No a0.f.1,No a0.f.2.1,a,b,c]] w (fun v w'=>Ext w w'∧∃ j,v=j∧Co 5 .byte H w w' j (r)))(w:World)(H:PH)(hH:Le H (hp w)){a0:Go.L.Pv}{a:Value}{b:Value}{c:Value}(_h0_0:AI .byte H a (a0.f.2.2.1))(_h0_1:AI .st H b (a0.f.2.2.2.1))(_h0_2:AI .tree H c (a0.f.2.2.2.2)){r:Aas}(h:FY self a0=some r):
  Ok Tryz.prog 126 [.agg #[No a0.f.1,No a0.f.2.1,a,b,c]] w (fun v w'=>Ext w w'∧∃ j,v=j∧Co 5 .byte H w w' j (r)):=by
 refine A5 (n:=57) [(0,.agg #[No a0.f.1,No a0.f.2.1,a,b,c])] func126 rfl rfl rfl rfl rfl ?_;have hL:=AR.start w;refine Al<|Cv (t:=64) rfl rfl rfl hL fun w1 b1 g ag _=>AB 1 rfl<|Al<|Af (Ag rfl AaU rfl BG (by decide)) rfl<|Af (Ah 0 rfl Aau rfl g rfl rfl) rfl ?_;obtain⟨x2,z,h⟩:=Go.L.bind_some h;refine Ax rfl rfl g (BC _ _ (As hH g) z) ?_;rintro ai w3 ⟨_,rfl,p⟩ aa d x;obtain⟨am,d,x,k⟩:=p.take hH g aa;refine AB 1 rfl<|A8<|Al<|Af (Ag rfl AaU rfl BG (by decide)) rfl<|Af (Ah 1 rfl Aau rfl d rfl rfl) rfl<|Ad<|A4<|AD 2 rfl<|Bg rfl (fun o=>?_) (fun o=>?_)
 ·have h:=A1 o h;refine Bl 1 rfl<|Af (Ag rfl AaU rfl BG (by decide)) rfl<|Af (Ah 1 rfl Aau rfl d rfl rfl) rfl ?_;obtain⟨x6,ab,h⟩:=Go.L.bind_some h;refine Ax rfl rfl d (BC _ _ (As hH d) ab) ?_;rintro ak w7 ⟨_,rfl,q⟩ ac ad y;have s:=q.Ct hH d ac;obtain⟨ae,h⟩:=Ac h;have k:=k.mono (Ab hH y);refine Bo (r:=.byte) (l:=x2) (m:=x6) 0 rfl rfl AaQ Lj rfl (by decide) rfl hH ad rfl k s ae fun v8 w8 an u al af=>AB 1 rfl<|Az<|Ay<|Au ?_;obtain rfl:=Option.some.inj h;refine An rfl rfl ?_;exact⟨u.ext,_,rfl,(u.Gp hH (i:=0) rfl af)⟩
 have h:=A2 o h;refine AD 2 rfl<|Bg rfl (fun e=>?_) (fun e=>?_)
 ·have h:=A1 e h
  cases h
 have h:=A2 e h;refine Av<|AA<|Ao ?_
 cases h
theorem OP(n:Nat):∀ (w:World) (H:PH) (hH:Le H (hp w)) {a0:Go.L.Pv} {a:Value} {b:Value} {c:Value} (e:AI .byte H a (a0.f.2.2.1)) (g:AI .st H b (a0.f.2.2.2.1)) (i:AI .tree H c (a0.f.2.2.2.2)) {r:Aas} (h:G9 n a0=some r),Ok Tryz.prog 126 [.agg #[No a0.f.1,No a0.f.2.1,a,b,c]] w (fun v w'=>Ext w w'∧∃ d,v=d∧Co 5 .byte H w w' d (r)):=by
 induction n with
 | zero=>intros;rename_i h;cases h
 | succ n ih=>exact @Nr (G9 n) ih
theorem Qk(w:World)(H:PH)(hH:Le H (hp w)){a0:Go.L.Pv}{a:Value}{b:Value}{c:Value}(d:AI .byte H a (a0.f.2.2.1))(e:AI .st H b (a0.f.2.2.2.1))(g:AI .tree H c (a0.f.2.2.2.2)){r:Aas}(h:K5 a0=some r):Ok Tryz.prog 126 [.agg #[No a0.f.1,No a0.f.2.1,a,b,c]] w (fun v w'=>Ext w w'∧∃ i,v=i∧Co 5 .byte H w w' i (r)):=OP 1000 w H hH d e g h
def K6(a0:Go.L.Pv):Option (Aas×(Int×Int)):=
 Option.bind (Lw a0 (0:Int) (1:Int)) (fun b=>if b.2.1=(0:Int)∧b.2.2=(0:Int) then Option.bind (K5 a0) (fun a=>if(4000:Int)<(a.length:Int) then none else some (a,((0:Int),(0:Int)))) else none)
theorem Ql(w:World)(H:PH)(hH:Le H (hp w)){a0:Go.L.Pv}{b:Value}{c:Value}{d:Value}(l:AI .byte H b (a0.f.2.2.1))(m:AI .st H c (a0.f.2.2.2.1))(o:AI .tree H d (a0.f.2.2.2.2)){r:Aas×(Int×Int)}(h:K6 a0=some r):
  Ok Tryz.prog 77 [.agg #[No a0.f.1,No a0.f.2.1,b,c,d]] w (fun v w'=>Ext w w'∧∃ u0,v=.tuple #[u0,.agg #[No r.2.1,No r.2.2]]∧Co 5 .byte H w w' u0 (r.1)):=by
 refine A5 (n:=24) [(0,.agg #[No a0.f.1,No a0.f.2.1,b,c,d])] func77 rfl rfl rfl rfl rfl ?_;have hL:=AR.start w;refine Al<|Cv (t:=64) rfl rfl rfl hL fun w1 b1 ab ag _=>Ar 1 rfl<|AJ AT rfl rfl ab fun w2 b2 p ah _=>Ad<|A8<|Al<|Af (AE 1 rfl AaU rfl GL p rfl) rfl ?_;obtain⟨x3,ac,h⟩:=Go.L.bind_some h;refine Ax rfl rfl p (Rs (a0:=a0) _ _ (As hH p) (l.mono (Ai hH)) (m.mono (Ai hH)) (o.mono (Ai hH)) ac) ?_;rintro _ w4 rfl am ad ai;refine Ar 3 rfl<|AJ AT rfl rfl ad fun w5 b5 ae aj _=>Ar 1 rfl<|Ak 0 rfl rfl rfl AT ae rfl rfl (AF rfl (AF rfl BM)) fun w6 a ak=>Ad<|Al<|Af (AE 0 rfl AaR rfl AT a rfl) rfl<|Af (AW rfl (fun _=>BL _)) rfl<|Af (Kv rfl rfl IC (LA _ _ _ _)) rfl<|Ad<|C9 rfl (fun q=>?_) (fun q=>?_)
 ·have h:=A2 q h
  cases h
 have h:=A1 q h;refine Av<|Ao<|Al<|Af (AE 2 rfl AaU rfl GL a rfl) rfl ?_;obtain⟨an,y,h⟩:=Go.L.bind_some h;refine Ax rfl rfl a (Qk (a0:=a0) _ _ (As hH a) (l.mono (Ai hH)) (m.mono (Ai hH)) (o.mono (Ai hH)) y) ?_;rintro af ao ⟨_,rfl,s⟩ z e u;obtain⟨al,e,u,g⟩:=s.take hH a z;refine AB 1 rfl<|A8<|Bl 1 rfl<|Af (Po (i:=0) rfl AaQ e rfl) rfl<|AB 1 rfl<|Bg rfl (fun j=>?_) (fun j=>?_)
 ·have h:=A1 j h
  cases h
 have h:=A2 j h;refine Av<|Ao<|Bl 1 rfl<|Af (AW rfl (fun _=>BL _)) rfl<|Ar 1 rfl<|Ak 2 rfl rfl rfl AT e rfl rfl (AF rfl (AF rfl BM)) fun ap k x=>Ad<|Az ?_;obtain rfl:=Option.some.inj h;refine Cm rfl (.tmp rfl) (.cell rfl AaR rfl AT (AS (i:=2) k rfl)) ?_;have g:=g.mono (Ab hH x);exact⟨k.ext,_,rfl,(k.Gp hH (i:=0) rfl g)⟩
def HV(a0:Go.L.Pv):Option ((Int×Int)):=
 Option.bind (K6 a0) (fun a=>some ((a.2.1,a.2.2)))
theorem Lx(w:World)(H:PH)(hH:Le H (hp w)){a0:Go.L.Pv}{a:Value}{b:Value}{c:Value}(j:AI .byte H a (a0.f.2.2.1))(k:AI .st H b (a0.f.2.2.2.1))(l:AI .tree H c (a0.f.2.2.2.2)){r:(Int×Int)}(h:HV a0=some r):
  Ok Tryz.prog 46 [.agg #[No a0.f.1,No a0.f.2.1,a,b,c]] w (fun v w'=>Ext w w'∧v=.agg #[No r.1,No r.2]):=by
 refine A5 (n:=11) [(0,.agg #[No a0.f.1,No a0.f.2.1,a,b,c])] func46 rfl rfl rfl rfl rfl ?_;have hL:=AR.start w;refine Al<|Cv (t:=64) rfl rfl rfl hL fun w1 b1 m u _=>AJ AT rfl rfl m fun w2 b2 d x _=>Ad<|Al<|Af (AE 1 rfl AaU rfl GL d rfl) rfl ?_;obtain⟨x3,o,h⟩:=Go.L.bind_some h;refine Ax rfl rfl d (Ql (a0:=a0) _ _ (As hH d) (j.mono (Ai hH)) (k.mono (Ai hH)) (l.mono (Ai hH)) o) ?_;rintro _ w4 ⟨y,rfl,s⟩ ad p z;refine Ar 3 rfl<|AJ AT rfl rfl p fun w5 b5 q aa _=>Ar 1 rfl<|Ak 0 rfl rfl rfl AT q rfl rfl (AF rfl (AF rfl BM)) fun w6 e ab=>Ad<|Al<|Af (AE 0 rfl AaR rfl AT e rfl) rfl<|Ak 1 rfl rfl rfl AT e rfl rfl (AF rfl (AF rfl BM)) fun w7 g ac=>Ad<|Az ?_;obtain rfl:=Option.some.inj h;refine B7 rfl (.cell rfl AaR rfl AT (AS (i:=1) g rfl)) ?_;exact⟨g.ext,rfl⟩
def EU{σ:Type}(a0:Go.L.Pv):Int×σ→Option ((Int×σ) ⊕ (σ)):=fun⟨a,sJ20⟩=>
 if a<(a0.f.2.2.2.2.length:Int) then AY (0≤a∧a<(a0.f.2.2.2.2.length:Int)) (none) else Option.map Sum.inr (some sJ20)
def H0{σ:Type}(a0:Go.L.Pv)(s:Int×σ):Option (σ):=Go.L.run (EU a0) s
def F5{σ:Type}(step:σ→(Aas×Int×Int×Aas)→Option σ)(_self:Go.L.Pv→(List Aas)→σ→Option σ)(a0:Go.L.Pv)(a1:List Aas)(s:σ):Option (σ):=
 Option.bind (PU a1 ([47]:Aas)) (fun b=>Option.bind (step s (b,a0.f.1,a0.f.2.1,a0.f.2.2.1)) (fun a=>(H0 a0) ((0:Int),a)))
def FN{σ:Type}(step:σ→(Aas×Int×Int×Aas)→Option σ):Nat→Go.L.Pv→(List Aas)→σ→Option σ
 | 0=>fun _ _ _=>none
 | n+1=>F5 step (FN step n)
def IH{σ:Type}(step:σ→(Aas×Int×Int×Aas)→Option σ):Go.L.Pv→(List Aas)→σ→Option σ:=FN step 1000
theorem Ns{σ:Type}{a:World}{H:PH}(hH:Le H (hp a)){fc:FuncId}{cap:List Value}{J:σ→List AN→PH→Prop}{step:σ→(Aas×Int×Int×Aas)→Option σ}(hcb:Cb Tryz.prog a H fc cap J step){self:Go.L.Pv→(List Aas)→σ→Option σ}(_hself:∀ {w:World} {O R:List AN} {s:σ} {a0:Go.L.Pv} {a1:List Aas} {va0_2:Value} {va0_3:Value} {va0_4:Value} {va1:Value} (hL:AR a (HAppend.hAppend O R) w) (e:AI .byte (gz H a w (HAppend.hAppend O R)) va0_2 (a0.f.2.2.1)) (u:AI .st (gz H a w (HAppend.hAppend O R)) va0_3 (a0.f.2.2.2.1)) (g:AI .tree (gz H a w (HAppend.hAppend O R)) va0_4 (a0.f.2.2.2.2)) (ae:AI .st (gz H a w (HAppend.hAppend O R)) va1 (a1)) (hJ:J s R (gz H a w (HAppend.hAppend O R))) {r:σ} (h:self a0 a1 s=some r),Ok Tryz.prog 82 [.agg #[No a0.f.1,No a0.f.2.1,va0_2,va0_3,va0_4],va1,.func (.func fc) #[] cap.toArray] w (fun v w'=>v=.tuple #[]∧∃ R':List AN,AR a (HAppend.hAppend O R') w'∧Le (fz w (HAppend.hAppend O R)) (fz w' (HAppend.hAppend O R'))∧J r R' (gz H a w' (HAppend.hAppend O R')))){w:World}{O R:List AN}{s:σ}{a0:Go.L.Pv}{a1:List Aas}{va0_2:Value}{va0_3:Value}{va0_4:Value}{va1:Value}(hL:AR a (HAppend.hAppend O R) w)(e:AI .byte (gz H a w (HAppend.hAppend O R)) va0_2 (a0.f.2.2.1))(u:AI .st (gz H a w (HAppend.hAppend O R)) va0_3 (a0.f.2.2.2.1))(g:AI .tree (gz H a w (HAppend.hAppend O R)) va0_4 (a0.f.2.2.2.2))(ae:AI .st (gz H a w (HAppend.hAppend O R)) va1 (a1))(hJ:J s R (gz H a w (HAppend.hAppend O R))){r:σ}(h:F5 step self a0 a1 s=some r):
  Ok Tryz.prog 82 [.agg #[No a0.f.1,No a0.f.2.1,va0_2,va0_3,va0_4],va1,.func (.func fc) #[] cap.toArray] w (fun v w'=>v=.tuple #[]∧∃ R':List AN,AR a (HAppend.hAppend O R') w'∧Le (fz w (HAppend.hAppend O R)) (fz w' (HAppend.hAppend O R'))∧J r R' (gz H a w' (HAppend.hAppend O R'))):=by
 refine A5 (n:=46) [(0,.agg #[No a0.f.1,No a0.f.2.1,va0_2,va0_3,va0_4]),(1,va1),(2,.func (.func fc) #[] cap.toArray)] func82 rfl rfl rfl rfl rfl ?_;have hT:=Le.refl (fz w (HAppend.hAppend O R));have c:=hL.rG H;refine Al<|Cv (t:=64) rfl rfl rfl hL ?_;intro w2 z af l _;have hJ:=hcb.mono (Ab hH l) hJ;refine Ad<|EI (.q 0 (.q 1 (.q 2 (.q 3 (.q 4 (.q 5 (.q 6 (.q 7 (.q 8 (.q 9 (.q 10 (.tail 11)))))))))))) mixed (by kernel_rfl) (fun w3 ag=>?_);have d:=af.call ag;have m:=AX af ag;have hJ:=hcb.mono (Ab hH m) hJ;refine Ds 2 rfl ?_;obtain⟨x5,ar,h⟩:=Go.L.bind_some h;have c:=c.trans (Ab hH (l.trans m));refine ER rfl rfl rfl (fun w6 au=>Tb _ _ (Le.refl _) (((ae.mono c).mono (As hH d)).mono au.le) ar)<|BE (Ag rfl AaU rfl BG (by decide)) rfl rfl<|BE (Ah 0 rfl Aau rfl d rfl rfl) rfl rfl<|BE (Ag rfl AaU rfl BG (by decide)) rfl rfl<|BE (Ah 0 rfl Aau rfl d rfl rfl) rfl rfl<|BE (Ag rfl AaU rfl Fs (by decide)) rfl rfl<|BE (Ah 0 rfl AaQ rfl d rfl rfl) rfl rfl<|BE (M9 rfl AaQ AaS AaG (e.mono c) (As hH d)) rfl rfl<|BE (AW rfl (fun _=>Rf _ rfl _ _ _ rfl _)) rfl rfl<|BW (fun w7 ah=>?_)
 have av:=d.call ah;have o:=AX d ah;have hJ:=hcb.mono (Ab hH o) hJ;obtain⟨ai,ak,h⟩:=Go.L.bind_some h;refine DZ (cap:=cap) rfl rfl rfl (hcb.ok (O:=(HAppend.hAppend ([.box z [No a0.f.1,No a0.f.2.1,va0_2,va0_3,va0_4] 64]:List AN) O)) (R:=R) (x:=(x5,a0.f.1,a0.f.2.1,a0.f.2.2.1)) av hJ ak) ?_;rintro _ w9 ⟨rfl,R9,y,j,aw⟩;replace y:AR a (HAppend.hAppend ([.box z [No a0.f.1,No a0.f.2.1,va0_2,va0_3,va0_4] 64]:List AN) (HAppend.hAppend O R9)) w9:=y;replace j:Le (fz w7 (HAppend.hAppend ([.box z [No a0.f.1,No a0.f.2.1,va0_2,va0_3,va0_4] 64]:List AN) (HAppend.hAppend O R))) (fz w9 (HAppend.hAppend ([.box z [No a0.f.1,No a0.f.2.1,va0_2,va0_3,va0_4] 64]:List AN) (HAppend.hAppend O R9))):=j;replace hJ:J ai R9 (gz H a w9 (HAppend.hAppend ([.box z [No a0.f.1,No a0.f.2.1,va0_2,va0_3,va0_4] 64]:List AN) (HAppend.hAppend O R9))):=aw;refine Ad<|Al<|Af (Ag rfl AaU rfl VG (by decide)) rfl<|Af (Ah 0 rfl Abo rfl y rfl rfl) rfl ?_;have c:=c.trans (Ab hH (o.trans j));refine Af (Bn rfl Abo (g.mono c)) rfl<|AB 1 rfl<|A4 ?_;obtain⟨aj,h⟩:=Bb h;have hT:=hT.trans (l.trans (m.trans (o.trans j)))
 refine Bu (σ:=Int×σ×(List AN)×Nat) (fun⟨b,sJ20,RJ20,n⟩=>[(22,va0_4),(23,No (a0.f.2.2.2.2.length:Int)),(24,No b)]) (fun⟨b,sJ20,RJ20,n⟩ wr=>DM a (HAppend.hAppend ([.box z [No a0.f.1,No a0.f.2.1,va0_2,va0_3,va0_4] 64]:List AN) (HAppend.hAppend O RJ20)) wr fun Oz=>AI .tree (gz H a wr Oz) (va0_4) (a0.f.2.2.2.2)∧AI .byte (gz H a wr Oz) (va0_2) (a0.f.2.2.1)∧AI .st (gz H a wr Oz) (va0_3) (a0.f.2.2.2.1)∧Le (fz w (HAppend.hAppend O R)) (fz wr Oz)∧J sJ20 RJ20 (gz H a wr Oz)∧FM (EU a0) n (b,sJ20)=some r) (fun⟨b,sJ20,RJ20,n⟩=>n) ((0:Int),ai,R9,aj) (.cons rfl (.cons rfl (.cons rfl (Sub.nil _)))) ⟨y,(g.mono c),(e.mono c),(u.mono c),hT,hJ,h⟩ ?_;rintro⟨b,sJ20,RJ20,nn20⟩ a3 ⟨k,aa,ax,ay,hT,hJ,h⟩;obtain⟨aj,a5,rfl,h,am⟩:=Ba h;have an:=k.rG H;refine AD 1 rfl<|A8<|Bg rfl (fun p=>?_) (fun p=>?_)
 ·have h:=A1 p h;refine Av<|Ao<|A8<|A4<|Bl 1 rfl ?_;obtain⟨ab,h⟩:=Ac h;refine Be rfl rfl Abo GL (aa.mono an) b.toNat (Int.toNat_of_nonneg ab.1).symm (AZ ab) rfl ?_;rintro a6 _ e25t0 ao;obtain⟨_,_,rfl,rfl,⟨_,_,rfl,rfl,⟨_,_,rfl,⟨e25v2,rfl,e25h2⟩,⟨_,_,rfl,⟨e25v3,rfl,e25h3⟩,⟨e25v4,rfl,e25h4⟩⟩⟩⟩⟩:=Go.E.Rp.NF e25t0;refine Af (Cd rfl AaU rfl GL ao (As hH k)) rfl<|AJ GL rfl rfl k ?_;intro a7 a8 ap ac _;have hJ:=hcb.mono (Ab hH ac) hJ;refine Ar 1 rfl<|Ak 0 rfl rfl rfl GL ap rfl rfl (AF rfl (AF rfl (AF e25h2.one (AF e25h3.one (AF e25h4.one BM))))) ?_;intro a9 a4 ad;have hJ:=hcb.mono (Ab hH ad) hJ;refine Ad ?_
  cases h
 have h:=A2 p h;refine Bq<|AH<|A6 ?_;have h:=BF.out h am;refine Bf ?_;obtain rfl:=Option.some.inj h;refine Ju rfl ?_;have aq:=k.AP (i:=0) rfl;have hJ:=hcb.mono (Ab hH (Am (i:=0) rfl)) hJ;have hT:=hT.trans (Am (i:=0) rfl);exact⟨rfl,RJ20,aq,hT,hJ⟩
theorem OQ{σ:Type}{a:World}{H:PH}(hH:Le H (hp a)){fc:FuncId}{cap:List Value}{J:σ→List AN→PH→Prop}{step:σ→(Aas×Int×Int×Aas)→Option σ}(hcb:Cb Tryz.prog a H fc cap J step)(n:Nat):∀ {w:World} {O R:List AN} {s:σ} {a0:Go.L.Pv} {a1:List Aas} {va0_2:Value} {va0_3:Value} {va0_4:Value} {va1:Value} (hL:AR a (HAppend.hAppend O R) w) (b:AI .byte (gz H a w (HAppend.hAppend O R)) va0_2 (a0.f.2.2.1)) (c:AI .st (gz H a w (HAppend.hAppend O R)) va0_3 (a0.f.2.2.2.1)) (d:AI .tree (gz H a w (HAppend.hAppend O R)) va0_4 (a0.f.2.2.2.2)) (e:AI .st (gz H a w (HAppend.hAppend O R)) va1 (a1)) (hJ:J s R (gz H a w (HAppend.hAppend O R))) {r:σ} (h:FN step n a0 a1 s=some r),Ok Tryz.prog 82 [.agg #[No a0.f.1,No a0.f.2.1,va0_2,va0_3,va0_4],va1,.func (.func fc) #[] cap.toArray] w (fun v w'=>v=.tuple #[]∧∃ R':List AN,AR a (HAppend.hAppend O R') w'∧Le (fz w (HAppend.hAppend O R)) (fz w' (HAppend.hAppend O R'))∧J r R' (gz H a w' (HAppend.hAppend O R'))):=by
 induction n with
 | zero=>intros;rename_i h;cases h
 | succ n ih=>exact fun {_} {_} {_} {_} {_} {_} {_} {_} {_} {_} hL b c d e hJ {_} h=>Ns hH hcb (self:=FN step n) ih hL b c d e hJ h
theorem Qm{σ:Type}{a:World}{H:PH}(hH:Le H (hp a)){fc:FuncId}{cap:List Value}{J:σ→List AN→PH→Prop}{step:σ→(Aas×Int×Int×Aas)→Option σ}(hcb:Cb Tryz.prog a H fc cap J step){w:World}{O R:List AN}{s:σ}{a0:Go.L.Pv}{a1:List Aas}{va0_2:Value}{va0_3:Value}{va0_4:Value}{va1:Value}(hL:AR a (HAppend.hAppend O R) w)(b:AI .byte (gz H a w (HAppend.hAppend O R)) va0_2 (a0.f.2.2.1))(c:AI .st (gz H a w (HAppend.hAppend O R)) va0_3 (a0.f.2.2.2.1))(d:AI .tree (gz H a w (HAppend.hAppend O R)) va0_4 (a0.f.2.2.2.2))(e:AI .st (gz H a w (HAppend.hAppend O R)) va1 (a1))(hJ:J s R (gz H a w (HAppend.hAppend O R))){r:σ}(h:IH step a0 a1 s=some r):Ok Tryz.prog 82 [.agg #[No a0.f.1,No a0.f.2.1,va0_2,va0_3,va0_4],va1,.func (.func fc) #[] cap.toArray] w (fun v w'=>v=.tuple #[]∧∃ R':List AN,AR a (HAppend.hAppend O R') w'∧Le (fz w (HAppend.hAppend O R)) (fz w' (HAppend.hAppend O R'))∧J r R' (gz H a w' (HAppend.hAppend O R'))):=OQ hH hcb 1000 hL b c d e hJ h
end Go.Proofs.YtekmbcbgknmhiaaGreatDoor
end
noncomputable section
namespace Go.E
open Go Go.RowKit Go.Sort Go.Proofs Go.Shelf
theorem TZ[Dr]{w w':World}(hd:Dr.on=true)(h:Ext w w'):∃ q os,w'=grow (w.drewN q) os:=by
 refine⟨w'.drawn - w.drawn,w'.heap.extract w.heap.size w'.heap.size,?_⟩;have hd:=h.drawn hd
 have hh:w.heap++w'.heap.extract w.heap.size w'.heap.size=w'.heap:=by
  apply Array.ext_getElem?;intro k
  rcases Nat.lt_or_ge k w.heap.size with hk | hk
  ·rw [Array.getElem?_append_left hk,h.block k hk]
  ·rw [Array.getElem?_append_right hk,Array.getElem?_extract];have:=h.size
   split
   ·congr 1;omega
   ·rw [Array.getElem?_eq_none (by omega)]
 obtain⟨heap,tape,drawn,os,output⟩:=w;obtain⟨heap',tape',drawn',os',output'⟩:=w';have a:=h.os;have h2:=h.tape;have h3:=h.output;simp only at a h2 h3 hd hh;subst a;subst h2;subst h3;simp only [grow,World.drewN,World.mk.injEq,and_true,true_and];exact⟨hh.symm,by omega⟩
section
variable {α:Type} [Inhabited α]
theorem KU(enc:α→Value)(w:World)(g m:Nat)(d:Array α)(os:Array Obj)(k:Nat)(hk:k<w.heap.size):(sortWorld enc w g 0 m d os).heap[k]? = if k=g then(w.heap[k]?).map (onCells (putCells enc 0 d)) else w.heap[k]?:=by
 unfold sortWorld grow putRow mapBlock Sort.ahead;simp only;rw [Array.getElem?_append_left (by simpa using hk),Array.getElem?_modify]
 by_cases h:g=k
 ·subst h;simp
 ·rw [if_neg h,if_neg (fun e=>h e.symm)]
theorem MF(enc:α→Value)(w:World)(g m:Nat)(d:Array α)(os:Array Obj):w.grownBy (sortWorld enc w g 0 m d os) (some g):=
 ⟨rfl,rfl,rfl,by simp [sortWorld,grow,putRow,mapBlock,Sort.ahead],fun k hk hne=>by rw [KU enc w g m d os k hk,if_neg (fun e=>hne (by rw [e]))]⟩
theorem RP(enc:α→Value)(d:Array α)(c:Array Value)(h:d.size≤c.size):(putCells enc 0 d c).toList.take d.size=d.toList.map enc:=by
 apply List.ext_getElem?;intro k;rw [List.getElem?_take]
 by_cases hk:k<d.size
 ·rw [if_pos hk];have hkc:k<c.size:=by omega
  simp [putCells,hk,hkc]
 ·rw [if_neg hk,List.getElem?_eq_none (by simp;omega)]
theorem Vy{enc:α→Value}{w:World}{e:TypeId}{g cap n sz m:Nat}{xs:List Value}{d:Array α}{os:Array Obj}(ho:w.ownsRow 0 e sz (.slice (some ⟨g,0,none⟩) n cap) n xs)(hl:d.size=xs.length):
  (sortWorld enc w g 0 m d os).ownsRow 0 e sz (.slice (some ⟨g,0,none⟩) n cap) n (d.toList.map enc):=by
 obtain⟨a,h2⟩:=ho;refine⟨by simp;omega,?_⟩
 rcases h2 with ⟨hc,_⟩ | ⟨g',cap',cur,hv,hb,hg,hnc,hcm,hcs,htake⟩
 ·cases hc
 ·cases hv
  have hgl:=lt_of_heap hg;have hle:n * sz≤cap * sz:=Nat.mul_le_mul_right _ hnc;refine .inr ⟨g,cap,putCells enc 0 d cur,rfl,hb,?_,hnc,hcm,by simp [putCells,hcs],?_⟩
  ·rw [KU enc w g m _ os g hgl,if_pos rfl,hg]
   rfl
  ·have:=RP enc d cur (by omega);rw [show n * sz=d.size by omega];exact this
theorem NO{enc:α→Value}{w:World}{e:TypeId}{g cap n sz:Nat}{xs:List Value}{d:Array α}(ho:w.ownsRow 0 e sz (.slice (some ⟨g,0,none⟩) n cap) n xs)(hd:d.toList.map enc=xs):Holds enc w g 0 d∧g<w.heap.size:=by
 obtain⟨b,h2⟩:=ho;have hsz:d.size=xs.length:=by rw [← hd];simp
 rcases h2 with ⟨hc,_⟩ | ⟨g',cap',cur,hv,hb,hg,hnc,hcm,hcs,htake⟩
 ·cases hc
 ·cases hv
  have hle:n * sz≤cap * sz:=Nat.mul_le_mul_right _ hnc;refine⟨fun j hj=>?_,lt_of_heap hg⟩
  constructor
  ·have a:xs[j]? = some (enc d[j]!):=by rw [← hd];simp [hj]
   have:cur.toList[j]? = some (enc d[j]!):=by
    rw [← htake,List.getElem?_take,if_pos (by omega)] at a;exact a
   simp only [World.cell?,hg,Nat.zero_add]
   simpa using this
  ·simp [World.frozen?,hg]
end
theorem Ze{w:World}{e:TypeId}{g cap n q:Nat}{xs:List Value}(ho:w.ownsRow 0 e 1 (.slice (some ⟨g,0,none⟩) n cap) n xs)(hq:q≤n):w.ownsRow 0 e 1 (.slice (some ⟨g,0,none⟩) q cap) q (xs.take q):=by
 obtain⟨a,h2⟩:=ho
 rcases h2 with ⟨hc,_⟩ | ⟨g',cap',cur,hv,hb,hg,hnc,hcm,hcs,htake⟩
 ·cases hc
 ·cases hv
  refine⟨by rw [List.length_take,a];omega,.inr ⟨g,cap,cur,rfl,hb,hg,by omega,hcm,hcs,?_⟩⟩;rw [← htake,List.take_take,Nat.mul_one,Nat.mul_one,Nat.min_eq_left hq]
section
variable {P:Program} {n:Sz} {ops:Array Oper} {Q:Exit→Act→World→Prop} {L:Env} {w w0:World} {O:List AN} {rest:List Oper} {d:Nat} {ty:TypeId} {pos:String} {af:Array Edge} {v:Value} {e:TypeId} {H:PH} {α β:Type} [Inhabited β] {r:Rp α}
theorem Rt[Dr]{f i sz:Nat}{at_:Array TypeId}{args:List Operand}{l l':List α}{xs ys:List Value}{dd:Array β}{enc:β→Value}{fa:List Value}(hc:HN P f)(ha:Pg L args=some (v::fa))(hn:Nat.blt d n.n=true)(hL:AR w0 O w)(hi:Dq O i=some (.row v e sz l.length xs))(hd:dd.toList.map enc=ys)(hl:l'.length=l.length)(hy:ys.length=xs.length)(hys:l.length=0→ys=xs)
  (hnil:v=.slice none 0 0→Calls P f (v::fa).toArray w fun e w'=>e=.returned (.tuple #[])∧w'=w)
  (hs:∀ g cap,v=.slice (some ⟨g,0,none⟩) l.length cap→l.length≤cap→Calls P f (v::fa).toArray w fun e w'=>e=.returned (.tuple #[])∧∃ m os,w'=sortWorld enc w g 0 m dd os)
  (h:∀ w',AR w0 (CJ O i (.row v e sz l'.length ys)) w'→Le (fz w O) (fz w' (CJ O i (.row v e sz l'.length ys)))→S P n ops Q rest ((d,.tuple #[])::L) w') :
  S P n ops Q (⟨some d,.call ⟨.value (.func f),args.toArray,at_⟩,ty,pos,af,none⟩::rest) L w:=by
 have hown:w.ownsRow 0 e sz v l.length xs:=hL.at hi;rw [hl] at h
 rcases hown.2 with ⟨hv,c⟩ | ⟨j,cap,cur,hv,k,o,hnc,_⟩
 ·refine Pk rfl fun a fr=>?_;unfold Oper.wp;rw [Js hc ha _ fr.Qa];refine(hnil hv).mono fun en w' ⟨he,hw⟩=>?_;subst he;subst hw;have hyx:=hys c;subst hyx;exact h w' (hL.L7 hi (Nat.le_refl _) (World.grownBy.refl _ _) (hL.at hi) (fun b e=>.inl e)) (Hs (r':=.row v e sz l.length ys) hL hi (World.grownBy.refl _ _) (fun b e=>.inl e)) _ (fr.put hn)
 ·refine Pk rfl fun a fr=>?_;unfold Oper.wp;rw [Js hc ha _ fr.Qa];refine(hs j cap hv hnc).mono fun en w' ⟨he,m,os,hw⟩=>?_;subst he;have hgr:=MF enc w j m dd os;rw [← hw] at hgr
  have hok:(AN.row v e sz l.length ys).ok w':=by
   rw [hw,hv,← hd];refine Vy (by rw [← hv];exact hown) ?_;have:dd.toList.length=ys.length:=by rw [← hd];simp
   simpa [hy] using this
  have hdr:w.drawn≤w'.drawn:=by rw [hw];exact Nat.le_add_right _ _
  have hgr':w.grownBy w' (AN.row v e sz l.length xs).block:=by rw [hv];exact hgr
  exact h w' (hL.L7 hi hdr hgr' hok (fun b e=>.inl e)) (Hs (r':=.row v e sz l.length ys) hL hi hgr' (fun b e=>.inl e)) _ (fr.put hn)
theorem Wh[Dr]{f i:Nat}{at_:Array TypeId}{args:List Operand}{l:List α}{l':List β}{z:β}{xs:List Value}{enc:β→Value}(hc:HN P f)(ha:Pg L args=some [v])(hn:Nat.blt d n.n=true)(hL:AR w0 O w)(hi:Dq O i=some (.row v e 1 l.length xs))(hle:l'.length≤l.length)
  (hnil:v=.slice none 0 0→Calls P f #[v] w fun e w'=>e=.returned v∧w'=w)
  (hs:∀ g cap,v=.slice (some ⟨g,0,none⟩) l.length cap→l.length≤cap→Calls P f #[v] w fun e w'=>e=.returned (.slice (some ⟨g,0,none⟩) l'.length cap)∧∃ q,w'=putRow enc (Sort.ahead w q) g 0 (l'++List.replicate (l.length - l'.length) z).toArray)
  (h:∀ v' w',AR w0 (CJ O i (.row v' e 1 l'.length (l'.map enc))) w'→Le (fz w O) (fz w' (CJ O i (.row v' e 1 l'.length (l'.map enc))))→S P n ops Q rest ((d,v')::L) w') :
  S P n ops Q (⟨some d,.call ⟨.value (.func f),args.toArray,at_⟩,ty,pos,af,none⟩::rest) L w:=by
 have hown:w.ownsRow 0 e 1 v l.length xs:=hL.at hi
 rcases hown.2 with ⟨hv,k⟩ | ⟨c,cap,cur,hv,t,u,hnc,_⟩
 ·have o:l'=[]:=List.eq_nil_of_length_eq_zero (by omega);subst o;refine Pk rfl fun a fr=>?_;unfold Oper.wp;rw [Js hc ha _ fr.Qa];refine(hnil hv).mono fun en w' ⟨he,hw⟩=>?_;subst he;subst hw;have p:xs=[]:=List.eq_nil_of_length_eq_zero (by rw [hown.1,k])
  have hok:(AN.row v e 1 ([]:List β).length (([]:List β).map enc)).ok w':=by
   have:=hL.at hi;rw [k,p] at this;exact this
  exact h v w' (hL.L7 hi (Nat.le_refl _) (World.grownBy.refl _ _) hok (fun b e=>.inl e)) (Hs (r':=.row v e 1 ([]:List β).length (([]:List β).map enc)) hL hi (World.grownBy.refl _ _) (fun b e=>.inl e)) _ (fr.put hn)
 ·refine Pk rfl fun a fr=>?_;unfold Oper.wp;rw [Js hc ha _ fr.Qa];refine(hs c cap hv hnc).mono fun en w' ⟨he,q,hw⟩=>?_;subst he;have j:w'=sortWorld enc w c 0 q (l'++List.replicate (l.length - l'.length) z).toArray #[]:=by rw [hw];unfold sortWorld;rw [grow_empty]
  have hgr:=MF enc w c q (l'++List.replicate (l.length - l'.length) z).toArray #[];rw [← j] at hgr
  have hok:(AN.row (.slice (some ⟨c,0,none⟩) l'.length cap) e 1 l'.length (l'.map enc)).ok w':=by
   have s:w'.ownsRow 0 e 1 (.slice (some ⟨c,0,none⟩) l.length cap) l.length ((l'++List.replicate (l.length - l'.length) z).map enc):=by
    have r:=Vy (enc:=enc) (m:=q) (d:=(l'++List.replicate (l.length - l'.length) z).toArray) (os:=#[]) (by rw [← hv];exact hown) (by have:=hown.1;simp;omega);rw [← j] at r
    simpa using r
   have h2:=Ze s hle
   rwa [List.map_append,List.take_left' (by simp)] at h2
  have hdr:w.drawn≤w'.drawn:=by rw [j];exact Nat.le_add_right _ _
  have hgr':w.grownBy w' (AN.row v e 1 l.length xs).block:=by rw [hv];exact hgr
  have hb:∀ b,(AN.row (.slice (some ⟨c,0,none⟩) l'.length cap) e 1 l'.length (l'.map enc)).block=some b→(AN.row v e 1 l.length xs).block=some b:=fun b e=>by rw [hv];exact e
  exact h _ w' (hL.L7 hi hdr hgr' hok (fun b e=>.inl (hb b e))) (Hs (r':=.row (.slice (some ⟨c,0,none⟩) l'.length cap) e 1 l'.length (l'.map enc)) hL hi hgr' (fun b e=>.inl (hb b e))) _ (fr.put hn)
end
theorem Ru{H:PH}{l:List Int}{xs:List Value}(h:AM (.int .i64) H l xs):l.map (Value.int .i64)=xs:=by
 induction h with
 | nil=>rfl
 | cons h _ ih=>cases h;rw [List.map_cons,ih];rfl
theorem OR(H:PH):∀ l:List Int,AM (.int .i64) H l (l.map (Value.int .i64))
 | []=>.nil
 | _::l=>.cons (c:=[_]) rfl (OR H l)
section
variable {P:Program} {n:Sz} {ops:Array Oper} {Q:Exit→Act→World→Prop} {L:Env} {w w0:World} {O:List AN} {rest:List Oper} {d:Nat} {ty:TypeId} {pos:String} {af:Array Edge} {v:Value} {e:TypeId} {H:PH} {ρr:Go.Shelf.Ren} {f i:Nat} {at_:Array TypeId} {args:List Operand} {xs:List Value}
def Abe(l:List (List UInt8)):List (List UInt8):=l.mergeSort fun x y=>decide (x≤y)
def Nt(l:List Int):List Int:=l.mergeSort fun x y=>decide (x≤y)
theorem Zf[Dr]{l:List Int}(Ls:Lays.n189 P ρr)(hf:ρr.f 189=f)(hc:HN P f)(ha:Pg L args=some [v])(hn:Nat.blt d n.n=true)(hH:Le H (hp w0))(hL:AR w0 O w)(hi:Dq O i=some (.row v e 1 l.length xs))(he:AM (.int .i64) (gz H w0 w O) l xs)(hlen:l.length<4611686018427387904)
  (h:∀ w' xs',AR w0 (CJ O i (.row v e 1 (Nt l).length xs')) w'→Le (fz w O) (fz w' (CJ O i (.row v e 1 (Nt l).length xs')))→AM (.int .i64) (gz H w0 w' (CJ O i (.row v e 1 (Nt l).length xs'))) (Nt l) xs'→S P n ops Q rest ((d,.tuple #[])::L) w') :
  S P n ops Q (⟨some d,.call ⟨.value (.func f),args.toArray,at_⟩,ty,pos,af,none⟩::rest) L w:=by
 have hxs:=Ru he;have hll:(Nt l).length=l.length:=List.length_mergeSort _;subst hf;refine Rt (l':=Nt l) (enc:=Value.int .i64) (dd:=(Nt l).toArray) (ys:=(Nt l).map (Value.int .i64)) hc ha hn hL hi (by simp) hll (by rw [← hxs];simp [hll]) (fun a=>?_) (fun hv=>?_) (fun g cap hv hcap=>?_) (fun w' b h2=>h w' _ b h2 (OR _ _))
 ·have:l=[]:=List.eq_nil_of_length_eq_zero a;subst this;rw [← hxs,show Nt []=[] from List.mergeSort_nil]
 ·subst hv;exact Any.slices_Sort_int_none Ls none 0 w
 ·have hown:w.ownsRow 0 e 1 v l.length xs:=hL.at hi;rw [hv] at hown;obtain⟨hH',hblk⟩:=NO (enc:=Value.int .i64) (d:=l.toArray) hown (by simpa using hxs);subst hv;exact Any.slices_Sort_int Ls g 0 cap l w hH' hblk hlen
theorem UC{α:Type}[Inhabited α][DecidableEq α](l:List α):(Lib.compact l).length≤l.length:=by
 unfold Lib.compact Lib.compactUpTo;rw [List.length_map];exact Nat.le_trans (List.length_filter_le _ _) (by simp)
theorem Zg[Dr]{l:List Int}(Ls:Lays2.n20 P ρr)(hf:ρr.f 20=f)(hc:HN P f)(ha:Pg L args=some [v])(hn:Nat.blt d n.n=true)(hH:Le H (hp w0))(hL:AR w0 O w)(hi:Dq O i=some (.row v e 1 l.length xs))(he:AM (.int .i64) (gz H w0 w O) l xs)(hlen:l.length≤9223372036854775807)
  (h:∀ v' w' xs',AR w0 (CJ O i (.row v' e 1 (Lib.compact l).length xs')) w'→Le (fz w O) (fz w' (CJ O i (.row v' e 1 (Lib.compact l).length xs')))→AM (.int .i64) (gz H w0 w' (CJ O i (.row v' e 1 (Lib.compact l).length xs'))) (Lib.compact l) xs'→S P n ops Q rest ((d,v')::L) w') :
  S P n ops Q (⟨some d,.call ⟨.value (.func f),args.toArray,at_⟩,ty,pos,af,none⟩::rest) L w:=by
 have hxs:=Ru he;subst hf;refine Wh (l':=Lib.compact l) (enc:=Value.int .i64) (z:=0) hc ha hn hL hi (UC l) (fun hv=>?_) (fun g cap hv hcap=>?_) (fun v' w' a h2=>h v' w' _ a h2 (OR _ _))
 ·subst hv;exact Any.slices_Compact_int_empty Ls none 0 w
 ·have hown:w.ownsRow 0 e 1 v l.length xs:=hL.at hi;rw [hv] at hown;obtain⟨hH',hblk⟩:=NO (enc:=Value.int .i64) (d:=l.toArray) hown (by simpa using hxs);subst hv;exact Any.slices_Compact_int Ls g 0 cap l w hH' hlen hcap
end
end Go.E
end
noncomputable section
namespace Go.L
theorem Rv{a b:UInt8}(c : ¬ a<b)(h2 : ¬ b<a):a=b:=UInt8.toNat.inj (by rw [UInt8.lt_iff_toNat_lt] at c h2;omega)
theorem KV:∀ l m:List UInt8,Lib.compareBytes l m = - Lib.compareBytes m l
 | [],[]=>rfl
 | [],_::_=>rfl
 | _::_,[]=>rfl
 | a::l,b::m=>by
  have ih:=KV l m;unfold Lib.compareBytes
  by_cases c:a<b
  ·have h2 : ¬ b<a:=fun h=>by have:=UInt8.lt_iff_toNat_lt.1 h;have:=UInt8.lt_iff_toNat_lt.1 c;omega
   rw [if_pos c,if_neg h2,if_pos c]
  ·by_cases h2:b<a
   ·rw [if_neg c,if_pos h2,if_pos h2];rfl
   ·rw [if_neg c,if_neg h2,if_neg h2,if_neg c,ih]
theorem Nu:∀ l m:List UInt8,Lib.compareBytes l m=0→l=m
 | [],[],_=>rfl
 | [],_::_,h=>by cases h
 | _::_,[],h=>by cases h
 | a::l,b::m,h=>by
  unfold Lib.compareBytes at h
  split at h
  ·cases h
  ·rename_i c
   split at h
   ·cases h
   ·rename_i h2;have e:a=b:=Rv c h2;rw [e,Nu l m h]
theorem Ua:∀ l:List UInt8,Lib.compareBytes l l=0
 | []=>rfl
 | a::l=>by
  have h : ¬ a<a:=fun h=>by have:=UInt8.lt_iff_toNat_lt.1 h;omega
  unfold Lib.compareBytes;rw [if_neg h,if_neg h,Ua l]
theorem Ma:∀ l m k:List UInt8,Lib.compareBytes l m<0→Lib.compareBytes m k<0→Lib.compareBytes l k<0
 | [],[],_,h,_=>by simp [Lib.compareBytes] at h
 | [],_::_,[],_,h=>by simp [Lib.compareBytes] at h
 | [],_::_,_::_,_,_=>by simp [Lib.compareBytes]
 | _::_,[],_,h,_=>by simp [Lib.compareBytes] at h
 | _::_,_::_,[],_,h=>by simp [Lib.compareBytes] at h
 | a::l,b::m,c::k,d,h2=>by
  have ih:=Ma l m k;unfold Lib.compareBytes at d h2 ⊢
  by_cases hab:a<b
  ·by_cases hbc:b<c
   ·rw [if_pos (UInt8.lt_iff_toNat_lt.2 (by have:=UInt8.lt_iff_toNat_lt.1 hab;have:=UInt8.lt_iff_toNat_lt.1 hbc;omega))];decide
   ·rw [if_neg hbc] at h2
    by_cases hcb:c<b
    ·rw [if_pos hcb] at h2;omega
    ·have e:b=c:=Rv hbc hcb;subst e;rw [if_pos hab];decide
  ·rw [if_neg hab] at d
   by_cases hba:b<a
   ·rw [if_pos hba] at d;omega
   ·rw [if_neg hba] at d;have e:a=b:=Rv hab hba;subst e
    by_cases hac:a<c
    ·rw [if_pos hac];decide
    ·rw [if_neg hac] at h2 ⊢
     by_cases hca:c<a
     ·rw [if_pos hca] at h2;omega
     ·rw [if_neg hca] at h2 ⊢;exact ih d h2
structure Qn {α:Type} (c:α→α→Int):Prop where
 swap:∀ x y,c x y = - c y x
 zero:∀ x y,c x y=0→x=y
 trans:∀ x y z,c x y<0→c y z<0→c x z<0
theorem AaH:Qn Go.Lib.compareBytes:=⟨KV,Nu,Ma⟩
def Ub(a b:Int):Int:=if a<b then -1 else if b<a then 1 else 0
theorem AaI:Qn Ub:=by
 constructor
 ·intro x y;unfold Ub;rcases Int.lt_trichotomy x y with h | h | h
  ·rw [if_pos h,if_neg (by omega),if_pos h]
  ·subst h;rw [if_neg (Int.lt_irrefl _),if_neg (Int.lt_irrefl _)];rfl
  ·rw [if_neg (by omega),if_pos h,if_pos h];rfl
 ·intro x y h;unfold Ub at h;split at h;cases h;split at h;cases h;omega
 ·intro x y z a h2;unfold Ub at *
  split at a
  ·split at h2
   ·rw [if_pos (by omega)];decide
   ·split at h2 <;> omega
  ·split at a <;> omega
def Uc{α β:Type}(c:α→α→Int)(d:β→β→Int)(x y:α×β):Int:=if c x.1 y.1=0 then d x.2 y.2 else c x.1 y.1
theorem UD{α β:Type}{c:α→α→Int}{d:β→β→Int}(hc:Qn c)(hd:Qn d):Qn (Uc c d):=by
 constructor
 ·intro x y;unfold Uc;have:=hc.swap x.1 y.1
  by_cases h:c x.1 y.1=0
  ·rw [if_pos h,if_pos (by omega)];exact hd.swap _ _
  ·rw [if_neg h,if_neg (by omega)];exact this
 ·intro x y h;unfold Uc at h
  split at h
  ·rename_i a;exact Prod.ext (hc.zero _ _ a) (hd.zero _ _ h)
  ·rename_i a;exact absurd h a
 ·intro x y z a h2;unfold Uc at *
  by_cases e:c x.1 y.1=0
  ·rw [if_pos e] at a;have:=hc.zero _ _ e;rw [this]
   by_cases b:c y.1 z.1=0
   ·rw [if_pos b] at h2 ⊢;exact hd.trans _ _ _ a h2
   ·rw [if_neg b] at h2 ⊢;exact h2
  ·rw [if_neg e] at a
   by_cases b:c y.1 z.1=0
   ·have:=hc.zero _ _ b;rw [← this,if_neg e];exact a
   ·rw [if_neg b] at h2;have:=hc.trans _ _ _ a h2;rw [if_neg (by omega)];exact this
theorem Qn.swo{α:Type}{c:α→α→Int}(h:Qn c):Go.Sort.SWO (Go.Proofs.ltOf c):=by
 have hs:=fun x=>h.swap x x
 constructor
 ·intro x;have:=hs x;simp only [Go.Proofs.ltOf,decide_eq_false_iff_not];omega
 ·intro x y z b h2;simp only [Go.Proofs.ltOf,decide_eq_true_eq] at *;exact h.trans _ _ _ b h2
 ·intro x y z b h2;simp only [Go.Proofs.ltOf,decide_eq_false_iff_not] at *;intro h3;have s1:=h.swap x y;have d:=h.swap y z
  rcases Int.lt_trichotomy (c y x) 0 with a | a | a
  ·have:=h.trans _ _ _ a h3;omega
  ·rw [h.zero _ _ a] at h2;omega
  ·omega
theorem Qn.parts{α:Type}{c:α→α→Int}(h:Qn c)(x y:α)(a:Go.Proofs.ltOf c x y=false)(h2:Go.Proofs.ltOf c y x=false):x=y:=by
 simp only [Go.Proofs.ltOf,decide_eq_false_iff_not] at a h2;have:=h.swap x y;exact h.zero _ _ (by omega)
abbrev Lf:Type:=List UInt8×Int×Int×List UInt8
def OS:Lf→Lf→Int:=Uc Go.Lib.compareBytes (Uc Ub (Uc Ub Go.Lib.compareBytes))
theorem PV:Qn OS:=UD AaH (UD AaI (UD AaI AaH))
def OT(l:List Lf):List Lf:=l.mergeSort fun x y=>!(Go.Proofs.ltOf OS) y x
theorem Ud(l:List Lf):(OT l).length=l.length:=List.length_mergeSort _
end Go.L
namespace Go.Proofs.YtekmbcbgknmhiaaGreatDoor
open Go Go.L Go.E
theorem Zh(a b:Int):Hl a b=some (Ub a b):=by
 unfold Hl cmp_isNaN_int Ub;simp only [Option.bind_some,decide_true,Bool.not_true,Bool.false_eq_true,if_false]
 split
 ·rfl
 ·split <;> rfl
theorem Zi(a b:List UInt8):strings_Compare a b=some (Lib.compareBytes a b):=rfl
theorem Aan(a b c d:Int):Mq [a,b,c,d]=some (if a=0 then(if b=0 then(if c=0 then d else c) else b) else a):=by
 unfold Mq Oh
 have step:∀ (i:Nat) (x:Int),[a,b,c,d][i]? = some x→x=0→Ek [a,b,c,d] (i:Int)=some (.inl ((i+1:Nat):Int)):=fun i x hx e=>by
  have hi:i<4:=(List.getElem?_eq_some_iff.1 hx).1;unfold Ek;rw [if_pos (by simp;omega),Aw (by simp;omega),if_pos (by rw [Int.toNat_natCast,List.getD_eq_getElem?_getD,hx];exact e),Aw (by unfold BJ;omega)]
  rfl
 have stop:∀ (i:Nat) (x:Int),[a,b,c,d][i]? = some x→x≠0→Go.L.run (Ek [a,b,c,d]) (i:Int)=some x:=fun i x hx e=>by
  have hi:i<4:=(List.getElem?_eq_some_iff.1 hx).1;refine B2 ?_;unfold Ek;have hg:[a,b,c,d].getD (i:Int).toNat default=x:=by rw [Int.toNat_natCast,List.getD_eq_getElem?_getD,hx];rfl
  rw [if_pos (by simp;omega),Aw (by simp;omega),hg,if_neg e]
 have last:Go.L.run (Ek [a,b,c,d]) ((4:Nat):Int)=some 0:=by
  refine B2 ?_;unfold Ek;rw [if_neg (by simp)]
  rfl
 show Go.L.run _ ((0:Nat):Int)=_
 by_cases ha:a=0
 ·rw [if_pos ha,BK (step 0 a rfl ha)]
  by_cases hb:b=0
  ·rw [if_pos hb,BK (step 1 b rfl hb)]
   by_cases hc:c=0
   ·rw [if_pos hc,BK (step 2 c rfl hc)]
    by_cases hd:d=0
    ·rw [BK (step 3 d rfl hd)];rw [hd] at last ⊢;exact last
    ·exact stop 3 d rfl hd
   ·rw [if_neg hc];exact stop 2 c rfl hc
  ·rw [if_neg hb];exact stop 1 b rfl hb
 ·rw [if_neg ha];exact stop 0 a rfl ha
theorem UE(x y:Lf):I5 x y=some (OS x y):=by
 unfold I5 OS Uc;simp only [Zi,Zh,Aan,Option.bind_some]
end Go.Proofs.YtekmbcbgknmhiaaGreatDoor
end
noncomputable section
namespace Go.E
open Go Go.RowKit
theorem Ue{κ:Type}{enc:κ→Value}:∀ (l:List κ) (vs:List Value) (i:Nat),l.length=vs.length→(mE enc i l vs).map (·.born)=List.range' i l.length
 | [],[],_,_=>rfl
 | a::l,u::vs,i,h=>by
  simp only [mE,List.map_cons,List.length_cons,List.range'_succ];rw [Ue l vs (i+1) (by simpa using h)]
theorem XD{κ:Type}{enc:κ→Value}{l:List κ}{vs:List Value}(h:l.length=vs.length){x:MapEntry}(hx:x∈mE enc 0 l vs):∃ a,l[x.born]? = some a∧x=⟨enc a,vs.getD x.born default,x.born⟩:=by
 obtain⟨j,hj⟩:=List.getElem?_of_mem hx;have hjl:j<l.length:=by have:=(List.getElem?_eq_some_iff.1 hj).1;rwa [Px l vs 0 h] at this
 have:=Pw (enc:=enc) l vs 0 j l[j] h (List.getElem?_eq_getElem hjl);rw [hj,Nat.zero_add] at this;obtain rfl:=Option.some.inj this;exact⟨l[j],List.getElem?_eq_getElem hjl,rfl⟩
section
variable {P:Program} {n:Sz} {ops:Array Oper} {Q:Exit→Act→World→Prop} {L:Env} {w w0:World} {O:List AN} {rest:List Oper} {d:Nat} {ty t kt et:TypeId} {pos:String} {af:Array Edge} {x:Operand} {κ:Type} {enc:κ→Value} {keys:List κ} {vs:List Value} {m N:Nat}
theorem XE[Dr](hx:ev L x=some (.map (some m)))(ht:P.underlying t=some (.map kt et))(hm:w.heap[m]? = some (.map (mE enc 0 keys vs).toArray N))(hn:Nat.blt d n.n=true)(hL:AR w0 O w)
  (h:∀ w' b,AR w0 (.obj b (.mapIter (some m) N ([]:List Nat).toArray N)::O) w'→Le (fz w O) (fz w' (.obj b (.mapIter (some m) N ([]:List Nat).toArray N)::O))→S P n ops Q rest ((d,.pointer (some ⟨b,0,none⟩))::L) w'):S P n ops Q (⟨some d,.range t x,ty,pos,af,none⟩::rest) L w:=by
 have hb:∀ b,(AN.obj w.heap.size (.mapIter (some m) N ([]:List Nat).toArray N)).block=some b→w.heap.size≤b:=fun b e=>by cases e;exact Nat.le_refl _
 refine Da (v:=.pointer (some ⟨w.heap.size,0,none⟩)) (w':=w.alloc (.mapIter (some m) N ([]:List Nat).toArray N)) rfl rfl hn (fun ρ hρ=>?_) (h _ _ (hL.new (Cl w _) (World.alloc_heap_new w _) hb) (Ou hL (Cl w _) hb));have:=run_range_map (P:=P) w t kt et m _ N ht hm;simp [execOp,hρ x _ hx,this]
theorem Zj[Dr](i:Nat){b:Nat}{seen:List Nat}(hx:ev L x=some (.pointer (some ⟨b,0,none⟩)))(hn:Nat.blt d n.n=true)(hL:AR w0 O w)(hi:Dq O i=some (.obj b (.mapIter (some m) N seen.toArray N)))(hm:w.heap[m]? = some (.map (mE enc 0 keys vs).toArray N))(hk:keys.length=vs.length)(hN:keys.length=N)
  (r:∀ j a,keys[j]? = some a→j∉seen→∀ w',AR w0 (CJ O i (.obj b (.mapIter (some m) N (seen++[j]).toArray N))) w'→Le (fz w O) (fz w' (CJ O i (.obj b (.mapIter (some m) N (seen++[j]).toArray N))))→w'.heap[m]? = some (.map (mE enc 0 keys vs).toArray N)→S P n ops Q rest ((d,.tuple #[.bool true,enc a,vs.getD j default])::L) w')
  (h2:(∀ j,j<N→j∈seen)→S P n ops Q rest ((d,.tuple #[.bool false])::L) w):S P n ops Q (⟨some d,.next x false,ty,pos,af,none⟩::rest) L w:=by
 have hb:w.heap[b]? = some (.mapIter (some m) N seen.toArray N):=hL.at hi
 have hold:∀ x∈(mE enc 0 keys vs).toArray.toList,x.born<N:=fun x hx=>by
  obtain⟨a,ha,_⟩:=XD hk (by simpa using hx);have:=(List.getElem?_eq_some_iff.1 ha).1;omega
 rcases run_next_at (P:=P) w ty b m N N seen.toArray _ N hb hm hold (Nat.le_refl _) with ⟨s,hr⟩ | ⟨e,he,c,k,hr⟩
 ·refine Da (v:=.tuple #[.bool false]) (w':=w) rfl rfl hn (fun ρ hρ=>by simp [execOp,hρ x _ hx,hr]) (h2 fun j hj=>?_);have hjk:j<keys.length:=by omega
  have hg:=Pw (enc:=enc) keys vs 0 j keys[j] hk (List.getElem?_eq_getElem hjk);rw [Nat.zero_add] at hg;have hemp:leftOf (mE enc 0 keys vs).toArray seen.toArray = #[]:=Array.eq_empty_of_size_eq_zero s;unfold leftOf at hemp;rw [Array.filter_eq_empty_iff] at hemp;have:=hemp _ (by simpa using List.mem_of_getElem? hg)
  simpa using this
 ·have hmem:e∈mE enc 0 keys vs∧e.born∉seen:=by
   unfold leftOf at he
   simpa using he
  obtain⟨a,ha,hee⟩:=XD hk hmem.1
  have f:Ext w c:=by
   rcases k with rfl | rfl
   ·exact Ext.refl _
   ·exact Kb
  have l:=hL.call f;have g:=AX hL f;have hput:=l.putAt (.mapIter (some m) N (seen++[e.born]).toArray N) hi;have hne:m≠b:=fun eq=>by rw [eq,hb] at hm;cases hm
  have o:c.heap[m]? = some (.map (mE enc 0 keys vs).toArray N):=by rw [f.block m (lt_of_heap hm)];exact hm
  have p:(c.putObj b (.mapIter (some m) N (seen++[e.born]).toArray N)).heap[m]? = some (.map (mE enc 0 keys vs).toArray N):=by rw [World.putObj_heap_other hne];exact o
  have hval:e.key=enc a∧e.val=vs.getD e.born default:=by rw [hee];exact⟨rfl,rfl⟩
  rw [hval.1,hval.2] at hr
  have q:ChangeMaps.setBlock c b (.mapIter (some m) N (seen.toArray.push e.born) N)=c.putObj b (.mapIter (some m) N (seen++[e.born]).toArray N):=by
   rw [List.push_toArray];rfl
  rw [q] at hr;refine Da (v:=_) (w':=_) rfl rfl hn (fun ρ hρ=>?_) (r e.born a ha hmem.2 _ hput.1 (g.trans hput.2) p);simp [execOp,hρ x _ hx,hr]
theorem XF{b:Nat}{seen:List Nat}{j:Nat}{a:κ}(hx:ev L x=some (.pointer (some ⟨b,0,none⟩)))(hn:Nat.blt d n.n=true)(hb:w.heap[b]? = some (.mapIter (some m) N (seen++[j]).toArray N))(hm:w.heap[m]? = some (.map (mE enc 0 keys vs).toArray N))(hk:keys.length=vs.length)(ha:keys[j]? = some a)
  (h:S P n ops Q rest ((d,.tuple #[enc a,vs.getD j default])::L) w):S P n ops Q (⟨some d,.entry x,ty,pos,af,none⟩::rest) L w:=by
 have hg:=Pw (enc:=enc) keys vs 0 j a hk ha;rw [Nat.zero_add] at hg;have hr:=run_entry_at (P:=P) w b m N seen.toArray (mE enc 0 keys vs).toArray N ⟨enc a,vs.getD j default,j⟩ (by rw [hb,List.push_toArray]) hm (by simpa using List.mem_of_getElem? hg) (by rw [List.toList_toArray,Ue _ _ _ hk];exact List.nodup_range');refine Da (v:=_) (w':=w) rfl rfl hn (fun ρ hρ=>?_) h;simp [execOp,hρ x _ hx,hr]
end
end Go.E
end
