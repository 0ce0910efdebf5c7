/- Texts of a claim, merged. -/
import Derived.Test.YtnmkjjgmnbmmnaaGreatDoorLa2
import Derived.KernelRfl
import Derived.Shelf.Strings.FuncGrows
open _root_.Go.Proofs.Tryz renaming underlying50→Aak,underlying170→Aao,underlying25→Aas
open Option renaming bind->Qq8,bind_some->Qq9,map->Qzq
open Nat renaming le_refl->Qzx,mul_one->Qzy
open List renaming replicate->Qzw,length_map->Qzf,take_of_length_le->Qz3
open Bool renaming and_eq_true->Qza,or_eq_true->Qxd
open ByteArray renaming size->Qxk
set_option linter.unusedVariables false
set_option linter.unusedSimpArgs false
set_option linter.unusedSectionVars false
noncomputable section
namespace Go.Proofs.YtnmkjjgmnbmmnaaGreatDoor
open Go Go.E Go.RowKit Go.L
set_option maxHeartbeats 1000000
set_option maxRecDepth 10000
open _root_.Go.Proofs.Tryz
def Fb(a0:AaE):Option Bool:=
 Qq8 (Hx a0 ([2,4,5])) (fun a=>some a)
section
variable(w:World)(H:PH)(hH:Le H (hp w)) include hH
theorem GZ{a0:AaE}{a b c:Value}(f:AL .byte H a (a0.2.2.1))(g:AL .st H b (a0.2.2.2.2.2.2.2.2.2.2.1))(i:AL (.int .i64) H c (a0.2.2.2.2.2.2.2.2.2.2.2)){r:Bool}(h:Fb a0=some r):
  Qqv 39 [.agg #[Aad a0.1,No a0.2.1,a,No a0.2.2.2.1,.bool a0.2.2.2.2.1,No a0.2.2.2.2.2.1,No a0.2.2.2.2.2.2.1,No a0.2.2.2.2.2.2.2.1,No a0.2.2.2.2.2.2.2.2.1,No a0.2.2.2.2.2.2.2.2.2.1,b,c]] w (fun v w'=>v=.bool r):=by
 refine AG 6 [(0,.agg #[Aad a0.1,No a0.2.1,a,No a0.2.2.2.1,.bool a0.2.2.2.2.1,No a0.2.2.2.2.2.1,No a0.2.2.2.2.2.2.1,No a0.2.2.2.2.2.2.2.1,No a0.2.2.2.2.2.2.2.2.1,No a0.2.2.2.2.2.2.2.2.2.1,b,c])] func39 Z fun hL=>Aq<|Cj (t:=50) Z Z hL fun x y d o _=>A1 1 Z<|Aq<|Ag (Ax 0 Z Bl.e d Z)<|BV [2,4,5] (r:=(.int .i64)) (fun _=>O0 _ _ _ _) (hlen:=(Ch 3)) d (.c1 Z (.c1 Z (.c1 Z .nil))) fun z w2 s e p j=>Av h fun x3 k h=>A6 e (Ij _ _ (Ao e) a0 (f.mono  Ai) (g.mono  Ai) (i.mono  Ai) j k) fun w4 u m q=>A1 1 Z<|Au ?_
 cases h
 refine Aj Z ⟨m.ext,Z⟩
def Du(a0:AaE):Option Bool:=
 Qq8 (Hx a0 ([2,3])) (fun a=>some a)
theorem DU{a0:AaE}{a b c:Value}(f:AL .byte H a (a0.2.2.1))(g:AL .st H b (a0.2.2.2.2.2.2.2.2.2.2.1))(i:AL (.int .i64) H c (a0.2.2.2.2.2.2.2.2.2.2.2)){r:Bool}(h:Du a0=some r):
  Qqv 41 [.agg #[Aad a0.1,No a0.2.1,a,No a0.2.2.2.1,.bool a0.2.2.2.2.1,No a0.2.2.2.2.2.1,No a0.2.2.2.2.2.2.1,No a0.2.2.2.2.2.2.2.1,No a0.2.2.2.2.2.2.2.2.1,No a0.2.2.2.2.2.2.2.2.2.1,b,c]] w (fun v w'=>v=.bool r):=by
 refine AG 6 [(0,.agg #[Aad a0.1,No a0.2.1,a,No a0.2.2.2.1,.bool a0.2.2.2.2.1,No a0.2.2.2.2.2.1,No a0.2.2.2.2.2.2.1,No a0.2.2.2.2.2.2.2.1,No a0.2.2.2.2.2.2.2.2.1,No a0.2.2.2.2.2.2.2.2.2.1,b,c])] func41 Z fun hL=>Aq<|Cj (t:=50) Z Z hL fun x y d o _=>A1 1 Z<|Aq<|Ag (Ax 0 Z Bl.e d Z)<|BV [2,3] (r:=(.int .i64)) (fun _=>Oy _ _ _) (hlen:=(Ch 2)) d (.c1 Z (.c1 Z .nil)) fun z w2 s e p j=>Av h fun x3 k h=>A6 e (Ij _ _ (Ao e) a0 (f.mono  Ai) (g.mono  Ai) (i.mono  Ai) j k) fun w4 u m q=>A1 1 Z<|Au ?_
 cases h
 refine Aj Z ⟨m.ext,Z⟩
def B6(a0:AaE):Option Bool:=
 Qq8 (Hx a0 ([6,9])) (fun a=>some a)
theorem By{a0:AaE}{a b c:Value}(f:AL .byte H a (a0.2.2.1))(g:AL .st H b (a0.2.2.2.2.2.2.2.2.2.2.1))(i:AL (.int .i64) H c (a0.2.2.2.2.2.2.2.2.2.2.2)){r:Bool}(h:B6 a0=some r):
  Qqv 44 [.agg #[Aad a0.1,No a0.2.1,a,No a0.2.2.2.1,.bool a0.2.2.2.2.1,No a0.2.2.2.2.2.1,No a0.2.2.2.2.2.2.1,No a0.2.2.2.2.2.2.2.1,No a0.2.2.2.2.2.2.2.2.1,No a0.2.2.2.2.2.2.2.2.2.1,b,c]] w (fun v w'=>v=.bool r):=by
 refine AG 6 [(0,.agg #[Aad a0.1,No a0.2.1,a,No a0.2.2.2.1,.bool a0.2.2.2.2.1,No a0.2.2.2.2.2.1,No a0.2.2.2.2.2.2.1,No a0.2.2.2.2.2.2.2.1,No a0.2.2.2.2.2.2.2.2.1,No a0.2.2.2.2.2.2.2.2.2.1,b,c])] func44 Z fun hL=>Aq<|Cj (t:=50) Z Z hL fun x y d o _=>A1 1 Z<|Aq<|Ag (Ax 0 Z Bl.e d Z)<|BV [6,9] (r:=(.int .i64)) (fun _=>Oy _ _ _) (hlen:=(Ch 2)) d (.c1 Z (.c1 Z .nil)) fun z w2 s e p j=>Av h fun x3 k h=>A6 e (Ij _ _ (Ao e) a0 (f.mono  Ai) (g.mono  Ai) (i.mono  Ai) j k) fun w4 u m q=>A1 1 Z<|Au ?_
 cases h
 refine Aj Z ⟨m.ext,Z⟩
def AU(a0:AaE):Option Bool:=
 Qq8 (Hx a0 ([7,8])) (fun a=>some a)
theorem AO(a0:AaE){a b c:Value}(f:AL .byte H a (a0.2.2.1))(g:AL .st H b (a0.2.2.2.2.2.2.2.2.2.2.1))(i:AL (.int .i64) H c (a0.2.2.2.2.2.2.2.2.2.2.2)){r:Bool}(h:AU a0=some r):
  Qqv 45 [.agg #[Aad a0.1,No a0.2.1,a,No a0.2.2.2.1,.bool a0.2.2.2.2.1,No a0.2.2.2.2.2.1,No a0.2.2.2.2.2.2.1,No a0.2.2.2.2.2.2.2.1,No a0.2.2.2.2.2.2.2.2.1,No a0.2.2.2.2.2.2.2.2.2.1,b,c]] w (fun v w'=>v=.bool r):=by
 refine AG 6 [(0,.agg #[Aad a0.1,No a0.2.1,a,No a0.2.2.2.1,.bool a0.2.2.2.2.1,No a0.2.2.2.2.2.1,No a0.2.2.2.2.2.2.1,No a0.2.2.2.2.2.2.2.1,No a0.2.2.2.2.2.2.2.2.1,No a0.2.2.2.2.2.2.2.2.2.1,b,c])] func45 Z fun hL=>Aq<|Cj (t:=50) Z Z hL fun x y d o _=>A1 1 Z<|Aq<|Ag (Ax 0 Z Bl.e d Z)<|BV [7,8] (r:=(.int .i64)) (fun _=>Oy _ _ _) (hlen:=(Ch 2)) d (.c1 Z (.c1 Z .nil)) fun z w2 s e p j=>Av h fun x3 k h=>A6 e (Ij _ _ (Ao e) a0 (f.mono  Ai) (g.mono  Ai) (i.mono  Ai) j k) fun w4 u m q=>A1 1 Z<|Au ?_
 cases h
 refine Aj Z ⟨m.ext,Z⟩
def Kk(a0:AaE):Option Bool:=
 if((decide ((a0.2.2.1.length:Int)=0))||(decide (a0.2.1=1)))then if a0.2.2.2.2.2.2.2.1=0 then if a0.2.2.2.1=0 then if(((!a0.2.2.2.2.1)&&(decide (a0.2.2.2.2.2.1=0)))||(decide (a0.2.1=2)))then if a0.2.2.2.2.2.2.1=0 then if a0.2.2.2.2.2.2.2.2.1=0 then if a0.2.2.2.2.2.2.2.2.2.1=0 then if((decide ((a0.2.2.2.2.2.2.2.2.2.2.1.length:Int)=0))||(decide (a0.2.1=7)))then if(a0.2.2.2.2.2.2.2.2.2.2.2.length:Int)=0 then some true else Qq8 (AU a0) (fun a3=>some a3)else some false else Qq8 (B6 a0) (fun a4=>if(a4&&((decide ((a0.2.2.2.2.2.2.2.2.2.2.1.length:Int)=0))||(decide (a0.2.1=7))))then if(a0.2.2.2.2.2.2.2.2.2.2.2.length:Int)=0 then some true else Qq8 (AU a0) (fun a5=>some a5)else some false)else Qq8 (BF a0) (fun a6=>if a6 then if a0.2.2.2.2.2.2.2.2.2.1=0 then if((decide ((a0.2.2.2.2.2.2.2.2.2.2.1.length:Int)=0))||(decide (a0.2.1=7)))then if(a0.2.2.2.2.2.2.2.2.2.2.2.length:Int)=0 then some true else Qq8 (AU a0) (fun a7=>some a7)else some false else Qq8 (B6 a0) (fun a8=>if(a8&&((decide ((a0.2.2.2.2.2.2.2.2.2.2.1.length:Int)=0))||(decide (a0.2.1=7))))then if(a0.2.2.2.2.2.2.2.2.2.2.2.length:Int)=0 then some true else Qq8 (AU a0) (fun a9=>some a9)else some false)else some false)else Qq8 (Du a0) (fun ba=>if ba then if a0.2.2.2.2.2.2.2.2.1=0 then if a0.2.2.2.2.2.2.2.2.2.1=0 then if((decide ((a0.2.2.2.2.2.2.2.2.2.2.1.length:Int)=0))||(decide (a0.2.1=7)))then if(a0.2.2.2.2.2.2.2.2.2.2.2.length:Int)=0 then some true else Qq8 (AU a0) (fun bb=>some bb)else some false else Qq8 (B6 a0) (fun bc=>if(bc&&((decide ((a0.2.2.2.2.2.2.2.2.2.2.1.length:Int)=0))||(decide (a0.2.1=7))))then if(a0.2.2.2.2.2.2.2.2.2.2.2.length:Int)=0 then some true else Qq8 (AU a0) (fun bd=>some bd)else some false)else Qq8 (BF a0) (fun a=>if a then if a0.2.2.2.2.2.2.2.2.2.1=0 then if((decide ((a0.2.2.2.2.2.2.2.2.2.2.1.length:Int)=0))||(decide (a0.2.1=7)))then if(a0.2.2.2.2.2.2.2.2.2.2.2.length:Int)=0 then some true else Qq8 (AU a0) (fun b=>some b)else some false else Qq8 (B6 a0) (fun c=>if(c&&((decide ((a0.2.2.2.2.2.2.2.2.2.2.1.length:Int)=0))||(decide (a0.2.1=7))))then if(a0.2.2.2.2.2.2.2.2.2.2.2.length:Int)=0 then some true else Qq8 (AU a0) (fun d=>some d)else some false)else some false)else some false)else some false else Qq8 (Fb a0) (fun e=>if(e&&(((!a0.2.2.2.2.1)&&(decide (a0.2.2.2.2.2.1=0)))||(decide (a0.2.1=2))))then if a0.2.2.2.2.2.2.1=0 then if a0.2.2.2.2.2.2.2.2.1=0 then if a0.2.2.2.2.2.2.2.2.2.1=0 then if((decide ((a0.2.2.2.2.2.2.2.2.2.2.1.length:Int)=0))||(decide (a0.2.1=7)))then if(a0.2.2.2.2.2.2.2.2.2.2.2.length:Int)=0 then some true else Qq8 (AU a0) (fun f=>some f)else some false else Qq8 (B6 a0) (fun g=>if(g&&((decide ((a0.2.2.2.2.2.2.2.2.2.2.1.length:Int)=0))||(decide (a0.2.1=7))))then if(a0.2.2.2.2.2.2.2.2.2.2.2.length:Int)=0 then some true else Qq8 (AU a0) (fun h=>some h)else some false)else Qq8 (BF a0) (fun i=>if i then if a0.2.2.2.2.2.2.2.2.2.1=0 then if((decide ((a0.2.2.2.2.2.2.2.2.2.2.1.length:Int)=0))||(decide (a0.2.1=7)))then if(a0.2.2.2.2.2.2.2.2.2.2.2.length:Int)=0 then some true else Qq8 (AU a0) (fun j=>some j)else some false else Qq8 (B6 a0) (fun k=>if(k&&((decide ((a0.2.2.2.2.2.2.2.2.2.2.1.length:Int)=0))||(decide (a0.2.1=7))))then if(a0.2.2.2.2.2.2.2.2.2.2.2.length:Int)=0 then some true else Qq8 (AU a0) (fun l=>some l)else some false)else some false)else Qq8 (Du a0) (fun m=>if m then if a0.2.2.2.2.2.2.2.2.1=0 then if a0.2.2.2.2.2.2.2.2.2.1=0 then if((decide ((a0.2.2.2.2.2.2.2.2.2.2.1.length:Int)=0))||(decide (a0.2.1=7)))then if(a0.2.2.2.2.2.2.2.2.2.2.2.length:Int)=0 then some true else Qq8 (AU a0) (fun n=>some n)else some false else Qq8 (B6 a0) (fun o=>if(o&&((decide ((a0.2.2.2.2.2.2.2.2.2.2.1.length:Int)=0))||(decide (a0.2.1=7))))then if(a0.2.2.2.2.2.2.2.2.2.2.2.length:Int)=0 then some true else Qq8 (AU a0) (fun p=>some p)else some false)else Qq8 (BF a0) (fun q=>if q then if a0.2.2.2.2.2.2.2.2.2.1=0 then if((decide ((a0.2.2.2.2.2.2.2.2.2.2.1.length:Int)=0))||(decide (a0.2.1=7)))then if(a0.2.2.2.2.2.2.2.2.2.2.2.length:Int)=0 then some true else Qq8 (AU a0) (fun r=>some r)else some false else Qq8 (B6 a0) (fun s=>if(s&&((decide ((a0.2.2.2.2.2.2.2.2.2.2.1.length:Int)=0))||(decide (a0.2.1=7))))then if(a0.2.2.2.2.2.2.2.2.2.2.2.length:Int)=0 then some true else Qq8 (AU a0) (fun t=>some t)else some false)else some false)else some false)else some false)else Qq8 (CU a0) (fun u=>if u then if a0.2.2.2.1=0 then if(((!a0.2.2.2.2.1)&&(decide (a0.2.2.2.2.2.1=0)))||(decide (a0.2.1=2)))then if a0.2.2.2.2.2.2.1=0 then if a0.2.2.2.2.2.2.2.2.1=0 then if a0.2.2.2.2.2.2.2.2.2.1=0 then if((decide ((a0.2.2.2.2.2.2.2.2.2.2.1.length:Int)=0))||(decide (a0.2.1=7)))then if(a0.2.2.2.2.2.2.2.2.2.2.2.length:Int)=0 then some true else Qq8 (AU a0) (fun v=>some v)else some false else Qq8 (B6 a0) (fun w=>if(w&&((decide ((a0.2.2.2.2.2.2.2.2.2.2.1.length:Int)=0))||(decide (a0.2.1=7))))then if(a0.2.2.2.2.2.2.2.2.2.2.2.length:Int)=0 then some true else Qq8 (AU a0) (fun x=>some x)else some false)else Qq8 (BF a0) (fun y=>if y then if a0.2.2.2.2.2.2.2.2.2.1=0 then if((decide ((a0.2.2.2.2.2.2.2.2.2.2.1.length:Int)=0))||(decide (a0.2.1=7)))then if(a0.2.2.2.2.2.2.2.2.2.2.2.length:Int)=0 then some true else Qq8 (AU a0) (fun z=>some z)else some false else Qq8 (B6 a0) (fun aa=>if(aa&&((decide ((a0.2.2.2.2.2.2.2.2.2.2.1.length:Int)=0))||(decide (a0.2.1=7))))then if(a0.2.2.2.2.2.2.2.2.2.2.2.length:Int)=0 then some true else Qq8 (AU a0) (fun ab=>some ab)else some false)else some false)else Qq8 (Du a0) (fun ac=>if ac then if a0.2.2.2.2.2.2.2.2.1=0 then if a0.2.2.2.2.2.2.2.2.2.1=0 then if((decide ((a0.2.2.2.2.2.2.2.2.2.2.1.length:Int)=0))||(decide (a0.2.1=7)))then if(a0.2.2.2.2.2.2.2.2.2.2.2.length:Int)=0 then some true else Qq8 (AU a0) (fun ad=>some ad)else some false else Qq8 (B6 a0) (fun ae=>if(ae&&((decide ((a0.2.2.2.2.2.2.2.2.2.2.1.length:Int)=0))||(decide (a0.2.1=7))))then if(a0.2.2.2.2.2.2.2.2.2.2.2.length:Int)=0 then some true else Qq8 (AU a0) (fun af=>some af)else some false)else Qq8 (BF a0) (fun ag=>if ag then if a0.2.2.2.2.2.2.2.2.2.1=0 then if((decide ((a0.2.2.2.2.2.2.2.2.2.2.1.length:Int)=0))||(decide (a0.2.1=7)))then if(a0.2.2.2.2.2.2.2.2.2.2.2.length:Int)=0 then some true else Qq8 (AU a0) (fun ah=>some ah)else some false else Qq8 (B6 a0) (fun ai=>if(ai&&((decide ((a0.2.2.2.2.2.2.2.2.2.2.1.length:Int)=0))||(decide (a0.2.1=7))))then if(a0.2.2.2.2.2.2.2.2.2.2.2.length:Int)=0 then some true else Qq8 (AU a0) (fun aj=>some aj)else some false)else some false)else some false)else some false else Qq8 (Fb a0) (fun ak=>if(ak&&(((!a0.2.2.2.2.1)&&(decide (a0.2.2.2.2.2.1=0)))||(decide (a0.2.1=2))))then if a0.2.2.2.2.2.2.1=0 then if a0.2.2.2.2.2.2.2.2.1=0 then if a0.2.2.2.2.2.2.2.2.2.1=0 then if((decide ((a0.2.2.2.2.2.2.2.2.2.2.1.length:Int)=0))||(decide (a0.2.1=7)))then if(a0.2.2.2.2.2.2.2.2.2.2.2.length:Int)=0 then some true else Qq8 (AU a0) (fun al=>some al)else some false else Qq8 (B6 a0) (fun am=>if(am&&((decide ((a0.2.2.2.2.2.2.2.2.2.2.1.length:Int)=0))||(decide (a0.2.1=7))))then if(a0.2.2.2.2.2.2.2.2.2.2.2.length:Int)=0 then some true else Qq8 (AU a0) (fun an=>some an)else some false)else Qq8 (BF a0) (fun ao=>if ao then if a0.2.2.2.2.2.2.2.2.2.1=0 then if((decide ((a0.2.2.2.2.2.2.2.2.2.2.1.length:Int)=0))||(decide (a0.2.1=7)))then if(a0.2.2.2.2.2.2.2.2.2.2.2.length:Int)=0 then some true else Qq8 (AU a0) (fun ap=>some ap)else some false else Qq8 (B6 a0) (fun aq=>if(aq&&((decide ((a0.2.2.2.2.2.2.2.2.2.2.1.length:Int)=0))||(decide (a0.2.1=7))))then if(a0.2.2.2.2.2.2.2.2.2.2.2.length:Int)=0 then some true else Qq8 (AU a0) (fun ar=>some ar)else some false)else some false)else Qq8 (Du a0) (fun au=>if au then if a0.2.2.2.2.2.2.2.2.1=0 then if a0.2.2.2.2.2.2.2.2.2.1=0 then if((decide ((a0.2.2.2.2.2.2.2.2.2.2.1.length:Int)=0))||(decide (a0.2.1=7)))then if(a0.2.2.2.2.2.2.2.2.2.2.2.length:Int)=0 then some true else Qq8 (AU a0) (fun av=>some av)else some false else Qq8 (B6 a0) (fun aw=>if(aw&&((decide ((a0.2.2.2.2.2.2.2.2.2.2.1.length:Int)=0))||(decide (a0.2.1=7))))then if(a0.2.2.2.2.2.2.2.2.2.2.2.length:Int)=0 then some true else Qq8 (AU a0) (fun ax=>some ax)else some false)else Qq8 (BF a0) (fun ay=>if ay then if a0.2.2.2.2.2.2.2.2.2.1=0 then if((decide ((a0.2.2.2.2.2.2.2.2.2.2.1.length:Int)=0))||(decide (a0.2.1=7)))then if(a0.2.2.2.2.2.2.2.2.2.2.2.length:Int)=0 then some true else Qq8 (AU a0) (fun az=>some az)else some false else Qq8 (B6 a0) (fun a1=>if(a1&&((decide ((a0.2.2.2.2.2.2.2.2.2.2.1.length:Int)=0))||(decide (a0.2.1=7))))then if(a0.2.2.2.2.2.2.2.2.2.2.2.length:Int)=0 then some true else Qq8 (AU a0) (fun a2=>some a2)else some false)else some false)else some false)else some false)else some false)else some false
theorem OM{a0:AaE}{fo fp fq:Value}(c:AL .byte H fo (a0.2.2.1))(a:AL .st H fp (a0.2.2.2.2.2.2.2.2.2.2.1))(b:AL (.int .i64) H fq (a0.2.2.2.2.2.2.2.2.2.2.2)){r:Bool}(h:Kk a0=some r):
  Qqv 164 [.agg #[Aad a0.1,No a0.2.1,fo,No a0.2.2.2.1,.bool a0.2.2.2.2.1,No a0.2.2.2.2.2.1,No a0.2.2.2.2.2.2.1,No a0.2.2.2.2.2.2.2.1,No a0.2.2.2.2.2.2.2.2.1,No a0.2.2.2.2.2.2.2.2.2.1,fp,fq]] w (fun v w'=>v=.bool r):=by
 refine AG 95 [(0,.agg #[Aad a0.1,No a0.2.1,fo,No a0.2.2.2.1,.bool a0.2.2.2.2.1,No a0.2.2.2.2.2.1,No a0.2.2.2.2.2.2.1,No a0.2.2.2.2.2.2.2.1,No a0.2.2.2.2.2.2.2.2.1,No a0.2.2.2.2.2.2.2.2.2.1,fp,fq])] func164 Z fun hL=>Aq<|Cj (t:=50) Z Z hL fun w1 b1 g nw _=>A1 1 Z<|Aq<|Ag (Af Z Aak Z B4.e)<|Ag (Ae 0 Z g Z)<|A1 2 Z<|Aq<|Ag (Af Z Aak Z CC.e)<|Ag (Ae 0 Z g Z)<|Ag (AT c)<|Ar 2 Z<|BS 4 15 (.bool ((decide ((a0.2.2.1.length:Int)=0))||(decide (a0.2.1=1)))) (fun jn=>?_) ?_
 ·refine Bk (s:=11) Z (fun e8=>?_) (fun e8=>?_)
  ·iterate 3 refine Ab e8 ?_
   refine Ag (Ak e8 Z)<|jn.to 3 (GS e8) Z Z
  refine Aa e8<|Ag (Af Z Aak Z B4.e)<|Aa e8<|Ag (Ae 0 Z g Z)<|Aa e8<|Ag (Ad Z)<|Ag (Am e8 Z)<|jn.to 3 (GU e8) Z Z
 refine Ar 1 Z<|Bg 16 h ?_ ?_<;>intro dq h
 ·refine Aa dq<|Ag (Af Z Aak Z B4.e)<|Aa dq<|Ag (Ae 0 Z g Z)<|Aa dq<|Ag (Ad Z)<|Aa dq<|Ag (Ad Z)<|AQ 20 h ?_ ?_<;>intro fm h
  ·iterate 2 refine Ab fm ?_
   refine Aa dq<|Ag (Ak fm Z)<|Ag (Ak dq Z)<|Ar 1 Z<|Aa Z<|Ag (Af Z Aak Z B4.e)<|Aa Z<|Ag (Ae 0 Z g Z)<|Aa Z<|Ag (Ad Z)<|Aa Z<|Ag (Ad Z)<|AQ 29 h ?_ ?_<;>intro fn h
   ·iterate 2 refine Ab fn ?_
    refine Aa Z<|Ag (Ak fn Z)<|Ag (Ak Z Z)<|Ar 1 Z<|Aa Z<|Ag (Af Z Aak Z Fv.e)<|Aa Z<|Ag (Ae 0 Z g Z)<|Aa Z<|Ag (Ad Z)<|Aa Z<|Ag (Ad Z)<|BS 4 42 (.bool ((!a0.2.2.2.2.1)&&(decide (a0.2.2.2.2.2.1=0)))) (fun jo=>?_) ?_
    ·refine Bk (s:=38) Z (fun e9=>?_) (fun e9=>?_)
     ·refine Aa e9<|Ag (Af Z Aak Z B4.e)<|Aa e9<|Ag (Ae 0 Z g Z)<|Aa e9<|Ag (Ad Z)<|Aa Z<|Ag (Ak e9 Z)<|jo.to 3 (FU e9) Z Z
     iterate 3 refine Ab e9 ?_
     refine Aa Z<|Ag (Am e9 Z)<|jo.to 3 (FV e9) Z Z
    refine Aa Z<|Ag (Ad Z)<|BS 2 45 (.bool (((!a0.2.2.2.2.1)&&(decide (a0.2.2.2.2.2.1=0)))||(decide (a0.2.1=2)))) (fun g2=>?_) ?_
    ·refine Bk (s:=43) Z (fun e7=>?_) (fun e7=>?_)
     ·refine Ab e7<|Aa Z<|Ag (Ak e7 Z)<|g2.to 1 (GS e7) Z Z
     refine Aa e7<|Ag (Ad Z)<|Aa Z<|Ag (Am e7 Z)<|g2.to 1 (GU e7) Z Z
    refine Ag (Ak Z Z)<|Ar 1 Z<|Bg 47 h ?_ ?_<;>intro b7 h
    ·refine Aa b7<|Ag (Af Z Aak Z B4.e)<|Aa b7<|Ag (Ae 0 Z g Z)<|Aa b7<|Ag (Ad Z)<|Aa b7<|Ag (Ad Z)<|AQ 51 h ?_ ?_<;>intro fa h
     ·iterate 2 refine Ab fa ?_
      refine Aa b7<|Ag (Ak fa Z)<|Ag (Ak b7 Z)<|Ar 1 Z<|Aa Z<|Ag (Af Z Aak Z B4.e)<|Aa Z<|Ag (Ae 0 Z g Z)<|Aa Z<|Ag (Ad Z)<|Aa Z<|Ag (Ad Z)<|AQ 60 h ?_ ?_<;>intro fb h
      ·iterate 2 refine Ab fb ?_
       refine Aa Z<|Ag (Ak fb Z)<|Ag (Ak Z Z)<|Ar 1 Z<|Aa Z<|Ag (Af Z Aak Z B4.e)<|Aa Z<|Ag (Ae 0 Z g Z)<|Aa Z<|Ag (Ad Z)<|Aa Z<|Ag (Ad Z)<|AQ 69 h ?_ ?_<;>intro fc h
       ·iterate 2 refine Ab fc ?_
        refine Aa Z<|Ag (Ak fc Z)<|Ag (Ak Z Z)<|Ar 1 Z<|Aa Z<|Ag (Af Z Aak Z Cx.e)<|Aa Z<|Ag (Ae 0 Z g Z)<|Aa Z<|Ag (AT a)<|Aa Z<|Ag (Ad Z)<|Aa Z<|Ag (Ad Z)<|BS 4 83 (.bool ((decide ((a0.2.2.2.2.2.2.2.2.2.2.1.length:Int)=0))||(decide (a0.2.1=7)))) (fun g3=>?_) ?_
        ·refine Bk (s:=79) Z (fun dg=>?_) (fun dg=>?_)
         ·iterate 3 refine Ab dg ?_
          refine Aa Z<|Ag (Ak dg Z)<|g3.to 3 (GS dg) Z Z
         refine Aa dg<|Ag (Af Z Aak Z B4.e)<|Aa dg<|Ag (Ae 0 Z g Z)<|Aa dg<|Ag (Ad Z)<|Aa Z<|Ag (Am dg Z)<|g3.to 3 (GU dg) Z Z
        refine Ag (Ak Z Z)<|Ar 1 Z<|Bg 85 h ?_ ?_<;>intro bz h
        ·refine Aa bz<|Ag (Af Z Aak Z E4.e)<|Aa bz<|Ag (Ae 0 Z g Z)<|Aa bz<|Ag (AT b)<|Aa bz<|Ag (Ad Z)<|Aa bz<|Ag (Ad Z)<|AQ 90 h ?_ ?_<;>intro fd h
         ·iterate 2 refine Ab fd ?_
          refine Aa bz<|Ag (Ak fd Z)<|Ag (Ak bz Z)<|A1 1 Z<|Au ?_
          cases h
          refine Aj Z ⟨g.ext,Z⟩
         refine Aa fd<|Ag (Ax 0 Z Bl.e g Z)<|Aa fd<|Av h fun qs jp h=>A6 g (AO _ _ (Ao g) a0 (c.mono  Ai) (a.mono  Ai) (b.mono  Ai) jp) fun qt nx jq l4=>Aa bz<|Ag (Am fd Z)<|Ag (Ak bz Z)<|A1 1 Z<|Au ?_
         cases h
         refine Aj Z ⟨jq.ext,Z⟩
        iterate 5 refine Ab bz ?_
        iterate 2 refine As ?_
        refine Ab bz<|Ag (Am bz Z)<|A1 1 Z<|Au ?_
        cases h
        refine Aj Z ⟨g.ext,Z⟩
       refine Aa fc<|Ag (Ax 0 Z Bl.e g Z)<|Aa fc<|Av h fun kk jr h=>A6 g (By (a0:=a0) _ _ (Ao g) (c.mono  Ai) (a.mono  Ai) (b.mono  Ai) jr) fun qu ny dr l5=>Aa Z<|Ag (Am fc Z)<|Ag (Ak Z Z)<|Ar 1 Z<|BS 10 84 (.bool (kk&&((decide ((a0.2.2.2.2.2.2.2.2.2.2.1.length:Int)=0))||(decide (a0.2.1=7))))) (fun g4=>?_) ?_
       ·refine Bk (s:=74) Z (fun bv=>?_) (fun bv=>?_)
        ·refine Aa bv<|Ag (Af Z Aak Z Cx.e)<|Aa bv<|Ag (Ae 0 Z dr Z)<|Aa bv<|Ag (AT a)<|Aa bv<|Ag (Ad Z)<|Aa bv<|Ag (Ad Z)<|BS 4 83 (.bool ((decide ((a0.2.2.2.2.2.2.2.2.2.2.1.length:Int)=0))||(decide (a0.2.1=7)))) (fun g5=>?_) ?_
         ·refine Bk (s:=79) Z (fun dh=>?_) (fun dh=>?_)
          ·iterate 3 refine Ab dh ?_
           refine Aa bv<|Ag (Ak dh Z)<|g5.to 3 (GS dh) Z Z
          refine Aa dh<|Ag (Af Z Aak Z B4.e)<|Aa dh<|Ag (Ae 0 Z dr Z)<|Aa dh<|Ag (Ad Z)<|Aa bv<|Ag (Am dh Z)<|g5.to 3 (GU dh) Z Z
         refine Ag (Ak bv Z)<|g4.to 6 (FU bv) Z Z
        iterate 5 refine Ab bv ?_
        iterate 3 refine As ?_
        refine Ab bv<|Ag (Am bv Z)<|g4.to 9 (FV bv) Z Z
       refine Ar 1 Z<|Bg 85 h ?_ ?_<;>intro b0 h
       ·refine Aa b0<|Ag (Af Z Aak Z E4.e)<|Aa b0<|Ag (Ae 0 Z dr Z)<|Aa b0<|Ag (AT b)<|Aa b0<|Ag (Ad Z)<|Aa b0<|Ag (Ad Z)<|AQ 90 h ?_ ?_<;>intro fe h
        ·iterate 2 refine Ab fe ?_
         refine Aa b0<|Ag (Ak fe Z)<|Ag (Ak b0 Z)<|A1 1 Z<|Au ?_
         cases h
         refine Aj Z ⟨dr.ext,Z⟩
        refine Aa fe<|Ag (Ax 0 Z Bl.e dr Z)<|Aa fe<|Av h fun qv js h=>A6 dr (AO _ _ (Ao dr) a0 (c.mono  Ai) (a.mono  Ai) (b.mono  Ai) js) fun qw nz jt l6=>Aa b0<|Ag (Am fe Z)<|Ag (Ak b0 Z)<|A1 1 Z<|Au ?_
        cases h
        refine Aj Z ⟨jt.ext,Z⟩
       iterate 5 refine Ab b0 ?_
       iterate 2 refine As ?_
       refine Ab b0<|Ag (Am b0 Z)<|A1 1 Z<|Au ?_
       cases h
       refine Aj Z ⟨dr.ext,Z⟩
      refine Aa fb<|Ag (Ax 0 Z Bl.e g Z)<|Aa fb<|Av h fun qx ju h=>A6 g (BG (a0:=a0) _ _ (Ao g) (c.mono  Ai) (a.mono  Ai) (b.mono  Ai) ju) fun qy n0 b2 l7=>Aa Z<|Ag (Am fb Z)<|Ag (Ak Z Z)<|Ar 1 Z<|Bg 65 h ?_ ?_<;>intro b8 h
      ·refine Aa b8<|Ag (Af Z Aak Z B4.e)<|Aa b8<|Ag (Ae 0 Z b2 Z)<|Aa b8<|Ag (Ad Z)<|Aa b8<|Ag (Ad Z)<|AQ 69 h ?_ ?_<;>intro ff h
       ·iterate 2 refine Ab ff ?_
        refine Aa b8<|Ag (Ak ff Z)<|Ag (Ak b8 Z)<|Ar 1 Z<|Aa Z<|Ag (Af Z Aak Z Cx.e)<|Aa Z<|Ag (Ae 0 Z b2 Z)<|Aa Z<|Ag (AT a)<|Aa Z<|Ag (Ad Z)<|Aa Z<|Ag (Ad Z)<|BS 4 83 (.bool ((decide ((a0.2.2.2.2.2.2.2.2.2.2.1.length:Int)=0))||(decide (a0.2.1=7)))) (fun g6=>?_) ?_
        ·refine Bk (s:=79) Z (fun di=>?_) (fun di=>?_)
         ·iterate 3 refine Ab di ?_
          refine Aa Z<|Ag (Ak di Z)<|g6.to 3 (GS di) Z Z
         refine Aa di<|Ag (Af Z Aak Z B4.e)<|Aa di<|Ag (Ae 0 Z b2 Z)<|Aa di<|Ag (Ad Z)<|Aa Z<|Ag (Am di Z)<|g6.to 3 (GU di) Z Z
        refine Ag (Ak Z Z)<|Ar 1 Z<|Bg 85 h ?_ ?_<;>intro b3 h
        ·refine Aa b3<|Ag (Af Z Aak Z E4.e)<|Aa b3<|Ag (Ae 0 Z b2 Z)<|Aa b3<|Ag (AT b)<|Aa b3<|Ag (Ad Z)<|Aa b3<|Ag (Ad Z)<|AQ 90 h ?_ ?_<;>intro fg h
         ·iterate 2 refine Ab fg ?_
          refine Aa b3<|Ag (Ak fg Z)<|Ag (Ak b3 Z)<|A1 1 Z<|Au ?_
          cases h
          refine Aj Z ⟨b2.ext,Z⟩
         refine Aa fg<|Ag (Ax 0 Z Bl.e b2 Z)<|Aa fg<|Av h fun qz jv h=>A6 b2 (AO _ _ (Ao b2) a0 (c.mono  Ai) (a.mono  Ai) (b.mono  Ai) jv) fun q0 n1 jw l8=>Aa b3<|Ag (Am fg Z)<|Ag (Ak b3 Z)<|A1 1 Z<|Au ?_
         cases h
         refine Aj Z ⟨jw.ext,Z⟩
        iterate 5 refine Ab b3 ?_
        iterate 2 refine As ?_
        refine Ab b3<|Ag (Am b3 Z)<|A1 1 Z<|Au ?_
        cases h
        refine Aj Z ⟨b2.ext,Z⟩
       refine Aa ff<|Ag (Ax 0 Z Bl.e b2 Z)<|Aa ff<|Av h fun kl jx h=>A6 b2 (By (a0:=a0) _ _ (Ao b2) (c.mono  Ai) (a.mono  Ai) (b.mono  Ai) jx) fun q1 n2 ds l9=>Aa b8<|Ag (Am ff Z)<|Ag (Ak b8 Z)<|Ar 1 Z<|BS 10 84 (.bool (kl&&((decide ((a0.2.2.2.2.2.2.2.2.2.2.1.length:Int)=0))||(decide (a0.2.1=7))))) (fun g7=>?_) ?_
       ·refine Bk (s:=74) Z (fun bw=>?_) (fun bw=>?_)
        ·refine Aa bw<|Ag (Af Z Aak Z Cx.e)<|Aa bw<|Ag (Ae 0 Z ds Z)<|Aa bw<|Ag (AT a)<|Aa bw<|Ag (Ad Z)<|Aa bw<|Ag (Ad Z)<|BS 4 83 (.bool ((decide ((a0.2.2.2.2.2.2.2.2.2.2.1.length:Int)=0))||(decide (a0.2.1=7)))) (fun g8=>?_) ?_
         ·refine Bk (s:=79) Z (fun dj=>?_) (fun dj=>?_)
          ·iterate 3 refine Ab dj ?_
           refine Aa bw<|Ag (Ak dj Z)<|g8.to 3 (GS dj) Z Z
          refine Aa dj<|Ag (Af Z Aak Z B4.e)<|Aa dj<|Ag (Ae 0 Z ds Z)<|Aa dj<|Ag (Ad Z)<|Aa bw<|Ag (Am dj Z)<|g8.to 3 (GU dj) Z Z
         refine Ag (Ak bw Z)<|g7.to 6 (FU bw) Z Z
        iterate 5 refine Ab bw ?_
        iterate 3 refine As ?_
        refine Ab bw<|Ag (Am bw Z)<|g7.to 9 (FV bw) Z Z
       refine Ar 1 Z<|Bg 85 h ?_ ?_<;>intro b4 h
       ·refine Aa b4<|Ag (Af Z Aak Z E4.e)<|Aa b4<|Ag (Ae 0 Z ds Z)<|Aa b4<|Ag (AT b)<|Aa b4<|Ag (Ad Z)<|Aa b4<|Ag (Ad Z)<|AQ 90 h ?_ ?_<;>intro fh h
        ·iterate 2 refine Ab fh ?_
         refine Aa b4<|Ag (Ak fh Z)<|Ag (Ak b4 Z)<|A1 1 Z<|Au ?_
         cases h
         refine Aj Z ⟨ds.ext,Z⟩
        refine Aa fh<|Ag (Ax 0 Z Bl.e ds Z)<|Aa fh<|Av h fun q2 jy h=>A6 ds (AO _ _ (Ao ds) a0 (c.mono  Ai) (a.mono  Ai) (b.mono  Ai) jy) fun q3 n3 jz ma=>Aa b4<|Ag (Am fh Z)<|Ag (Ak b4 Z)<|A1 1 Z<|Au ?_
        cases h
        refine Aj Z ⟨jz.ext,Z⟩
       iterate 5 refine Ab b4 ?_
       iterate 2 refine As ?_
       refine Ab b4<|Ag (Am b4 Z)<|A1 1 Z<|Au ?_
       cases h
       refine Aj Z ⟨ds.ext,Z⟩
      iterate 4 refine Ab b8 ?_
      iterate 2 refine As ?_
      refine Ab b8<|Ag (Am b8 Z)<|Ar 1 Z ?_
      iterate 5 refine Ab Z ?_
      iterate 3 refine As ?_
      refine Ab Z<|Ag (Am Z Z)<|Ar 1 Z ?_
      iterate 5 refine Ab Z ?_
      iterate 2 refine As ?_
      refine Ab Z<|Ag (Am Z Z)<|A1 1 Z<|Au ?_
      cases h
      refine Aj Z ⟨b2.ext,Z⟩
     refine Aa fa<|Ag (Ax 0 Z Bl.e g Z)<|Aa fa<|Av h fun q4 j0 h=>A6 g (DU (a0:=a0) _ _ (Ao g) (c.mono  Ai) (a.mono  Ai) (b.mono  Ai) j0) fun q5 n4 ag mb=>Aa b7<|Ag (Am fa Z)<|Ag (Ak b7 Z)<|Ar 1 Z<|Bg 56 h ?_ ?_<;>intro b9 h
     ·refine Aa b9<|Ag (Af Z Aak Z B4.e)<|Aa b9<|Ag (Ae 0 Z ag Z)<|Aa b9<|Ag (Ad Z)<|Aa b9<|Ag (Ad Z)<|AQ 60 h ?_ ?_<;>intro fi h
      ·iterate 2 refine Ab fi ?_
       refine Aa b9<|Ag (Ak fi Z)<|Ag (Ak b9 Z)<|Ar 1 Z<|Aa Z<|Ag (Af Z Aak Z B4.e)<|Aa Z<|Ag (Ae 0 Z ag Z)<|Aa Z<|Ag (Ad Z)<|Aa Z<|Ag (Ad Z)<|AQ 69 h ?_ ?_<;>intro fj h
       ·iterate 2 refine Ab fj ?_
        refine Aa Z<|Ag (Ak fj Z)<|Ag (Ak Z Z)<|Ar 1 Z<|Aa Z<|Ag (Af Z Aak Z Cx.e)<|Aa Z<|Ag (Ae 0 Z ag Z)<|Aa Z<|Ag (AT a)<|Aa Z<|Ag (Ad Z)<|Aa Z<|Ag (Ad Z)<|BS 4 83 (.bool ((decide ((a0.2.2.2.2.2.2.2.2.2.2.1.length:Int)=0))||(decide (a0.2.1=7)))) (fun g9=>?_) ?_
        ·refine Bk (s:=79) Z (fun dk=>?_) (fun dk=>?_)
         ·iterate 3 refine Ab dk ?_
          refine Aa Z<|Ag (Ak dk Z)<|g9.to 3 (GS dk) Z Z
         refine Aa dk<|Ag (Af Z Aak Z B4.e)<|Aa dk<|Ag (Ae 0 Z ag Z)<|Aa dk<|Ag (Ad Z)<|Aa Z<|Ag (Am dk Z)<|g9.to 3 (GU dk) Z Z
        refine Ag (Ak Z Z)<|Ar 1 Z<|Bg 85 h ?_ ?_<;>intro b5 h
        ·refine Aa b5<|Ag (Af Z Aak Z E4.e)<|Aa b5<|Ag (Ae 0 Z ag Z)<|Aa b5<|Ag (AT b)<|Aa b5<|Ag (Ad Z)<|Aa b5<|Ag (Ad Z)<|AQ 90 h ?_ ?_<;>intro fk h
         ·iterate 2 refine Ab fk ?_
          refine Aa b5<|Ag (Ak fk Z)<|Ag (Ak b5 Z)<|A1 1 Z<|Au ?_
          cases h
          refine Aj Z ⟨ag.ext,Z⟩
         refine Aa fk<|Ag (Ax 0 Z Bl.e ag Z)<|Aa fk<|Av h fun q6 j1 h=>A6 ag (AO _ _ (Ao ag) a0 (c.mono  Ai) (a.mono  Ai) (b.mono  Ai) j1) fun q7 n5 j2 mc=>Aa b5<|Ag (Am fk Z)<|Ag (Ak b5 Z)<|A1 1 Z<|Au ?_
         cases h
         refine Aj Z ⟨j2.ext,Z⟩
        iterate 5 refine Ab b5 ?_
        iterate 2 refine As ?_
        refine Ab b5<|Ag (Am b5 Z)<|A1 1 Z<|Au ?_
        cases h
        refine Aj Z ⟨ag.ext,Z⟩
       refine Aa fj<|Ag (Ax 0 Z Bl.e ag Z)<|Aa fj<|Av h fun km j3 h=>A6 ag (By (a0:=a0) _ _ (Ao ag) (c.mono  Ai) (a.mono  Ai) (b.mono  Ai) j3) fun q8 n6 dt md=>Aa Z<|Ag (Am fj Z)<|Ag (Ak Z Z)<|Ar 1 Z<|BS 10 84 (.bool (km&&((decide ((a0.2.2.2.2.2.2.2.2.2.2.1.length:Int)=0))||(decide (a0.2.1=7))))) (fun ha=>?_) ?_
       ·refine Bk (s:=74) Z (fun bx=>?_) (fun bx=>?_)
        ·refine Aa bx<|Ag (Af Z Aak Z Cx.e)<|Aa bx<|Ag (Ae 0 Z dt Z)<|Aa bx<|Ag (AT a)<|Aa bx<|Ag (Ad Z)<|Aa bx<|Ag (Ad Z)<|BS 4 83 (.bool ((decide ((a0.2.2.2.2.2.2.2.2.2.2.1.length:Int)=0))||(decide (a0.2.1=7)))) (fun hb=>?_) ?_
         ·refine Bk (s:=79) Z (fun dl=>?_) (fun dl=>?_)
          ·iterate 3 refine Ab dl ?_
           refine Aa bx<|Ag (Ak dl Z)<|hb.to 3 (GS dl) Z Z
          refine Aa dl<|Ag (Af Z Aak Z B4.e)<|Aa dl<|Ag (Ae 0 Z dt Z)<|Aa dl<|Ag (Ad Z)<|Aa bx<|Ag (Am dl Z)<|hb.to 3 (GU dl) Z Z
         refine Ag (Ak bx Z)<|ha.to 6 (FU bx) Z Z
        iterate 5 refine Ab bx ?_
        iterate 3 refine As ?_
        refine Ab bx<|Ag (Am bx Z)<|ha.to 9 (FV bx) Z Z
       refine Ar 1 Z<|Bg 85 h ?_ ?_<;>intro b6 h
       ·refine Aa b6<|Ag (Af Z Aak Z E4.e)<|Aa b6<|Ag (Ae 0 Z dt Z)<|Aa b6<|Ag (AT b)<|Aa b6<|Ag (Ad Z)<|Aa b6<|Ag (Ad Z)<|AQ 90 h ?_ ?_<;>intro fl h
        ·iterate 2 refine Ab fl ?_
         refine Aa b6<|Ag (Ak fl Z)<|Ag (Ak b6 Z)<|A1 1 Z<|Au ?_
         cases h
         refine Aj Z ⟨dt.ext,Z⟩
        refine Aa fl<|Ag (Ax 0 Z Bl.e dt Z)<|Aa fl<|Av h fun q9 j4 h=>A6 dt (AO _ _ (Ao dt) a0 (c.mono  Ai) (a.mono  Ai) (b.mono  Ai) j4) fun n7 me hc kn=>Aa b6<|Ag (Am fl Z)<|Ag (Ak b6 Z)<|A1 1 Z<|Au ?_
        cases h
        refine Aj Z ⟨hc.ext,Z⟩
       iterate 5 refine Ab b6 ?_
       iterate 2 refine As ?_
       refine Ab b6<|Ag (Am b6 Z)<|A1 1 Z<|Au ?_
       cases h
       refine Aj Z ⟨dt.ext,Z⟩
      refine Aa fi<|Ag (Ax 0 Z Bl.e ag Z)<|Aa fi<|Av h fun n8 hd h=>A6 ag (BG (a0:=a0) _ _ (Ao ag) (c.mono  Ai) (a.mono  Ai) (b.mono  Ai) hd) fun n9 mf ah ko=>Aa b9<|Ag (Am fi Z)<|Ag (Ak b9 Z)<|Ar 1 Z<|Bg 65 h ?_ ?_<;>intro bh h
      ·refine Aa bh<|Ag (Af Z Aak Z B4.e)<|Aa bh<|Ag (Ae 0 Z ah Z)<|Aa bh<|Ag (Ad Z)<|Aa bh<|Ag (Ad Z)<|AQ 69 h ?_ ?_<;>intro du h
       ·iterate 2 refine Ab du ?_
        refine Aa bh<|Ag (Ak du Z)<|Ag (Ak bh Z)<|Ar 1 Z<|Aa Z<|Ag (Af Z Aak Z Cx.e)<|Aa Z<|Ag (Ae 0 Z ah Z)<|Aa Z<|Ag (AT a)<|Aa Z<|Ag (Ad Z)<|Aa Z<|Ag (Ad Z)<|BS 4 83 (.bool ((decide ((a0.2.2.2.2.2.2.2.2.2.2.1.length:Int)=0))||(decide (a0.2.1=7)))) (fun fr=>?_) ?_
        ·refine Bk (s:=79) Z (fun ca=>?_) (fun ca=>?_)
         ·iterate 3 refine Ab ca ?_
          refine Aa Z<|Ag (Ak ca Z)<|fr.to 3 (GS ca) Z Z
         refine Aa ca<|Ag (Af Z Aak Z B4.e)<|Aa ca<|Ag (Ae 0 Z ah Z)<|Aa ca<|Ag (Ad Z)<|Aa Z<|Ag (Am ca Z)<|fr.to 3 (GU ca) Z Z
        refine Ag (Ak Z Z)<|Ar 1 Z<|Bg 85 h ?_ ?_<;>intro ai h
        ·refine Aa ai<|Ag (Af Z Aak Z E4.e)<|Aa ai<|Ag (Ae 0 Z ah Z)<|Aa ai<|Ag (AT b)<|Aa ai<|Ag (Ad Z)<|Aa ai<|Ag (Ad Z)<|AQ 90 h ?_ ?_<;>intro dv h
         ·iterate 2 refine Ab dv ?_
          refine Aa ai<|Ag (Ak dv Z)<|Ag (Ak ai Z)<|A1 1 Z<|Au ?_
          cases h
          refine Aj Z ⟨ah.ext,Z⟩
         refine Aa dv<|Ag (Ax 0 Z Bl.e ah Z)<|Aa dv<|Av h fun oa he h=>A6 ah (AO _ _ (Ao ah) a0 (c.mono  Ai) (a.mono  Ai) (b.mono  Ai) he) fun ob mg hf kp=>Aa ai<|Ag (Am dv Z)<|Ag (Ak ai Z)<|A1 1 Z<|Au ?_
         cases h
         refine Aj Z ⟨hf.ext,Z⟩
        iterate 5 refine Ab ai ?_
        iterate 2 refine As ?_
        refine Ab ai<|Ag (Am ai Z)<|A1 1 Z<|Au ?_
        cases h
        refine Aj Z ⟨ah.ext,Z⟩
       refine Aa du<|Ag (Ax 0 Z Bl.e ah Z)<|Aa du<|Av h fun j5 hg h=>A6 ah (By (a0:=a0) _ _ (Ao ah) (c.mono  Ai) (a.mono  Ai) (b.mono  Ai) hg) fun oc mh c3 kq=>Aa bh<|Ag (Am du Z)<|Ag (Ak bh Z)<|Ar 1 Z<|BS 10 84 (.bool (j5&&((decide ((a0.2.2.2.2.2.2.2.2.2.2.1.length:Int)=0))||(decide (a0.2.1=7))))) (fun fs=>?_) ?_
       ·refine Bk (s:=74) Z (fun o=>?_) (fun o=>?_)
        ·refine Aa o<|Ag (Af Z Aak Z Cx.e)<|Aa o<|Ag (Ae 0 Z c3 Z)<|Aa o<|Ag (AT a)<|Aa o<|Ag (Ad Z)<|Aa o<|Ag (Ad Z)<|BS 4 83 (.bool ((decide ((a0.2.2.2.2.2.2.2.2.2.2.1.length:Int)=0))||(decide (a0.2.1=7)))) (fun ft=>?_) ?_
         ·refine Bk (s:=79) Z (fun cb=>?_) (fun cb=>?_)
          ·iterate 3 refine Ab cb ?_
           refine Aa o<|Ag (Ak cb Z)<|ft.to 3 (GS cb) Z Z
          refine Aa cb<|Ag (Af Z Aak Z B4.e)<|Aa cb<|Ag (Ae 0 Z c3 Z)<|Aa cb<|Ag (Ad Z)<|Aa o<|Ag (Am cb Z)<|ft.to 3 (GU cb) Z Z
         refine Ag (Ak o Z)<|fs.to 6 (FU o) Z Z
        iterate 5 refine Ab o ?_
        iterate 3 refine As ?_
        refine Ab o<|Ag (Am o Z)<|fs.to 9 (FV o) Z Z
       refine Ar 1 Z<|Bg 85 h ?_ ?_<;>intro aj h
       ·refine Aa aj<|Ag (Af Z Aak Z E4.e)<|Aa aj<|Ag (Ae 0 Z c3 Z)<|Aa aj<|Ag (AT b)<|Aa aj<|Ag (Ad Z)<|Aa aj<|Ag (Ad Z)<|AQ 90 h ?_ ?_<;>intro dw h
        ·iterate 2 refine Ab dw ?_
         refine Aa aj<|Ag (Ak dw Z)<|Ag (Ak aj Z)<|A1 1 Z<|Au ?_
         cases h
         refine Aj Z ⟨c3.ext,Z⟩
        refine Aa dw<|Ag (Ax 0 Z Bl.e c3 Z)<|Aa dw<|Av h fun od hh h=>A6 c3 (AO _ _ (Ao c3) a0 (c.mono  Ai) (a.mono  Ai) (b.mono  Ai) hh) fun oe mi hi kr=>Aa aj<|Ag (Am dw Z)<|Ag (Ak aj Z)<|A1 1 Z<|Au ?_
        cases h
        refine Aj Z ⟨hi.ext,Z⟩
       iterate 5 refine Ab aj ?_
       iterate 2 refine As ?_
       refine Ab aj<|Ag (Am aj Z)<|A1 1 Z<|Au ?_
       cases h
       refine Aj Z ⟨c3.ext,Z⟩
      iterate 4 refine Ab bh ?_
      iterate 2 refine As ?_
      refine Ab bh<|Ag (Am bh Z)<|Ar 1 Z ?_
      iterate 5 refine Ab Z ?_
      iterate 3 refine As ?_
      refine Ab Z<|Ag (Am Z Z)<|Ar 1 Z ?_
      iterate 5 refine Ab Z ?_
      iterate 2 refine As ?_
      refine Ab Z<|Ag (Am Z Z)<|A1 1 Z<|Au ?_
      cases h
      refine Aj Z ⟨ah.ext,Z⟩
     iterate 4 refine Ab b9 ?_
     iterate 2 refine As ?_
     refine Ab b9<|Ag (Am b9 Z)<|Ar 1 Z ?_
     iterate 4 refine Ab Z ?_
     iterate 2 refine As ?_
     refine Ab Z<|Ag (Am Z Z)<|Ar 1 Z ?_
     iterate 5 refine Ab Z ?_
     iterate 3 refine As ?_
     refine Ab Z<|Ag (Am Z Z)<|Ar 1 Z ?_
     iterate 5 refine Ab Z ?_
     iterate 2 refine As ?_
     refine Ab Z<|Ag (Am Z Z)<|A1 1 Z<|Au ?_
     cases h
     refine Aj Z ⟨ag.ext,Z⟩
    iterate 4 refine Ab b7 ?_
    iterate 2 refine As ?_
    refine Ab b7<|Ag (Am b7 Z)<|Ar 1 Z ?_
    iterate 4 refine Ab Z ?_
    iterate 2 refine As ?_
    refine Ab Z<|Ag (Am Z Z)<|Ar 1 Z ?_
    iterate 4 refine Ab Z ?_
    iterate 2 refine As ?_
    refine Ab Z<|Ag (Am Z Z)<|Ar 1 Z ?_
    iterate 5 refine Ab Z ?_
    iterate 3 refine As ?_
    refine Ab Z<|Ag (Am Z Z)<|Ar 1 Z ?_
    iterate 5 refine Ab Z ?_
    iterate 2 refine As ?_
    refine Ab Z<|Ag (Am Z Z)<|A1 1 Z<|Au ?_
    cases h
    refine Aj Z ⟨g.ext,Z⟩
   refine Aa fn<|Ag (Ax 0 Z Bl.e g Z)<|Aa fn<|Av h fun j6 hj h=>A6 g (GZ (a0:=a0) _ _ (Ao g) (c.mono  Ai) (a.mono  Ai) (b.mono  Ai) hj) fun og mj e ks=>Aa Z<|Ag (Am fn Z)<|Ag (Ak Z Z)<|Ar 1 Z<|BS 12 46 (.bool (j6&&(((!a0.2.2.2.2.1)&&(decide (a0.2.2.2.2.2.1=0)))||(decide (a0.2.1=2))))) (fun fu=>?_) ?_
   ·refine Bk (s:=34) Z (fun i=>?_) (fun i=>?_)
    ·refine Aa i<|Ag (Af Z Aak Z Fv.e)<|Aa i<|Ag (Ae 0 Z e Z)<|Aa i<|Ag (Ad Z)<|Aa i<|Ag (Ad Z)<|BS 4 42 (.bool ((!a0.2.2.2.2.1)&&(decide (a0.2.2.2.2.2.1=0)))) (fun fv=>?_) ?_
     ·refine Bk (s:=38) Z (fun cc=>?_) (fun cc=>?_)
      ·refine Aa cc<|Ag (Af Z Aak Z B4.e)<|Aa cc<|Ag (Ae 0 Z e Z)<|Aa cc<|Ag (Ad Z)<|Aa i<|Ag (Ak cc Z)<|fv.to 3 (FU cc) Z Z
      iterate 3 refine Ab cc ?_
      refine Aa i<|Ag (Am cc Z)<|fv.to 3 (FV cc) Z Z
     refine Aa i<|Ag (Ad Z)<|BS 2 45 (.bool (((!a0.2.2.2.2.1)&&(decide (a0.2.2.2.2.2.1=0)))||(decide (a0.2.1=2)))) (fun fw=>?_) ?_
     ·refine Bk (s:=43) Z (fun dm=>?_) (fun dm=>?_)
      ·refine Ab dm<|Aa i<|Ag (Ak dm Z)<|fw.to 1 (GS dm) Z Z
      refine Aa dm<|Ag (Ad Z)<|Aa i<|Ag (Am dm Z)<|fw.to 1 (GU dm) Z Z
     refine Ag (Ak i Z)<|fu.to 7 (FU i) Z Z
    iterate 4 refine Ab i ?_
    iterate 3 refine As ?_
    iterate 2 refine Ab i ?_
    refine As<|Ab i<|Ag (Am i Z)<|fu.to 11 (FV i) Z Z
   refine Ar 1 Z<|Bg 47 h ?_ ?_<;>intro bi h
   ·refine Aa bi<|Ag (Af Z Aak Z B4.e)<|Aa bi<|Ag (Ae 0 Z e Z)<|Aa bi<|Ag (Ad Z)<|Aa bi<|Ag (Ad Z)<|AQ 51 h ?_ ?_<;>intro dx h
    ·iterate 2 refine Ab dx ?_
     refine Aa bi<|Ag (Ak dx Z)<|Ag (Ak bi Z)<|Ar 1 Z<|Aa Z<|Ag (Af Z Aak Z B4.e)<|Aa Z<|Ag (Ae 0 Z e Z)<|Aa Z<|Ag (Ad Z)<|Aa Z<|Ag (Ad Z)<|AQ 60 h ?_ ?_<;>intro dy h
     ·iterate 2 refine Ab dy ?_
      refine Aa Z<|Ag (Ak dy Z)<|Ag (Ak Z Z)<|Ar 1 Z<|Aa Z<|Ag (Af Z Aak Z B4.e)<|Aa Z<|Ag (Ae 0 Z e Z)<|Aa Z<|Ag (Ad Z)<|Aa Z<|Ag (Ad Z)<|AQ 69 h ?_ ?_<;>intro dz h
      ·iterate 2 refine Ab dz ?_
       refine Aa Z<|Ag (Ak dz Z)<|Ag (Ak Z Z)<|Ar 1 Z<|Aa Z<|Ag (Af Z Aak Z Cx.e)<|Aa Z<|Ag (Ae 0 Z e Z)<|Aa Z<|Ag (AT a)<|Aa Z<|Ag (Ad Z)<|Aa Z<|Ag (Ad Z)<|BS 4 83 (.bool ((decide ((a0.2.2.2.2.2.2.2.2.2.2.1.length:Int)=0))||(decide (a0.2.1=7)))) (fun fx=>?_) ?_
       ·refine Bk (s:=79) Z (fun cd=>?_) (fun cd=>?_)
        ·iterate 3 refine Ab cd ?_
         refine Aa Z<|Ag (Ak cd Z)<|fx.to 3 (GS cd) Z Z
        refine Aa cd<|Ag (Af Z Aak Z B4.e)<|Aa cd<|Ag (Ae 0 Z e Z)<|Aa cd<|Ag (Ad Z)<|Aa Z<|Ag (Am cd Z)<|fx.to 3 (GU cd) Z Z
       refine Ag (Ak Z Z)<|Ar 1 Z<|Bg 85 h ?_ ?_<;>intro ak h
       ·refine Aa ak<|Ag (Af Z Aak Z E4.e)<|Aa ak<|Ag (Ae 0 Z e Z)<|Aa ak<|Ag (AT b)<|Aa ak<|Ag (Ad Z)<|Aa ak<|Ag (Ad Z)<|AQ 90 h ?_ ?_<;>intro d0 h
        ·iterate 2 refine Ab d0 ?_
         refine Aa ak<|Ag (Ak d0 Z)<|Ag (Ak ak Z)<|A1 1 Z<|Au ?_
         cases h
         refine Aj Z ⟨e.ext,Z⟩
        refine Aa d0<|Ag (Ax 0 Z Bl.e e Z)<|Aa d0<|Av h fun oh hk h=>A6 e (AO _ _ (Ao e) a0 (c.mono  Ai) (a.mono  Ai) (b.mono  Ai) hk) fun oi mk hl kt=>Aa ak<|Ag (Am d0 Z)<|Ag (Ak ak Z)<|A1 1 Z<|Au ?_
        cases h
        refine Aj Z ⟨hl.ext,Z⟩
       iterate 5 refine Ab ak ?_
       iterate 2 refine As ?_
       refine Ab ak<|Ag (Am ak Z)<|A1 1 Z<|Au ?_
       cases h
       refine Aj Z ⟨e.ext,Z⟩
      refine Aa dz<|Ag (Ax 0 Z Bl.e e Z)<|Aa dz<|Av h fun j7 hm h=>A6 e (By (a0:=a0) _ _ (Ao e) (c.mono  Ai) (a.mono  Ai) (b.mono  Ai) hm) fun oj ml c4 ku=>Aa Z<|Ag (Am dz Z)<|Ag (Ak Z Z)<|Ar 1 Z<|BS 10 84 (.bool (j7&&((decide ((a0.2.2.2.2.2.2.2.2.2.2.1.length:Int)=0))||(decide (a0.2.1=7))))) (fun fy=>?_) ?_
      ·refine Bk (s:=74) Z (fun p=>?_) (fun p=>?_)
       ·refine Aa p<|Ag (Af Z Aak Z Cx.e)<|Aa p<|Ag (Ae 0 Z c4 Z)<|Aa p<|Ag (AT a)<|Aa p<|Ag (Ad Z)<|Aa p<|Ag (Ad Z)<|BS 4 83 (.bool ((decide ((a0.2.2.2.2.2.2.2.2.2.2.1.length:Int)=0))||(decide (a0.2.1=7)))) (fun fz=>?_) ?_
        ·refine Bk (s:=79) Z (fun ce=>?_) (fun ce=>?_)
         ·iterate 3 refine Ab ce ?_
          refine Aa p<|Ag (Ak ce Z)<|fz.to 3 (GS ce) Z Z
         refine Aa ce<|Ag (Af Z Aak Z B4.e)<|Aa ce<|Ag (Ae 0 Z c4 Z)<|Aa ce<|Ag (Ad Z)<|Aa p<|Ag (Am ce Z)<|fz.to 3 (GU ce) Z Z
        refine Ag (Ak p Z)<|fy.to 6 (FU p) Z Z
       iterate 5 refine Ab p ?_
       iterate 3 refine As ?_
       refine Ab p<|Ag (Am p Z)<|fy.to 9 (FV p) Z Z
      refine Ar 1 Z<|Bg 85 h ?_ ?_<;>intro al h
      ·refine Aa al<|Ag (Af Z Aak Z E4.e)<|Aa al<|Ag (Ae 0 Z c4 Z)<|Aa al<|Ag (AT b)<|Aa al<|Ag (Ad Z)<|Aa al<|Ag (Ad Z)<|AQ 90 h ?_ ?_<;>intro d1 h
       ·iterate 2 refine Ab d1 ?_
        refine Aa al<|Ag (Ak d1 Z)<|Ag (Ak al Z)<|A1 1 Z<|Au ?_
        cases h
        refine Aj Z ⟨c4.ext,Z⟩
       refine Aa d1<|Ag (Ax 0 Z Bl.e c4 Z)<|Aa d1<|Av h fun ok hn h=>A6 c4 (AO _ _ (Ao c4) a0 (c.mono  Ai) (a.mono  Ai) (b.mono  Ai) hn) fun ol mm ho kv=>Aa al<|Ag (Am d1 Z)<|Ag (Ak al Z)<|A1 1 Z<|Au ?_
       cases h
       refine Aj Z ⟨ho.ext,Z⟩
      iterate 5 refine Ab al ?_
      iterate 2 refine As ?_
      refine Ab al<|Ag (Am al Z)<|A1 1 Z<|Au ?_
      cases h
      refine Aj Z ⟨c4.ext,Z⟩
     refine Aa dy<|Ag (Ax 0 Z Bl.e e Z)<|Aa dy<|Av h fun om hq h=>A6 e (BG (a0:=a0) _ _ (Ao e) (c.mono  Ai) (a.mono  Ai) (b.mono  Ai) hq) fun oo mn am kw=>Aa Z<|Ag (Am dy Z)<|Ag (Ak Z Z)<|Ar 1 Z<|Bg 65 h ?_ ?_<;>intro bj h
     ·refine Aa bj<|Ag (Af Z Aak Z B4.e)<|Aa bj<|Ag (Ae 0 Z am Z)<|Aa bj<|Ag (Ad Z)<|Aa bj<|Ag (Ad Z)<|AQ 69 h ?_ ?_<;>intro d2 h
      ·iterate 2 refine Ab d2 ?_
       refine Aa bj<|Ag (Ak d2 Z)<|Ag (Ak bj Z)<|Ar 1 Z<|Aa Z<|Ag (Af Z Aak Z Cx.e)<|Aa Z<|Ag (Ae 0 Z am Z)<|Aa Z<|Ag (AT a)<|Aa Z<|Ag (Ad Z)<|Aa Z<|Ag (Ad Z)<|BS 4 83 (.bool ((decide ((a0.2.2.2.2.2.2.2.2.2.2.1.length:Int)=0))||(decide (a0.2.1=7)))) (fun f0=>?_) ?_
       ·refine Bk (s:=79) Z (fun cf=>?_) (fun cf=>?_)
        ·iterate 3 refine Ab cf ?_
         refine Aa Z<|Ag (Ak cf Z)<|f0.to 3 (GS cf) Z Z
        refine Aa cf<|Ag (Af Z Aak Z B4.e)<|Aa cf<|Ag (Ae 0 Z am Z)<|Aa cf<|Ag (Ad Z)<|Aa Z<|Ag (Am cf Z)<|f0.to 3 (GU cf) Z Z
       refine Ag (Ak Z Z)<|Ar 1 Z<|Bg 85 h ?_ ?_<;>intro an h
       ·refine Aa an<|Ag (Af Z Aak Z E4.e)<|Aa an<|Ag (Ae 0 Z am Z)<|Aa an<|Ag (AT b)<|Aa an<|Ag (Ad Z)<|Aa an<|Ag (Ad Z)<|AQ 90 h ?_ ?_<;>intro d3 h
        ·iterate 2 refine Ab d3 ?_
         refine Aa an<|Ag (Ak d3 Z)<|Ag (Ak an Z)<|A1 1 Z<|Au ?_
         cases h
         refine Aj Z ⟨am.ext,Z⟩
        refine Aa d3<|Ag (Ax 0 Z Bl.e am Z)<|Aa d3<|Av h fun op hr h=>A6 am (AO _ _ (Ao am) a0 (c.mono  Ai) (a.mono  Ai) (b.mono  Ai) hr) fun oq mo hs kx=>Aa an<|Ag (Am d3 Z)<|Ag (Ak an Z)<|A1 1 Z<|Au ?_
        cases h
        refine Aj Z ⟨hs.ext,Z⟩
       iterate 5 refine Ab an ?_
       iterate 2 refine As ?_
       refine Ab an<|Ag (Am an Z)<|A1 1 Z<|Au ?_
       cases h
       refine Aj Z ⟨am.ext,Z⟩
      refine Aa d2<|Ag (Ax 0 Z Bl.e am Z)<|Aa d2<|Av h fun j8 ht h=>A6 am (By (a0:=a0) _ _ (Ao am) (c.mono  Ai) (a.mono  Ai) (b.mono  Ai) ht) fun os mp c5 ky=>Aa bj<|Ag (Am d2 Z)<|Ag (Ak bj Z)<|Ar 1 Z<|BS 10 84 (.bool (j8&&((decide ((a0.2.2.2.2.2.2.2.2.2.2.1.length:Int)=0))||(decide (a0.2.1=7))))) (fun f1=>?_) ?_
      ·refine Bk (s:=74) Z (fun q=>?_) (fun q=>?_)
       ·refine Aa q<|Ag (Af Z Aak Z Cx.e)<|Aa q<|Ag (Ae 0 Z c5 Z)<|Aa q<|Ag (AT a)<|Aa q<|Ag (Ad Z)<|Aa q<|Ag (Ad Z)<|BS 4 83 (.bool ((decide ((a0.2.2.2.2.2.2.2.2.2.2.1.length:Int)=0))||(decide (a0.2.1=7)))) (fun f2=>?_) ?_
        ·refine Bk (s:=79) Z (fun cg=>?_) (fun cg=>?_)
         ·iterate 3 refine Ab cg ?_
          refine Aa q<|Ag (Ak cg Z)<|f2.to 3 (GS cg) Z Z
         refine Aa cg<|Ag (Af Z Aak Z B4.e)<|Aa cg<|Ag (Ae 0 Z c5 Z)<|Aa cg<|Ag (Ad Z)<|Aa q<|Ag (Am cg Z)<|f2.to 3 (GU cg) Z Z
        refine Ag (Ak q Z)<|f1.to 6 (FU q) Z Z
       iterate 5 refine Ab q ?_
       iterate 3 refine As ?_
       refine Ab q<|Ag (Am q Z)<|f1.to 9 (FV q) Z Z
      refine Ar 1 Z<|Bg 85 h ?_ ?_<;>intro ao h
      ·refine Aa ao<|Ag (Af Z Aak Z E4.e)<|Aa ao<|Ag (Ae 0 Z c5 Z)<|Aa ao<|Ag (AT b)<|Aa ao<|Ag (Ad Z)<|Aa ao<|Ag (Ad Z)<|AQ 90 h ?_ ?_<;>intro d4 h
       ·iterate 2 refine Ab d4 ?_
        refine Aa ao<|Ag (Ak d4 Z)<|Ag (Ak ao Z)<|A1 1 Z<|Au ?_
        cases h
        refine Aj Z ⟨c5.ext,Z⟩
       refine Aa d4<|Ag (Ax 0 Z Bl.e c5 Z)<|Aa d4<|Av h fun ot hu h=>A6 c5 (AO _ _ (Ao c5) a0 (c.mono  Ai) (a.mono  Ai) (b.mono  Ai) hu) fun ou mq hv kz=>Aa ao<|Ag (Am d4 Z)<|Ag (Ak ao Z)<|A1 1 Z<|Au ?_
       cases h
       refine Aj Z ⟨hv.ext,Z⟩
      iterate 5 refine Ab ao ?_
      iterate 2 refine As ?_
      refine Ab ao<|Ag (Am ao Z)<|A1 1 Z<|Au ?_
      cases h
      refine Aj Z ⟨c5.ext,Z⟩
     iterate 4 refine Ab bj ?_
     iterate 2 refine As ?_
     refine Ab bj<|Ag (Am bj Z)<|Ar 1 Z ?_
     iterate 5 refine Ab Z ?_
     iterate 3 refine As ?_
     refine Ab Z<|Ag (Am Z Z)<|Ar 1 Z ?_
     iterate 5 refine Ab Z ?_
     iterate 2 refine As ?_
     refine Ab Z<|Ag (Am Z Z)<|A1 1 Z<|Au ?_
     cases h
     refine Aj Z ⟨am.ext,Z⟩
    refine Aa dx<|Ag (Ax 0 Z Bl.e e Z)<|Aa dx<|Av h fun ov hw h=>A6 e (DU (a0:=a0) _ _ (Ao e) (c.mono  Ai) (a.mono  Ai) (b.mono  Ai) hw) fun ow mr j k0=>Aa bi<|Ag (Am dx Z)<|Ag (Ak bi Z)<|Ar 1 Z<|Bg 56 h ?_ ?_<;>intro bk h
    ·refine Aa bk<|Ag (Af Z Aak Z B4.e)<|Aa bk<|Ag (Ae 0 Z j Z)<|Aa bk<|Ag (Ad Z)<|Aa bk<|Ag (Ad Z)<|AQ 60 h ?_ ?_<;>intro d5 h
     ·iterate 2 refine Ab d5 ?_
      refine Aa bk<|Ag (Ak d5 Z)<|Ag (Ak bk Z)<|Ar 1 Z<|Aa Z<|Ag (Af Z Aak Z B4.e)<|Aa Z<|Ag (Ae 0 Z j Z)<|Aa Z<|Ag (Ad Z)<|Aa Z<|Ag (Ad Z)<|AQ 69 h ?_ ?_<;>intro d6 h
      ·iterate 2 refine Ab d6 ?_
       refine Aa Z<|Ag (Ak d6 Z)<|Ag (Ak Z Z)<|Ar 1 Z<|Aa Z<|Ag (Af Z Aak Z Cx.e)<|Aa Z<|Ag (Ae 0 Z j Z)<|Aa Z<|Ag (AT a)<|Aa Z<|Ag (Ad Z)<|Aa Z<|Ag (Ad Z)<|BS 4 83 (.bool ((decide ((a0.2.2.2.2.2.2.2.2.2.2.1.length:Int)=0))||(decide (a0.2.1=7)))) (fun f3=>?_) ?_
       ·refine Bk (s:=79) Z (fun ch=>?_) (fun ch=>?_)
        ·iterate 3 refine Ab ch ?_
         refine Aa Z<|Ag (Ak ch Z)<|f3.to 3 (GS ch) Z Z
        refine Aa ch<|Ag (Af Z Aak Z B4.e)<|Aa ch<|Ag (Ae 0 Z j Z)<|Aa ch<|Ag (Ad Z)<|Aa Z<|Ag (Am ch Z)<|f3.to 3 (GU ch) Z Z
       refine Ag (Ak Z Z)<|Ar 1 Z<|Bg 85 h ?_ ?_<;>intro ap h
       ·refine Aa ap<|Ag (Af Z Aak Z E4.e)<|Aa ap<|Ag (Ae 0 Z j Z)<|Aa ap<|Ag (AT b)<|Aa ap<|Ag (Ad Z)<|Aa ap<|Ag (Ad Z)<|AQ 90 h ?_ ?_<;>intro d7 h
        ·iterate 2 refine Ab d7 ?_
         refine Aa ap<|Ag (Ak d7 Z)<|Ag (Ak ap Z)<|A1 1 Z<|Au ?_
         cases h
         refine Aj Z ⟨j.ext,Z⟩
        refine Aa d7<|Ag (Ax 0 Z Bl.e j Z)<|Aa d7<|Av h fun ox hx h=>A6 j (AO _ _ (Ao j) a0 (c.mono  Ai) (a.mono  Ai) (b.mono  Ai) hx) fun oy ms hy k1=>Aa ap<|Ag (Am d7 Z)<|Ag (Ak ap Z)<|A1 1 Z<|Au ?_
        cases h
        refine Aj Z ⟨hy.ext,Z⟩
       iterate 5 refine Ab ap ?_
       iterate 2 refine As ?_
       refine Ab ap<|Ag (Am ap Z)<|A1 1 Z<|Au ?_
       cases h
       refine Aj Z ⟨j.ext,Z⟩
      refine Aa d6<|Ag (Ax 0 Z Bl.e j Z)<|Aa d6<|Av h fun j9 hz h=>A6 j (By (a0:=a0) _ _ (Ao j) (c.mono  Ai) (a.mono  Ai) (b.mono  Ai) hz) fun oz mt c6 k2=>Aa Z<|Ag (Am d6 Z)<|Ag (Ak Z Z)<|Ar 1 Z<|BS 10 84 (.bool (j9&&((decide ((a0.2.2.2.2.2.2.2.2.2.2.1.length:Int)=0))||(decide (a0.2.1=7))))) (fun f4=>?_) ?_
      ·refine Bk (s:=74) Z (fun u=>?_) (fun u=>?_)
       ·refine Aa u<|Ag (Af Z Aak Z Cx.e)<|Aa u<|Ag (Ae 0 Z c6 Z)<|Aa u<|Ag (AT a)<|Aa u<|Ag (Ad Z)<|Aa u<|Ag (Ad Z)<|BS 4 83 (.bool ((decide ((a0.2.2.2.2.2.2.2.2.2.2.1.length:Int)=0))||(decide (a0.2.1=7)))) (fun f5=>?_) ?_
        ·refine Bk (s:=79) Z (fun ci=>?_) (fun ci=>?_)
         ·iterate 3 refine Ab ci ?_
          refine Aa u<|Ag (Ak ci Z)<|f5.to 3 (GS ci) Z Z
         refine Aa ci<|Ag (Af Z Aak Z B4.e)<|Aa ci<|Ag (Ae 0 Z c6 Z)<|Aa ci<|Ag (Ad Z)<|Aa u<|Ag (Am ci Z)<|f5.to 3 (GU ci) Z Z
        refine Ag (Ak u Z)<|f4.to 6 (FU u) Z Z
       iterate 5 refine Ab u ?_
       iterate 3 refine As ?_
       refine Ab u<|Ag (Am u Z)<|f4.to 9 (FV u) Z Z
      refine Ar 1 Z<|Bg 85 h ?_ ?_<;>intro aq h
      ·refine Aa aq<|Ag (Af Z Aak Z E4.e)<|Aa aq<|Ag (Ae 0 Z c6 Z)<|Aa aq<|Ag (AT b)<|Aa aq<|Ag (Ad Z)<|Aa aq<|Ag (Ad Z)<|AQ 90 h ?_ ?_<;>intro d8 h
       ·iterate 2 refine Ab d8 ?_
        refine Aa aq<|Ag (Ak d8 Z)<|Ag (Ak aq Z)<|A1 1 Z<|Au ?_
        cases h
        refine Aj Z ⟨c6.ext,Z⟩
       refine Aa d8<|Ag (Ax 0 Z Bl.e c6 Z)<|Aa d8<|Av h fun o0 h0 h=>A6 c6 (AO _ _ (Ao c6) a0 (c.mono  Ai) (a.mono  Ai) (b.mono  Ai) h0) fun o1 mu h1 k3=>Aa aq<|Ag (Am d8 Z)<|Ag (Ak aq Z)<|A1 1 Z<|Au ?_
       cases h
       refine Aj Z ⟨h1.ext,Z⟩
      iterate 5 refine Ab aq ?_
      iterate 2 refine As ?_
      refine Ab aq<|Ag (Am aq Z)<|A1 1 Z<|Au ?_
      cases h
      refine Aj Z ⟨c6.ext,Z⟩
     refine Aa d5<|Ag (Ax 0 Z Bl.e j Z)<|Aa d5<|Av h fun o2 h2 h=>A6 j (BG (a0:=a0) _ _ (Ao j) (c.mono  Ai) (a.mono  Ai) (b.mono  Ai) h2) fun o3 mv ar k4=>Aa bk<|Ag (Am d5 Z)<|Ag (Ak bk Z)<|Ar 1 Z<|Bg 65 h ?_ ?_<;>intro bl h
     ·refine Aa bl<|Ag (Af Z Aak Z B4.e)<|Aa bl<|Ag (Ae 0 Z ar Z)<|Aa bl<|Ag (Ad Z)<|Aa bl<|Ag (Ad Z)<|AQ 69 h ?_ ?_<;>intro d9 h
      ·iterate 2 refine Ab d9 ?_
       refine Aa bl<|Ag (Ak d9 Z)<|Ag (Ak bl Z)<|Ar 1 Z<|Aa Z<|Ag (Af Z Aak Z Cx.e)<|Aa Z<|Ag (Ae 0 Z ar Z)<|Aa Z<|Ag (AT a)<|Aa Z<|Ag (Ad Z)<|Aa Z<|Ag (Ad Z)<|BS 4 83 (.bool ((decide ((a0.2.2.2.2.2.2.2.2.2.2.1.length:Int)=0))||(decide (a0.2.1=7)))) (fun f6=>?_) ?_
       ·refine Bk (s:=79) Z (fun cj=>?_) (fun cj=>?_)
        ·iterate 3 refine Ab cj ?_
         refine Aa Z<|Ag (Ak cj Z)<|f6.to 3 (GS cj) Z Z
        refine Aa cj<|Ag (Af Z Aak Z B4.e)<|Aa cj<|Ag (Ae 0 Z ar Z)<|Aa cj<|Ag (Ad Z)<|Aa Z<|Ag (Am cj Z)<|f6.to 3 (GU cj) Z Z
       refine Ag (Ak Z Z)<|Ar 1 Z<|Bg 85 h ?_ ?_<;>intro au h
       ·refine Aa au<|Ag (Af Z Aak Z E4.e)<|Aa au<|Ag (Ae 0 Z ar Z)<|Aa au<|Ag (AT b)<|Aa au<|Ag (Ad Z)<|Aa au<|Ag (Ad Z)<|AQ 90 h ?_ ?_<;>intro ea h
        ·iterate 2 refine Ab ea ?_
         refine Aa au<|Ag (Ak ea Z)<|Ag (Ak au Z)<|A1 1 Z<|Au ?_
         cases h
         refine Aj Z ⟨ar.ext,Z⟩
        refine Aa ea<|Ag (Ax 0 Z Bl.e ar Z)<|Aa ea<|Av h fun o4 h3 h=>A6 ar (AO _ _ (Ao ar) a0 (c.mono  Ai) (a.mono  Ai) (b.mono  Ai) h3) fun o5 mw h4 k5=>Aa au<|Ag (Am ea Z)<|Ag (Ak au Z)<|A1 1 Z<|Au ?_
        cases h
        refine Aj Z ⟨h4.ext,Z⟩
       iterate 5 refine Ab au ?_
       iterate 2 refine As ?_
       refine Ab au<|Ag (Am au Z)<|A1 1 Z<|Au ?_
       cases h
       refine Aj Z ⟨ar.ext,Z⟩
      refine Aa d9<|Ag (Ax 0 Z Bl.e ar Z)<|Aa d9<|Av h fun ka h5 h=>A6 ar (By (a0:=a0) _ _ (Ao ar) (c.mono  Ai) (a.mono  Ai) (b.mono  Ai) h5) fun o6 mx c7 k6=>Aa bl<|Ag (Am d9 Z)<|Ag (Ak bl Z)<|Ar 1 Z<|BS 10 84 (.bool (ka&&((decide ((a0.2.2.2.2.2.2.2.2.2.2.1.length:Int)=0))||(decide (a0.2.1=7))))) (fun f7=>?_) ?_
      ·refine Bk (s:=74) Z (fun x=>?_) (fun x=>?_)
       ·refine Aa x<|Ag (Af Z Aak Z Cx.e)<|Aa x<|Ag (Ae 0 Z c7 Z)<|Aa x<|Ag (AT a)<|Aa x<|Ag (Ad Z)<|Aa x<|Ag (Ad Z)<|BS 4 83 (.bool ((decide ((a0.2.2.2.2.2.2.2.2.2.2.1.length:Int)=0))||(decide (a0.2.1=7)))) (fun f8=>?_) ?_
        ·refine Bk (s:=79) Z (fun ck=>?_) (fun ck=>?_)
         ·iterate 3 refine Ab ck ?_
          refine Aa x<|Ag (Ak ck Z)<|f8.to 3 (GS ck) Z Z
         refine Aa ck<|Ag (Af Z Aak Z B4.e)<|Aa ck<|Ag (Ae 0 Z c7 Z)<|Aa ck<|Ag (Ad Z)<|Aa x<|Ag (Am ck Z)<|f8.to 3 (GU ck) Z Z
        refine Ag (Ak x Z)<|f7.to 6 (FU x) Z Z
       iterate 5 refine Ab x ?_
       iterate 3 refine As ?_
       refine Ab x<|Ag (Am x Z)<|f7.to 9 (FV x) Z Z
      refine Ar 1 Z<|Bg 85 h ?_ ?_<;>intro av h
      ·refine Aa av<|Ag (Af Z Aak Z E4.e)<|Aa av<|Ag (Ae 0 Z c7 Z)<|Aa av<|Ag (AT b)<|Aa av<|Ag (Ad Z)<|Aa av<|Ag (Ad Z)<|AQ 90 h ?_ ?_<;>intro eb h
       ·iterate 2 refine Ab eb ?_
        refine Aa av<|Ag (Ak eb Z)<|Ag (Ak av Z)<|A1 1 Z<|Au ?_
        cases h
        refine Aj Z ⟨c7.ext,Z⟩
       refine Aa eb<|Ag (Ax 0 Z Bl.e c7 Z)<|Aa eb<|Av h fun o7 h6 h=>A6 c7 (AO _ _ (Ao c7) a0 (c.mono  Ai) (a.mono  Ai) (b.mono  Ai) h6) fun o8 my h7 k7=>Aa av<|Ag (Am eb Z)<|Ag (Ak av Z)<|A1 1 Z<|Au ?_
       cases h
       refine Aj Z ⟨h7.ext,Z⟩
      iterate 5 refine Ab av ?_
      iterate 2 refine As ?_
      refine Ab av<|Ag (Am av Z)<|A1 1 Z<|Au ?_
      cases h
      refine Aj Z ⟨c7.ext,Z⟩
     iterate 4 refine Ab bl ?_
     iterate 2 refine As ?_
     refine Ab bl<|Ag (Am bl Z)<|Ar 1 Z ?_
     iterate 5 refine Ab Z ?_
     iterate 3 refine As ?_
     refine Ab Z<|Ag (Am Z Z)<|Ar 1 Z ?_
     iterate 5 refine Ab Z ?_
     iterate 2 refine As ?_
     refine Ab Z<|Ag (Am Z Z)<|A1 1 Z<|Au ?_
     cases h
     refine Aj Z ⟨ar.ext,Z⟩
    iterate 4 refine Ab bk ?_
    iterate 2 refine As ?_
    refine Ab bk<|Ag (Am bk Z)<|Ar 1 Z ?_
    iterate 4 refine Ab Z ?_
    iterate 2 refine As ?_
    refine Ab Z<|Ag (Am Z Z)<|Ar 1 Z ?_
    iterate 5 refine Ab Z ?_
    iterate 3 refine As ?_
    refine Ab Z<|Ag (Am Z Z)<|Ar 1 Z ?_
    iterate 5 refine Ab Z ?_
    iterate 2 refine As ?_
    refine Ab Z<|Ag (Am Z Z)<|A1 1 Z<|Au ?_
    cases h
    refine Aj Z ⟨j.ext,Z⟩
   iterate 4 refine Ab bi ?_
   iterate 2 refine As ?_
   refine Ab bi<|Ag (Am bi Z)<|Ar 1 Z ?_
   iterate 4 refine Ab Z ?_
   iterate 2 refine As ?_
   refine Ab Z<|Ag (Am Z Z)<|Ar 1 Z ?_
   iterate 4 refine Ab Z ?_
   iterate 2 refine As ?_
   refine Ab Z<|Ag (Am Z Z)<|Ar 1 Z ?_
   iterate 5 refine Ab Z ?_
   iterate 3 refine As ?_
   refine Ab Z<|Ag (Am Z Z)<|Ar 1 Z ?_
   iterate 5 refine Ab Z ?_
   iterate 2 refine As ?_
   refine Ab Z<|Ag (Am Z Z)<|A1 1 Z<|Au ?_
   cases h
   refine Aj Z ⟨e.ext,Z⟩
  refine Aa fm<|Ag (Ax 0 Z Bl.e g Z)<|Aa fm<|Av h fun o9 h8 h=>A6 g (GW (a0:=a0) _ _ (Ao g) (c.mono  Ai) (a.mono  Ai) (b.mono  Ai) h8) fun pa mz d k8=>Aa dq<|Ag (Am fm Z)<|Ag (Ak dq Z)<|Ar 1 Z<|Bg 25 h ?_ ?_<;>intro bm h
  ·refine Aa bm<|Ag (Af Z Aak Z B4.e)<|Aa bm<|Ag (Ae 0 Z d Z)<|Aa bm<|Ag (Ad Z)<|Aa bm<|Ag (Ad Z)<|AQ 29 h ?_ ?_<;>intro ec h
   ·iterate 2 refine Ab ec ?_
    refine Aa bm<|Ag (Ak ec Z)<|Ag (Ak bm Z)<|Ar 1 Z<|Aa Z<|Ag (Af Z Aak Z Fv.e)<|Aa Z<|Ag (Ae 0 Z d Z)<|Aa Z<|Ag (Ad Z)<|Aa Z<|Ag (Ad Z)<|BS 4 42 (.bool ((!a0.2.2.2.2.1)&&(decide (a0.2.2.2.2.2.1=0)))) (fun f9=>?_) ?_
    ·refine Bk (s:=38) Z (fun cl=>?_) (fun cl=>?_)
     ·refine Aa cl<|Ag (Af Z Aak Z B4.e)<|Aa cl<|Ag (Ae 0 Z d Z)<|Aa cl<|Ag (Ad Z)<|Aa Z<|Ag (Ak cl Z)<|f9.to 3 (FU cl) Z Z
     iterate 3 refine Ab cl ?_
     refine Aa Z<|Ag (Am cl Z)<|f9.to 3 (FV cl) Z Z
    refine Aa Z<|Ag (Ad Z)<|BS 2 45 (.bool (((!a0.2.2.2.2.1)&&(decide (a0.2.2.2.2.2.1=0)))||(decide (a0.2.1=2)))) (fun ga=>?_) ?_
    ·refine Bk (s:=43) Z (fun dn=>?_) (fun dn=>?_)
     ·refine Ab dn<|Aa Z<|Ag (Ak dn Z)<|ga.to 1 (GS dn) Z Z
     refine Aa dn<|Ag (Ad Z)<|Aa Z<|Ag (Am dn Z)<|ga.to 1 (GU dn) Z Z
    refine Ag (Ak Z Z)<|Ar 1 Z<|Bg 47 h ?_ ?_<;>intro bn h
    ·refine Aa bn<|Ag (Af Z Aak Z B4.e)<|Aa bn<|Ag (Ae 0 Z d Z)<|Aa bn<|Ag (Ad Z)<|Aa bn<|Ag (Ad Z)<|AQ 51 h ?_ ?_<;>intro ed h
     ·iterate 2 refine Ab ed ?_
      refine Aa bn<|Ag (Ak ed Z)<|Ag (Ak bn Z)<|Ar 1 Z<|Aa Z<|Ag (Af Z Aak Z B4.e)<|Aa Z<|Ag (Ae 0 Z d Z)<|Aa Z<|Ag (Ad Z)<|Aa Z<|Ag (Ad Z)<|AQ 60 h ?_ ?_<;>intro ee h
      ·iterate 2 refine Ab ee ?_
       refine Aa Z<|Ag (Ak ee Z)<|Ag (Ak Z Z)<|Ar 1 Z<|Aa Z<|Ag (Af Z Aak Z B4.e)<|Aa Z<|Ag (Ae 0 Z d Z)<|Aa Z<|Ag (Ad Z)<|Aa Z<|Ag (Ad Z)<|AQ 69 h ?_ ?_<;>intro ef h
       ·iterate 2 refine Ab ef ?_
        refine Aa Z<|Ag (Ak ef Z)<|Ag (Ak Z Z)<|Ar 1 Z<|Aa Z<|Ag (Af Z Aak Z Cx.e)<|Aa Z<|Ag (Ae 0 Z d Z)<|Aa Z<|Ag (AT a)<|Aa Z<|Ag (Ad Z)<|Aa Z<|Ag (Ad Z)<|BS 4 83 (.bool ((decide ((a0.2.2.2.2.2.2.2.2.2.2.1.length:Int)=0))||(decide (a0.2.1=7)))) (fun gb=>?_) ?_
        ·refine Bk (s:=79) Z (fun cm=>?_) (fun cm=>?_)
         ·iterate 3 refine Ab cm ?_
          refine Aa Z<|Ag (Ak cm Z)<|gb.to 3 (GS cm) Z Z
         refine Aa cm<|Ag (Af Z Aak Z B4.e)<|Aa cm<|Ag (Ae 0 Z d Z)<|Aa cm<|Ag (Ad Z)<|Aa Z<|Ag (Am cm Z)<|gb.to 3 (GU cm) Z Z
        refine Ag (Ak Z Z)<|Ar 1 Z<|Bg 85 h ?_ ?_<;>intro aw h
        ·refine Aa aw<|Ag (Af Z Aak Z E4.e)<|Aa aw<|Ag (Ae 0 Z d Z)<|Aa aw<|Ag (AT b)<|Aa aw<|Ag (Ad Z)<|Aa aw<|Ag (Ad Z)<|AQ 90 h ?_ ?_<;>intro eg h
         ·iterate 2 refine Ab eg ?_
          refine Aa aw<|Ag (Ak eg Z)<|Ag (Ak aw Z)<|A1 1 Z<|Au ?_
          cases h
          refine Aj Z ⟨d.ext,Z⟩
         refine Aa eg<|Ag (Ax 0 Z Bl.e d Z)<|Aa eg<|Av h fun pb h9 h=>A6 d (AO _ _ (Ao d) a0 (c.mono  Ai) (a.mono  Ai) (b.mono  Ai) h9) fun pc m0 ia k9=>Aa aw<|Ag (Am eg Z)<|Ag (Ak aw Z)<|A1 1 Z<|Au ?_
         cases h
         refine Aj Z ⟨ia.ext,Z⟩
        iterate 5 refine Ab aw ?_
        iterate 2 refine As ?_
        refine Ab aw<|Ag (Am aw Z)<|A1 1 Z<|Au ?_
        cases h
        refine Aj Z ⟨d.ext,Z⟩
       refine Aa ef<|Ag (Ax 0 Z Bl.e d Z)<|Aa ef<|Av h fun kb ib h=>A6 d (By (a0:=a0) _ _ (Ao d) (c.mono  Ai) (a.mono  Ai) (b.mono  Ai) ib) fun pd m1 c8 la=>Aa Z<|Ag (Am ef Z)<|Ag (Ak Z Z)<|Ar 1 Z<|BS 10 84 (.bool (kb&&((decide ((a0.2.2.2.2.2.2.2.2.2.2.1.length:Int)=0))||(decide (a0.2.1=7))))) (fun gc=>?_) ?_
       ·refine Bk (s:=74) Z (fun y=>?_) (fun y=>?_)
        ·refine Aa y<|Ag (Af Z Aak Z Cx.e)<|Aa y<|Ag (Ae 0 Z c8 Z)<|Aa y<|Ag (AT a)<|Aa y<|Ag (Ad Z)<|Aa y<|Ag (Ad Z)<|BS 4 83 (.bool ((decide ((a0.2.2.2.2.2.2.2.2.2.2.1.length:Int)=0))||(decide (a0.2.1=7)))) (fun gd=>?_) ?_
         ·refine Bk (s:=79) Z (fun cn=>?_) (fun cn=>?_)
          ·iterate 3 refine Ab cn ?_
           refine Aa y<|Ag (Ak cn Z)<|gd.to 3 (GS cn) Z Z
          refine Aa cn<|Ag (Af Z Aak Z B4.e)<|Aa cn<|Ag (Ae 0 Z c8 Z)<|Aa cn<|Ag (Ad Z)<|Aa y<|Ag (Am cn Z)<|gd.to 3 (GU cn) Z Z
         refine Ag (Ak y Z)<|gc.to 6 (FU y) Z Z
        iterate 5 refine Ab y ?_
        iterate 3 refine As ?_
        refine Ab y<|Ag (Am y Z)<|gc.to 9 (FV y) Z Z
       refine Ar 1 Z<|Bg 85 h ?_ ?_<;>intro ax h
       ·refine Aa ax<|Ag (Af Z Aak Z E4.e)<|Aa ax<|Ag (Ae 0 Z c8 Z)<|Aa ax<|Ag (AT b)<|Aa ax<|Ag (Ad Z)<|Aa ax<|Ag (Ad Z)<|AQ 90 h ?_ ?_<;>intro eh h
        ·iterate 2 refine Ab eh ?_
         refine Aa ax<|Ag (Ak eh Z)<|Ag (Ak ax Z)<|A1 1 Z<|Au ?_
         cases h
         refine Aj Z ⟨c8.ext,Z⟩
        refine Aa eh<|Ag (Ax 0 Z Bl.e c8 Z)<|Aa eh<|Av h fun pe ic h=>A6 c8 (AO _ _ (Ao c8) a0 (c.mono  Ai) (a.mono  Ai) (b.mono  Ai) ic) fun pf m2 ie lb=>Aa ax<|Ag (Am eh Z)<|Ag (Ak ax Z)<|A1 1 Z<|Au ?_
        cases h
        refine Aj Z ⟨ie.ext,Z⟩
       iterate 5 refine Ab ax ?_
       iterate 2 refine As ?_
       refine Ab ax<|Ag (Am ax Z)<|A1 1 Z<|Au ?_
       cases h
       refine Aj Z ⟨c8.ext,Z⟩
      refine Aa ee<|Ag (Ax 0 Z Bl.e d Z)<|Aa ee<|Av h fun pg ig h=>A6 d (BG (a0:=a0) _ _ (Ao d) (c.mono  Ai) (a.mono  Ai) (b.mono  Ai) ig) fun ph m3 ay lc=>Aa Z<|Ag (Am ee Z)<|Ag (Ak Z Z)<|Ar 1 Z<|Bg 65 h ?_ ?_<;>intro bo h
      ·refine Aa bo<|Ag (Af Z Aak Z B4.e)<|Aa bo<|Ag (Ae 0 Z ay Z)<|Aa bo<|Ag (Ad Z)<|Aa bo<|Ag (Ad Z)<|AQ 69 h ?_ ?_<;>intro ei h
       ·iterate 2 refine Ab ei ?_
        refine Aa bo<|Ag (Ak ei Z)<|Ag (Ak bo Z)<|Ar 1 Z<|Aa Z<|Ag (Af Z Aak Z Cx.e)<|Aa Z<|Ag (Ae 0 Z ay Z)<|Aa Z<|Ag (AT a)<|Aa Z<|Ag (Ad Z)<|Aa Z<|Ag (Ad Z)<|BS 4 83 (.bool ((decide ((a0.2.2.2.2.2.2.2.2.2.2.1.length:Int)=0))||(decide (a0.2.1=7)))) (fun ge=>?_) ?_
        ·refine Bk (s:=79) Z (fun co=>?_) (fun co=>?_)
         ·iterate 3 refine Ab co ?_
          refine Aa Z<|Ag (Ak co Z)<|ge.to 3 (GS co) Z Z
         refine Aa co<|Ag (Af Z Aak Z B4.e)<|Aa co<|Ag (Ae 0 Z ay Z)<|Aa co<|Ag (Ad Z)<|Aa Z<|Ag (Am co Z)<|ge.to 3 (GU co) Z Z
        refine Ag (Ak Z Z)<|Ar 1 Z<|Bg 85 h ?_ ?_<;>intro az h
        ·refine Aa az<|Ag (Af Z Aak Z E4.e)<|Aa az<|Ag (Ae 0 Z ay Z)<|Aa az<|Ag (AT b)<|Aa az<|Ag (Ad Z)<|Aa az<|Ag (Ad Z)<|AQ 90 h ?_ ?_<;>intro ej h
         ·iterate 2 refine Ab ej ?_
          refine Aa az<|Ag (Ak ej Z)<|Ag (Ak az Z)<|A1 1 Z<|Au ?_
          cases h
          refine Aj Z ⟨ay.ext,Z⟩
         refine Aa ej<|Ag (Ax 0 Z Bl.e ay Z)<|Aa ej<|Av h fun pi ih h=>A6 ay (AO _ _ (Ao ay) a0 (c.mono  Ai) (a.mono  Ai) (b.mono  Ai) ih) fun pj m4 ii ld=>Aa az<|Ag (Am ej Z)<|Ag (Ak az Z)<|A1 1 Z<|Au ?_
         cases h
         refine Aj Z ⟨ii.ext,Z⟩
        iterate 5 refine Ab az ?_
        iterate 2 refine As ?_
        refine Ab az<|Ag (Am az Z)<|A1 1 Z<|Au ?_
        cases h
        refine Aj Z ⟨ay.ext,Z⟩
       refine Aa ei<|Ag (Ax 0 Z Bl.e ay Z)<|Aa ei<|Av h fun kc ij h=>A6 ay (By (a0:=a0) _ _ (Ao ay) (c.mono  Ai) (a.mono  Ai) (b.mono  Ai) ij) fun pk m5 c9 le=>Aa bo<|Ag (Am ei Z)<|Ag (Ak bo Z)<|Ar 1 Z<|BS 10 84 (.bool (kc&&((decide ((a0.2.2.2.2.2.2.2.2.2.2.1.length:Int)=0))||(decide (a0.2.1=7))))) (fun gf=>?_) ?_
       ·refine Bk (s:=74) Z (fun z=>?_) (fun z=>?_)
        ·refine Aa z<|Ag (Af Z Aak Z Cx.e)<|Aa z<|Ag (Ae 0 Z c9 Z)<|Aa z<|Ag (AT a)<|Aa z<|Ag (Ad Z)<|Aa z<|Ag (Ad Z)<|BS 4 83 (.bool ((decide ((a0.2.2.2.2.2.2.2.2.2.2.1.length:Int)=0))||(decide (a0.2.1=7)))) (fun gg=>?_) ?_
         ·refine Bk (s:=79) Z (fun cp=>?_) (fun cp=>?_)
          ·iterate 3 refine Ab cp ?_
           refine Aa z<|Ag (Ak cp Z)<|gg.to 3 (GS cp) Z Z
          refine Aa cp<|Ag (Af Z Aak Z B4.e)<|Aa cp<|Ag (Ae 0 Z c9 Z)<|Aa cp<|Ag (Ad Z)<|Aa z<|Ag (Am cp Z)<|gg.to 3 (GU cp) Z Z
         refine Ag (Ak z Z)<|gf.to 6 (FU z) Z Z
        iterate 5 refine Ab z ?_
        iterate 3 refine As ?_
        refine Ab z<|Ag (Am z Z)<|gf.to 9 (FV z) Z Z
       refine Ar 1 Z<|Bg 85 h ?_ ?_<;>intro a1 h
       ·refine Aa a1<|Ag (Af Z Aak Z E4.e)<|Aa a1<|Ag (Ae 0 Z c9 Z)<|Aa a1<|Ag (AT b)<|Aa a1<|Ag (Ad Z)<|Aa a1<|Ag (Ad Z)<|AQ 90 h ?_ ?_<;>intro ek h
        ·iterate 2 refine Ab ek ?_
         refine Aa a1<|Ag (Ak ek Z)<|Ag (Ak a1 Z)<|A1 1 Z<|Au ?_
         cases h
         refine Aj Z ⟨c9.ext,Z⟩
        refine Aa ek<|Ag (Ax 0 Z Bl.e c9 Z)<|Aa ek<|Av h fun pl ik h=>A6 c9 (AO _ _ (Ao c9) a0 (c.mono  Ai) (a.mono  Ai) (b.mono  Ai) ik) fun pm m6 il lf=>Aa a1<|Ag (Am ek Z)<|Ag (Ak a1 Z)<|A1 1 Z<|Au ?_
        cases h
        refine Aj Z ⟨il.ext,Z⟩
       iterate 5 refine Ab a1 ?_
       iterate 2 refine As ?_
       refine Ab a1<|Ag (Am a1 Z)<|A1 1 Z<|Au ?_
       cases h
       refine Aj Z ⟨c9.ext,Z⟩
      iterate 4 refine Ab bo ?_
      iterate 2 refine As ?_
      refine Ab bo<|Ag (Am bo Z)<|Ar 1 Z ?_
      iterate 5 refine Ab Z ?_
      iterate 3 refine As ?_
      refine Ab Z<|Ag (Am Z Z)<|Ar 1 Z ?_
      iterate 5 refine Ab Z ?_
      iterate 2 refine As ?_
      refine Ab Z<|Ag (Am Z Z)<|A1 1 Z<|Au ?_
      cases h
      refine Aj Z ⟨ay.ext,Z⟩
     refine Aa ed<|Ag (Ax 0 Z Bl.e d Z)<|Aa ed<|Av h fun pn im h=>A6 d (DU (a0:=a0) _ _ (Ao d) (c.mono  Ai) (a.mono  Ai) (b.mono  Ai) im) fun po m7 k lg=>Aa bn<|Ag (Am ed Z)<|Ag (Ak bn Z)<|Ar 1 Z<|Bg 56 h ?_ ?_<;>intro bp h
     ·refine Aa bp<|Ag (Af Z Aak Z B4.e)<|Aa bp<|Ag (Ae 0 Z k Z)<|Aa bp<|Ag (Ad Z)<|Aa bp<|Ag (Ad Z)<|AQ 60 h ?_ ?_<;>intro el h
      ·iterate 2 refine Ab el ?_
       refine Aa bp<|Ag (Ak el Z)<|Ag (Ak bp Z)<|Ar 1 Z<|Aa Z<|Ag (Af Z Aak Z B4.e)<|Aa Z<|Ag (Ae 0 Z k Z)<|Aa Z<|Ag (Ad Z)<|Aa Z<|Ag (Ad Z)<|AQ 69 h ?_ ?_<;>intro em h
       ·iterate 2 refine Ab em ?_
        refine Aa Z<|Ag (Ak em Z)<|Ag (Ak Z Z)<|Ar 1 Z<|Aa Z<|Ag (Af Z Aak Z Cx.e)<|Aa Z<|Ag (Ae 0 Z k Z)<|Aa Z<|Ag (AT a)<|Aa Z<|Ag (Ad Z)<|Aa Z<|Ag (Ad Z)<|BS 4 83 (.bool ((decide ((a0.2.2.2.2.2.2.2.2.2.2.1.length:Int)=0))||(decide (a0.2.1=7)))) (fun gh=>?_) ?_
        ·refine Bk (s:=79) Z (fun cq=>?_) (fun cq=>?_)
         ·iterate 3 refine Ab cq ?_
          refine Aa Z<|Ag (Ak cq Z)<|gh.to 3 (GS cq) Z Z
         refine Aa cq<|Ag (Af Z Aak Z B4.e)<|Aa cq<|Ag (Ae 0 Z k Z)<|Aa cq<|Ag (Ad Z)<|Aa Z<|Ag (Am cq Z)<|gh.to 3 (GU cq) Z Z
        refine Ag (Ak Z Z)<|Ar 1 Z<|Bg 85 h ?_ ?_<;>intro a2 h
        ·refine Aa a2<|Ag (Af Z Aak Z E4.e)<|Aa a2<|Ag (Ae 0 Z k Z)<|Aa a2<|Ag (AT b)<|Aa a2<|Ag (Ad Z)<|Aa a2<|Ag (Ad Z)<|AQ 90 h ?_ ?_<;>intro en h
         ·iterate 2 refine Ab en ?_
          refine Aa a2<|Ag (Ak en Z)<|Ag (Ak a2 Z)<|A1 1 Z<|Au ?_
          cases h
          refine Aj Z ⟨k.ext,Z⟩
         refine Aa en<|Ag (Ax 0 Z Bl.e k Z)<|Aa en<|Av h fun pp io h=>A6 k (AO _ _ (Ao k) a0 (c.mono  Ai) (a.mono  Ai) (b.mono  Ai) io) fun pq m8 ip lh=>Aa a2<|Ag (Am en Z)<|Ag (Ak a2 Z)<|A1 1 Z<|Au ?_
         cases h
         refine Aj Z ⟨ip.ext,Z⟩
        iterate 5 refine Ab a2 ?_
        iterate 2 refine As ?_
        refine Ab a2<|Ag (Am a2 Z)<|A1 1 Z<|Au ?_
        cases h
        refine Aj Z ⟨k.ext,Z⟩
       refine Aa em<|Ag (Ax 0 Z Bl.e k Z)<|Aa em<|Av h fun kd iq h=>A6 k (By (a0:=a0) _ _ (Ao k) (c.mono  Ai) (a.mono  Ai) (b.mono  Ai) iq) fun pr m9 da li=>Aa Z<|Ag (Am em Z)<|Ag (Ak Z Z)<|Ar 1 Z<|BS 10 84 (.bool (kd&&((decide ((a0.2.2.2.2.2.2.2.2.2.2.1.length:Int)=0))||(decide (a0.2.1=7))))) (fun gi=>?_) ?_
       ·refine Bk (s:=74) Z (fun aa=>?_) (fun aa=>?_)
        ·refine Aa aa<|Ag (Af Z Aak Z Cx.e)<|Aa aa<|Ag (Ae 0 Z da Z)<|Aa aa<|Ag (AT a)<|Aa aa<|Ag (Ad Z)<|Aa aa<|Ag (Ad Z)<|BS 4 83 (.bool ((decide ((a0.2.2.2.2.2.2.2.2.2.2.1.length:Int)=0))||(decide (a0.2.1=7)))) (fun gj=>?_) ?_
         ·refine Bk (s:=79) Z (fun cr=>?_) (fun cr=>?_)
          ·iterate 3 refine Ab cr ?_
           refine Aa aa<|Ag (Ak cr Z)<|gj.to 3 (GS cr) Z Z
          refine Aa cr<|Ag (Af Z Aak Z B4.e)<|Aa cr<|Ag (Ae 0 Z da Z)<|Aa cr<|Ag (Ad Z)<|Aa aa<|Ag (Am cr Z)<|gj.to 3 (GU cr) Z Z
         refine Ag (Ak aa Z)<|gi.to 6 (FU aa) Z Z
        iterate 5 refine Ab aa ?_
        iterate 3 refine As ?_
        refine Ab aa<|Ag (Am aa Z)<|gi.to 9 (FV aa) Z Z
       refine Ar 1 Z<|Bg 85 h ?_ ?_<;>intro a3 h
       ·refine Aa a3<|Ag (Af Z Aak Z E4.e)<|Aa a3<|Ag (Ae 0 Z da Z)<|Aa a3<|Ag (AT b)<|Aa a3<|Ag (Ad Z)<|Aa a3<|Ag (Ad Z)<|AQ 90 h ?_ ?_<;>intro eo h
        ·iterate 2 refine Ab eo ?_
         refine Aa a3<|Ag (Ak eo Z)<|Ag (Ak a3 Z)<|A1 1 Z<|Au ?_
         cases h
         refine Aj Z ⟨da.ext,Z⟩
        refine Aa eo<|Ag (Ax 0 Z Bl.e da Z)<|Aa eo<|Av h fun ps ir h=>A6 da (AO _ _ (Ao da) a0 (c.mono  Ai) (a.mono  Ai) (b.mono  Ai) ir) fun pt na is lj=>Aa a3<|Ag (Am eo Z)<|Ag (Ak a3 Z)<|A1 1 Z<|Au ?_
        cases h
        refine Aj Z ⟨is.ext,Z⟩
       iterate 5 refine Ab a3 ?_
       iterate 2 refine As ?_
       refine Ab a3<|Ag (Am a3 Z)<|A1 1 Z<|Au ?_
       cases h
       refine Aj Z ⟨da.ext,Z⟩
      refine Aa el<|Ag (Ax 0 Z Bl.e k Z)<|Aa el<|Av h fun pu it h=>A6 k (BG (a0:=a0) _ _ (Ao k) (c.mono  Ai) (a.mono  Ai) (b.mono  Ai) it) fun pv nb a4 lk=>Aa bp<|Ag (Am el Z)<|Ag (Ak bp Z)<|Ar 1 Z<|Bg 65 h ?_ ?_<;>intro bq h
      ·refine Aa bq<|Ag (Af Z Aak Z B4.e)<|Aa bq<|Ag (Ae 0 Z a4 Z)<|Aa bq<|Ag (Ad Z)<|Aa bq<|Ag (Ad Z)<|AQ 69 h ?_ ?_<;>intro ep h
       ·iterate 2 refine Ab ep ?_
        refine Aa bq<|Ag (Ak ep Z)<|Ag (Ak bq Z)<|Ar 1 Z<|Aa Z<|Ag (Af Z Aak Z Cx.e)<|Aa Z<|Ag (Ae 0 Z a4 Z)<|Aa Z<|Ag (AT a)<|Aa Z<|Ag (Ad Z)<|Aa Z<|Ag (Ad Z)<|BS 4 83 (.bool ((decide ((a0.2.2.2.2.2.2.2.2.2.2.1.length:Int)=0))||(decide (a0.2.1=7)))) (fun gk=>?_) ?_
        ·refine Bk (s:=79) Z (fun cs=>?_) (fun cs=>?_)
         ·iterate 3 refine Ab cs ?_
          refine Aa Z<|Ag (Ak cs Z)<|gk.to 3 (GS cs) Z Z
         refine Aa cs<|Ag (Af Z Aak Z B4.e)<|Aa cs<|Ag (Ae 0 Z a4 Z)<|Aa cs<|Ag (Ad Z)<|Aa Z<|Ag (Am cs Z)<|gk.to 3 (GU cs) Z Z
        refine Ag (Ak Z Z)<|Ar 1 Z<|Bg 85 h ?_ ?_<;>intro a5 h
        ·refine Aa a5<|Ag (Af Z Aak Z E4.e)<|Aa a5<|Ag (Ae 0 Z a4 Z)<|Aa a5<|Ag (AT b)<|Aa a5<|Ag (Ad Z)<|Aa a5<|Ag (Ad Z)<|AQ 90 h ?_ ?_<;>intro eq h
         ·iterate 2 refine Ab eq ?_
          refine Aa a5<|Ag (Ak eq Z)<|Ag (Ak a5 Z)<|A1 1 Z<|Au ?_
          cases h
          refine Aj Z ⟨a4.ext,Z⟩
         refine Aa eq<|Ag (Ax 0 Z Bl.e a4 Z)<|Aa eq<|Av h fun pw iu h=>A6 a4 (AO _ _ (Ao a4) a0 (c.mono  Ai) (a.mono  Ai) (b.mono  Ai) iu) fun px nc iv ll=>Aa a5<|Ag (Am eq Z)<|Ag (Ak a5 Z)<|A1 1 Z<|Au ?_
         cases h
         refine Aj Z ⟨iv.ext,Z⟩
        iterate 5 refine Ab a5 ?_
        iterate 2 refine As ?_
        refine Ab a5<|Ag (Am a5 Z)<|A1 1 Z<|Au ?_
        cases h
        refine Aj Z ⟨a4.ext,Z⟩
       refine Aa ep<|Ag (Ax 0 Z Bl.e a4 Z)<|Aa ep<|Av h fun ke iw h=>A6 a4 (By (a0:=a0) _ _ (Ao a4) (c.mono  Ai) (a.mono  Ai) (b.mono  Ai) iw) fun py nd db lm=>Aa bq<|Ag (Am ep Z)<|Ag (Ak bq Z)<|Ar 1 Z<|BS 10 84 (.bool (ke&&((decide ((a0.2.2.2.2.2.2.2.2.2.2.1.length:Int)=0))||(decide (a0.2.1=7))))) (fun gl=>?_) ?_
       ·refine Bk (s:=74) Z (fun ab=>?_) (fun ab=>?_)
        ·refine Aa ab<|Ag (Af Z Aak Z Cx.e)<|Aa ab<|Ag (Ae 0 Z db Z)<|Aa ab<|Ag (AT a)<|Aa ab<|Ag (Ad Z)<|Aa ab<|Ag (Ad Z)<|BS 4 83 (.bool ((decide ((a0.2.2.2.2.2.2.2.2.2.2.1.length:Int)=0))||(decide (a0.2.1=7)))) (fun gm=>?_) ?_
         ·refine Bk (s:=79) Z (fun ct=>?_) (fun ct=>?_)
          ·iterate 3 refine Ab ct ?_
           refine Aa ab<|Ag (Ak ct Z)<|gm.to 3 (GS ct) Z Z
          refine Aa ct<|Ag (Af Z Aak Z B4.e)<|Aa ct<|Ag (Ae 0 Z db Z)<|Aa ct<|Ag (Ad Z)<|Aa ab<|Ag (Am ct Z)<|gm.to 3 (GU ct) Z Z
         refine Ag (Ak ab Z)<|gl.to 6 (FU ab) Z Z
        iterate 5 refine Ab ab ?_
        iterate 3 refine As ?_
        refine Ab ab<|Ag (Am ab Z)<|gl.to 9 (FV ab) Z Z
       refine Ar 1 Z<|Bg 85 h ?_ ?_<;>intro a6 h
       ·refine Aa a6<|Ag (Af Z Aak Z E4.e)<|Aa a6<|Ag (Ae 0 Z db Z)<|Aa a6<|Ag (AT b)<|Aa a6<|Ag (Ad Z)<|Aa a6<|Ag (Ad Z)<|AQ 90 h ?_ ?_<;>intro er h
        ·iterate 2 refine Ab er ?_
         refine Aa a6<|Ag (Ak er Z)<|Ag (Ak a6 Z)<|A1 1 Z<|Au ?_
         cases h
         refine Aj Z ⟨db.ext,Z⟩
        refine Aa er<|Ag (Ax 0 Z Bl.e db Z)<|Aa er<|Av h fun pz ix h=>A6 db (AO _ _ (Ao db) a0 (c.mono  Ai) (a.mono  Ai) (b.mono  Ai) ix) fun p0 nf iy ln=>Aa a6<|Ag (Am er Z)<|Ag (Ak a6 Z)<|A1 1 Z<|Au ?_
        cases h
        refine Aj Z ⟨iy.ext,Z⟩
       iterate 5 refine Ab a6 ?_
       iterate 2 refine As ?_
       refine Ab a6<|Ag (Am a6 Z)<|A1 1 Z<|Au ?_
       cases h
       refine Aj Z ⟨db.ext,Z⟩
      iterate 4 refine Ab bq ?_
      iterate 2 refine As ?_
      refine Ab bq<|Ag (Am bq Z)<|Ar 1 Z ?_
      iterate 5 refine Ab Z ?_
      iterate 3 refine As ?_
      refine Ab Z<|Ag (Am Z Z)<|Ar 1 Z ?_
      iterate 5 refine Ab Z ?_
      iterate 2 refine As ?_
      refine Ab Z<|Ag (Am Z Z)<|A1 1 Z<|Au ?_
      cases h
      refine Aj Z ⟨a4.ext,Z⟩
     iterate 4 refine Ab bp ?_
     iterate 2 refine As ?_
     refine Ab bp<|Ag (Am bp Z)<|Ar 1 Z ?_
     iterate 4 refine Ab Z ?_
     iterate 2 refine As ?_
     refine Ab Z<|Ag (Am Z Z)<|Ar 1 Z ?_
     iterate 5 refine Ab Z ?_
     iterate 3 refine As ?_
     refine Ab Z<|Ag (Am Z Z)<|Ar 1 Z ?_
     iterate 5 refine Ab Z ?_
     iterate 2 refine As ?_
     refine Ab Z<|Ag (Am Z Z)<|A1 1 Z<|Au ?_
     cases h
     refine Aj Z ⟨k.ext,Z⟩
    iterate 4 refine Ab bn ?_
    iterate 2 refine As ?_
    refine Ab bn<|Ag (Am bn Z)<|Ar 1 Z ?_
    iterate 4 refine Ab Z ?_
    iterate 2 refine As ?_
    refine Ab Z<|Ag (Am Z Z)<|Ar 1 Z ?_
    iterate 4 refine Ab Z ?_
    iterate 2 refine As ?_
    refine Ab Z<|Ag (Am Z Z)<|Ar 1 Z ?_
    iterate 5 refine Ab Z ?_
    iterate 3 refine As ?_
    refine Ab Z<|Ag (Am Z Z)<|Ar 1 Z ?_
    iterate 5 refine Ab Z ?_
    iterate 2 refine As ?_
    refine Ab Z<|Ag (Am Z Z)<|A1 1 Z<|Au ?_
    cases h
    refine Aj Z ⟨d.ext,Z⟩
   refine Aa ec<|Ag (Ax 0 Z Bl.e d Z)<|Aa ec<|Av h fun kf iz h=>A6 d (GZ (a0:=a0) _ _ (Ao d) (c.mono  Ai) (a.mono  Ai) (b.mono  Ai) iz) fun p1 ng f lo=>Aa bm<|Ag (Am ec Z)<|Ag (Ak bm Z)<|Ar 1 Z<|BS 12 46 (.bool (kf&&(((!a0.2.2.2.2.1)&&(decide (a0.2.2.2.2.2.1=0)))||(decide (a0.2.1=2))))) (fun gn=>?_) ?_
   ·refine Bk (s:=34) Z (fun l=>?_) (fun l=>?_)
    ·refine Aa l<|Ag (Af Z Aak Z Fv.e)<|Aa l<|Ag (Ae 0 Z f Z)<|Aa l<|Ag (Ad Z)<|Aa l<|Ag (Ad Z)<|BS 4 42 (.bool ((!a0.2.2.2.2.1)&&(decide (a0.2.2.2.2.2.1=0)))) (fun go=>?_) ?_
     ·refine Bk (s:=38) Z (fun cu=>?_) (fun cu=>?_)
      ·refine Aa cu<|Ag (Af Z Aak Z B4.e)<|Aa cu<|Ag (Ae 0 Z f Z)<|Aa cu<|Ag (Ad Z)<|Aa l<|Ag (Ak cu Z)<|go.to 3 (FU cu) Z Z
      iterate 3 refine Ab cu ?_
      refine Aa l<|Ag (Am cu Z)<|go.to 3 (FV cu) Z Z
     refine Aa l<|Ag (Ad Z)<|BS 2 45 (.bool (((!a0.2.2.2.2.1)&&(decide (a0.2.2.2.2.2.1=0)))||(decide (a0.2.1=2)))) (fun gp=>?_) ?_
     ·refine Bk (s:=43) Z (fun dp=>?_) (fun dp=>?_)
      ·refine Ab dp<|Aa l<|Ag (Ak dp Z)<|gp.to 1 (GS dp) Z Z
      refine Aa dp<|Ag (Ad Z)<|Aa l<|Ag (Am dp Z)<|gp.to 1 (GU dp) Z Z
     refine Ag (Ak l Z)<|gn.to 7 (FU l) Z Z
    iterate 4 refine Ab l ?_
    iterate 3 refine As ?_
    iterate 2 refine Ab l ?_
    refine As<|Ab l<|Ag (Am l Z)<|gn.to 11 (FV l) Z Z
   refine Ar 1 Z<|Bg 47 h ?_ ?_<;>intro br h
   ·refine Aa br<|Ag (Af Z Aak Z B4.e)<|Aa br<|Ag (Ae 0 Z f Z)<|Aa br<|Ag (Ad Z)<|Aa br<|Ag (Ad Z)<|AQ 51 h ?_ ?_<;>intro es h
    ·iterate 2 refine Ab es ?_
     refine Aa br<|Ag (Ak es Z)<|Ag (Ak br Z)<|Ar 1 Z<|Aa Z<|Ag (Af Z Aak Z B4.e)<|Aa Z<|Ag (Ae 0 Z f Z)<|Aa Z<|Ag (Ad Z)<|Aa Z<|Ag (Ad Z)<|AQ 60 h ?_ ?_<;>intro et h
     ·iterate 2 refine Ab et ?_
      refine Aa Z<|Ag (Ak et Z)<|Ag (Ak Z Z)<|Ar 1 Z<|Aa Z<|Ag (Af Z Aak Z B4.e)<|Aa Z<|Ag (Ae 0 Z f Z)<|Aa Z<|Ag (Ad Z)<|Aa Z<|Ag (Ad Z)<|AQ 69 h ?_ ?_<;>intro eu h
      ·iterate 2 refine Ab eu ?_
       refine Aa Z<|Ag (Ak eu Z)<|Ag (Ak Z Z)<|Ar 1 Z<|Aa Z<|Ag (Af Z Aak Z Cx.e)<|Aa Z<|Ag (Ae 0 Z f Z)<|Aa Z<|Ag (AT a)<|Aa Z<|Ag (Ad Z)<|Aa Z<|Ag (Ad Z)<|BS 4 83 (.bool ((decide ((a0.2.2.2.2.2.2.2.2.2.2.1.length:Int)=0))||(decide (a0.2.1=7)))) (fun gq=>?_) ?_
       ·refine Bk (s:=79) Z (fun cv=>?_) (fun cv=>?_)
        ·iterate 3 refine Ab cv ?_
         refine Aa Z<|Ag (Ak cv Z)<|gq.to 3 (GS cv) Z Z
        refine Aa cv<|Ag (Af Z Aak Z B4.e)<|Aa cv<|Ag (Ae 0 Z f Z)<|Aa cv<|Ag (Ad Z)<|Aa Z<|Ag (Am cv Z)<|gq.to 3 (GU cv) Z Z
       refine Ag (Ak Z Z)<|Ar 1 Z<|Bg 85 h ?_ ?_<;>intro a7 h
       ·refine Aa a7<|Ag (Af Z Aak Z E4.e)<|Aa a7<|Ag (Ae 0 Z f Z)<|Aa a7<|Ag (AT b)<|Aa a7<|Ag (Ad Z)<|Aa a7<|Ag (Ad Z)<|AQ 90 h ?_ ?_<;>intro ev h
        ·iterate 2 refine Ab ev ?_
         refine Aa a7<|Ag (Ak ev Z)<|Ag (Ak a7 Z)<|A1 1 Z<|Au ?_
         cases h
         refine Aj Z ⟨f.ext,Z⟩
        refine Aa ev<|Ag (Ax 0 Z Bl.e f Z)<|Aa ev<|Av h fun p2 i0 h=>A6 f (AO _ _ (Ao f) a0 (c.mono  Ai) (a.mono  Ai) (b.mono  Ai) i0) fun p3 nh i1 lp=>Aa a7<|Ag (Am ev Z)<|Ag (Ak a7 Z)<|A1 1 Z<|Au ?_
        cases h
        refine Aj Z ⟨i1.ext,Z⟩
       iterate 5 refine Ab a7 ?_
       iterate 2 refine As ?_
       refine Ab a7<|Ag (Am a7 Z)<|A1 1 Z<|Au ?_
       cases h
       refine Aj Z ⟨f.ext,Z⟩
      refine Aa eu<|Ag (Ax 0 Z Bl.e f Z)<|Aa eu<|Av h fun kg i2 h=>A6 f (By (a0:=a0) _ _ (Ao f) (c.mono  Ai) (a.mono  Ai) (b.mono  Ai) i2) fun p4 ni dc lq=>Aa Z<|Ag (Am eu Z)<|Ag (Ak Z Z)<|Ar 1 Z<|BS 10 84 (.bool (kg&&((decide ((a0.2.2.2.2.2.2.2.2.2.2.1.length:Int)=0))||(decide (a0.2.1=7))))) (fun gr=>?_) ?_
      ·refine Bk (s:=74) Z (fun ac=>?_) (fun ac=>?_)
       ·refine Aa ac<|Ag (Af Z Aak Z Cx.e)<|Aa ac<|Ag (Ae 0 Z dc Z)<|Aa ac<|Ag (AT a)<|Aa ac<|Ag (Ad Z)<|Aa ac<|Ag (Ad Z)<|BS 4 83 (.bool ((decide ((a0.2.2.2.2.2.2.2.2.2.2.1.length:Int)=0))||(decide (a0.2.1=7)))) (fun gs=>?_) ?_
        ·refine Bk (s:=79) Z (fun cw=>?_) (fun cw=>?_)
         ·iterate 3 refine Ab cw ?_
          refine Aa ac<|Ag (Ak cw Z)<|gs.to 3 (GS cw) Z Z
         refine Aa cw<|Ag (Af Z Aak Z B4.e)<|Aa cw<|Ag (Ae 0 Z dc Z)<|Aa cw<|Ag (Ad Z)<|Aa ac<|Ag (Am cw Z)<|gs.to 3 (GU cw) Z Z
        refine Ag (Ak ac Z)<|gr.to 6 (FU ac) Z Z
       iterate 5 refine Ab ac ?_
       iterate 3 refine As ?_
       refine Ab ac<|Ag (Am ac Z)<|gr.to 9 (FV ac) Z Z
      refine Ar 1 Z<|Bg 85 h ?_ ?_<;>intro a8 h
      ·refine Aa a8<|Ag (Af Z Aak Z E4.e)<|Aa a8<|Ag (Ae 0 Z dc Z)<|Aa a8<|Ag (AT b)<|Aa a8<|Ag (Ad Z)<|Aa a8<|Ag (Ad Z)<|AQ 90 h ?_ ?_<;>intro ew h
       ·iterate 2 refine Ab ew ?_
        refine Aa a8<|Ag (Ak ew Z)<|Ag (Ak a8 Z)<|A1 1 Z<|Au ?_
        cases h
        refine Aj Z ⟨dc.ext,Z⟩
       refine Aa ew<|Ag (Ax 0 Z Bl.e dc Z)<|Aa ew<|Av h fun p5 i3 h=>A6 dc (AO _ _ (Ao dc) a0 (c.mono  Ai) (a.mono  Ai) (b.mono  Ai) i3) fun p6 nj i4 lr=>Aa a8<|Ag (Am ew Z)<|Ag (Ak a8 Z)<|A1 1 Z<|Au ?_
       cases h
       refine Aj Z ⟨i4.ext,Z⟩
      iterate 5 refine Ab a8 ?_
      iterate 2 refine As ?_
      refine Ab a8<|Ag (Am a8 Z)<|A1 1 Z<|Au ?_
      cases h
      refine Aj Z ⟨dc.ext,Z⟩
     refine Aa et<|Ag (Ax 0 Z Bl.e f Z)<|Aa et<|Av h fun p7 i5 h=>A6 f (BG (a0:=a0) _ _ (Ao f) (c.mono  Ai) (a.mono  Ai) (b.mono  Ai) i5) fun p8 nk a9 ls=>Aa Z<|Ag (Am et Z)<|Ag (Ak Z Z)<|Ar 1 Z<|Bg 65 h ?_ ?_<;>intro bs h
     ·refine Aa bs<|Ag (Af Z Aak Z B4.e)<|Aa bs<|Ag (Ae 0 Z a9 Z)<|Aa bs<|Ag (Ad Z)<|Aa bs<|Ag (Ad Z)<|AQ 69 h ?_ ?_<;>intro ex h
      ·iterate 2 refine Ab ex ?_
       refine Aa bs<|Ag (Ak ex Z)<|Ag (Ak bs Z)<|Ar 1 Z<|Aa Z<|Ag (Af Z Aak Z Cx.e)<|Aa Z<|Ag (Ae 0 Z a9 Z)<|Aa Z<|Ag (AT a)<|Aa Z<|Ag (Ad Z)<|Aa Z<|Ag (Ad Z)<|BS 4 83 (.bool ((decide ((a0.2.2.2.2.2.2.2.2.2.2.1.length:Int)=0))||(decide (a0.2.1=7)))) (fun gt=>?_) ?_
       ·refine Bk (s:=79) Z (fun cx=>?_) (fun cx=>?_)
        ·iterate 3 refine Ab cx ?_
         refine Aa Z<|Ag (Ak cx Z)<|gt.to 3 (GS cx) Z Z
        refine Aa cx<|Ag (Af Z Aak Z B4.e)<|Aa cx<|Ag (Ae 0 Z a9 Z)<|Aa cx<|Ag (Ad Z)<|Aa Z<|Ag (Am cx Z)<|gt.to 3 (GU cx) Z Z
       refine Ag (Ak Z Z)<|Ar 1 Z<|Bg 85 h ?_ ?_<;>intro ba h
       ·refine Aa ba<|Ag (Af Z Aak Z E4.e)<|Aa ba<|Ag (Ae 0 Z a9 Z)<|Aa ba<|Ag (AT b)<|Aa ba<|Ag (Ad Z)<|Aa ba<|Ag (Ad Z)<|AQ 90 h ?_ ?_<;>intro ey h
        ·iterate 2 refine Ab ey ?_
         refine Aa ba<|Ag (Ak ey Z)<|Ag (Ak ba Z)<|A1 1 Z<|Au ?_
         cases h
         refine Aj Z ⟨a9.ext,Z⟩
        refine Aa ey<|Ag (Ax 0 Z Bl.e a9 Z)<|Aa ey<|Av h fun p9 i6 h=>A6 a9 (AO _ _ (Ao a9) a0 (c.mono  Ai) (a.mono  Ai) (b.mono  Ai) i6) fun qa nl i7 lt=>Aa ba<|Ag (Am ey Z)<|Ag (Ak ba Z)<|A1 1 Z<|Au ?_
        cases h
        refine Aj Z ⟨i7.ext,Z⟩
       iterate 5 refine Ab ba ?_
       iterate 2 refine As ?_
       refine Ab ba<|Ag (Am ba Z)<|A1 1 Z<|Au ?_
       cases h
       refine Aj Z ⟨a9.ext,Z⟩
      refine Aa ex<|Ag (Ax 0 Z Bl.e a9 Z)<|Aa ex<|Av h fun kh i8 h=>A6 a9 (By (a0:=a0) _ _ (Ao a9) (c.mono  Ai) (a.mono  Ai) (b.mono  Ai) i8) fun qb nm dd lu=>Aa bs<|Ag (Am ex Z)<|Ag (Ak bs Z)<|Ar 1 Z<|BS 10 84 (.bool (kh&&((decide ((a0.2.2.2.2.2.2.2.2.2.2.1.length:Int)=0))||(decide (a0.2.1=7))))) (fun gu=>?_) ?_
      ·refine Bk (s:=74) Z (fun ad=>?_) (fun ad=>?_)
       ·refine Aa ad<|Ag (Af Z Aak Z Cx.e)<|Aa ad<|Ag (Ae 0 Z dd Z)<|Aa ad<|Ag (AT a)<|Aa ad<|Ag (Ad Z)<|Aa ad<|Ag (Ad Z)<|BS 4 83 (.bool ((decide ((a0.2.2.2.2.2.2.2.2.2.2.1.length:Int)=0))||(decide (a0.2.1=7)))) (fun gv=>?_) ?_
        ·refine Bk (s:=79) Z (fun cy=>?_) (fun cy=>?_)
         ·iterate 3 refine Ab cy ?_
          refine Aa ad<|Ag (Ak cy Z)<|gv.to 3 (GS cy) Z Z
         refine Aa cy<|Ag (Af Z Aak Z B4.e)<|Aa cy<|Ag (Ae 0 Z dd Z)<|Aa cy<|Ag (Ad Z)<|Aa ad<|Ag (Am cy Z)<|gv.to 3 (GU cy) Z Z
        refine Ag (Ak ad Z)<|gu.to 6 (FU ad) Z Z
       iterate 5 refine Ab ad ?_
       iterate 3 refine As ?_
       refine Ab ad<|Ag (Am ad Z)<|gu.to 9 (FV ad) Z Z
      refine Ar 1 Z<|Bg 85 h ?_ ?_<;>intro bb h
      ·refine Aa bb<|Ag (Af Z Aak Z E4.e)<|Aa bb<|Ag (Ae 0 Z dd Z)<|Aa bb<|Ag (AT b)<|Aa bb<|Ag (Ad Z)<|Aa bb<|Ag (Ad Z)<|AQ 90 h ?_ ?_<;>intro ez h
       ·iterate 2 refine Ab ez ?_
        refine Aa bb<|Ag (Ak ez Z)<|Ag (Ak bb Z)<|A1 1 Z<|Au ?_
        cases h
        refine Aj Z ⟨dd.ext,Z⟩
       refine Aa ez<|Ag (Ax 0 Z Bl.e dd Z)<|Aa ez<|Av h fun qc i9 h=>A6 dd (AO _ _ (Ao dd) a0 (c.mono  Ai) (a.mono  Ai) (b.mono  Ai) i9) fun qd nn ja lv=>Aa bb<|Ag (Am ez Z)<|Ag (Ak bb Z)<|A1 1 Z<|Au ?_
       cases h
       refine Aj Z ⟨ja.ext,Z⟩
      iterate 5 refine Ab bb ?_
      iterate 2 refine As ?_
      refine Ab bb<|Ag (Am bb Z)<|A1 1 Z<|Au ?_
      cases h
      refine Aj Z ⟨dd.ext,Z⟩
     iterate 4 refine Ab bs ?_
     iterate 2 refine As ?_
     refine Ab bs<|Ag (Am bs Z)<|Ar 1 Z ?_
     iterate 5 refine Ab Z ?_
     iterate 3 refine As ?_
     refine Ab Z<|Ag (Am Z Z)<|Ar 1 Z ?_
     iterate 5 refine Ab Z ?_
     iterate 2 refine As ?_
     refine Ab Z<|Ag (Am Z Z)<|A1 1 Z<|Au ?_
     cases h
     refine Aj Z ⟨a9.ext,Z⟩
    refine Aa es<|Ag (Ax 0 Z Bl.e f Z)<|Aa es<|Av h fun qe jb h=>A6 f (DU (a0:=a0) _ _ (Ao f) (c.mono  Ai) (a.mono  Ai) (b.mono  Ai) jb) fun qf no m lw=>Aa br<|Ag (Am es Z)<|Ag (Ak br Z)<|Ar 1 Z<|Bg 56 h ?_ ?_<;>intro bt h
    ·refine Aa bt<|Ag (Af Z Aak Z B4.e)<|Aa bt<|Ag (Ae 0 Z m Z)<|Aa bt<|Ag (Ad Z)<|Aa bt<|Ag (Ad Z)<|AQ 60 h ?_ ?_<;>intro e0 h
     ·iterate 2 refine Ab e0 ?_
      refine Aa bt<|Ag (Ak e0 Z)<|Ag (Ak bt Z)<|Ar 1 Z<|Aa Z<|Ag (Af Z Aak Z B4.e)<|Aa Z<|Ag (Ae 0 Z m Z)<|Aa Z<|Ag (Ad Z)<|Aa Z<|Ag (Ad Z)<|AQ 69 h ?_ ?_<;>intro e1 h
      ·iterate 2 refine Ab e1 ?_
       refine Aa Z<|Ag (Ak e1 Z)<|Ag (Ak Z Z)<|Ar 1 Z<|Aa Z<|Ag (Af Z Aak Z Cx.e)<|Aa Z<|Ag (Ae 0 Z m Z)<|Aa Z<|Ag (AT a)<|Aa Z<|Ag (Ad Z)<|Aa Z<|Ag (Ad Z)<|BS 4 83 (.bool ((decide ((a0.2.2.2.2.2.2.2.2.2.2.1.length:Int)=0))||(decide (a0.2.1=7)))) (fun gw=>?_) ?_
       ·refine Bk (s:=79) Z (fun cz=>?_) (fun cz=>?_)
        ·iterate 3 refine Ab cz ?_
         refine Aa Z<|Ag (Ak cz Z)<|gw.to 3 (GS cz) Z Z
        refine Aa cz<|Ag (Af Z Aak Z B4.e)<|Aa cz<|Ag (Ae 0 Z m Z)<|Aa cz<|Ag (Ad Z)<|Aa Z<|Ag (Am cz Z)<|gw.to 3 (GU cz) Z Z
       refine Ag (Ak Z Z)<|Ar 1 Z<|Bg 85 h ?_ ?_<;>intro bc h
       ·refine Aa bc<|Ag (Af Z Aak Z E4.e)<|Aa bc<|Ag (Ae 0 Z m Z)<|Aa bc<|Ag (AT b)<|Aa bc<|Ag (Ad Z)<|Aa bc<|Ag (Ad Z)<|AQ 90 h ?_ ?_<;>intro e2 h
        ·iterate 2 refine Ab e2 ?_
         refine Aa bc<|Ag (Ak e2 Z)<|Ag (Ak bc Z)<|A1 1 Z<|Au ?_
         cases h
         refine Aj Z ⟨m.ext,Z⟩
        refine Aa e2<|Ag (Ax 0 Z Bl.e m Z)<|Aa e2<|Av h fun qg jc h=>A6 m (AO _ _ (Ao m) a0 (c.mono  Ai) (a.mono  Ai) (b.mono  Ai) jc) fun qh np jd lx=>Aa bc<|Ag (Am e2 Z)<|Ag (Ak bc Z)<|A1 1 Z<|Au ?_
        cases h
        refine Aj Z ⟨jd.ext,Z⟩
       iterate 5 refine Ab bc ?_
       iterate 2 refine As ?_
       refine Ab bc<|Ag (Am bc Z)<|A1 1 Z<|Au ?_
       cases h
       refine Aj Z ⟨m.ext,Z⟩
      refine Aa e1<|Ag (Ax 0 Z Bl.e m Z)<|Aa e1<|Av h fun ki je h=>A6 m (By (a0:=a0) _ _ (Ao m) (c.mono  Ai) (a.mono  Ai) (b.mono  Ai) je) fun qi nq de ly=>Aa Z<|Ag (Am e1 Z)<|Ag (Ak Z Z)<|Ar 1 Z<|BS 10 84 (.bool (ki&&((decide ((a0.2.2.2.2.2.2.2.2.2.2.1.length:Int)=0))||(decide (a0.2.1=7))))) (fun gx=>?_) ?_
      ·refine Bk (s:=74) Z (fun ae=>?_) (fun ae=>?_)
       ·refine Aa ae<|Ag (Af Z Aak Z Cx.e)<|Aa ae<|Ag (Ae 0 Z de Z)<|Aa ae<|Ag (AT a)<|Aa ae<|Ag (Ad Z)<|Aa ae<|Ag (Ad Z)<|BS 4 83 (.bool ((decide ((a0.2.2.2.2.2.2.2.2.2.2.1.length:Int)=0))||(decide (a0.2.1=7)))) (fun gy=>?_) ?_
        ·refine Bk (s:=79) Z (fun c0=>?_) (fun c0=>?_)
         ·iterate 3 refine Ab c0 ?_
          refine Aa ae<|Ag (Ak c0 Z)<|gy.to 3 (GS c0) Z Z
         refine Aa c0<|Ag (Af Z Aak Z B4.e)<|Aa c0<|Ag (Ae 0 Z de Z)<|Aa c0<|Ag (Ad Z)<|Aa ae<|Ag (Am c0 Z)<|gy.to 3 (GU c0) Z Z
        refine Ag (Ak ae Z)<|gx.to 6 (FU ae) Z Z
       iterate 5 refine Ab ae ?_
       iterate 3 refine As ?_
       refine Ab ae<|Ag (Am ae Z)<|gx.to 9 (FV ae) Z Z
      refine Ar 1 Z<|Bg 85 h ?_ ?_<;>intro bd h
      ·refine Aa bd<|Ag (Af Z Aak Z E4.e)<|Aa bd<|Ag (Ae 0 Z de Z)<|Aa bd<|Ag (AT b)<|Aa bd<|Ag (Ad Z)<|Aa bd<|Ag (Ad Z)<|AQ 90 h ?_ ?_<;>intro e3 h
       ·iterate 2 refine Ab e3 ?_
        refine Aa bd<|Ag (Ak e3 Z)<|Ag (Ak bd Z)<|A1 1 Z<|Au ?_
        cases h
        refine Aj Z ⟨de.ext,Z⟩
       refine Aa e3<|Ag (Ax 0 Z Bl.e de Z)<|Aa e3<|Av h fun qj jf h=>A6 de (AO _ _ (Ao de) a0 (c.mono  Ai) (a.mono  Ai) (b.mono  Ai) jf) fun qk nr jg lz=>Aa bd<|Ag (Am e3 Z)<|Ag (Ak bd Z)<|A1 1 Z<|Au ?_
       cases h
       refine Aj Z ⟨jg.ext,Z⟩
      iterate 5 refine Ab bd ?_
      iterate 2 refine As ?_
      refine Ab bd<|Ag (Am bd Z)<|A1 1 Z<|Au ?_
      cases h
      refine Aj Z ⟨de.ext,Z⟩
     refine Aa e0<|Ag (Ax 0 Z Bl.e m Z)<|Aa e0<|Av h fun ql jh h=>A6 m (BG (a0:=a0) _ _ (Ao m) (c.mono  Ai) (a.mono  Ai) (b.mono  Ai) jh) fun qm ns be l0=>Aa bt<|Ag (Am e0 Z)<|Ag (Ak bt Z)<|Ar 1 Z<|Bg 65 h ?_ ?_<;>intro bu h
     ·refine Aa bu<|Ag (Af Z Aak Z B4.e)<|Aa bu<|Ag (Ae 0 Z be Z)<|Aa bu<|Ag (Ad Z)<|Aa bu<|Ag (Ad Z)<|AQ 69 h ?_ ?_<;>intro e4 h
      ·iterate 2 refine Ab e4 ?_
       refine Aa bu<|Ag (Ak e4 Z)<|Ag (Ak bu Z)<|Ar 1 Z<|Aa Z<|Ag (Af Z Aak Z Cx.e)<|Aa Z<|Ag (Ae 0 Z be Z)<|Aa Z<|Ag (AT a)<|Aa Z<|Ag (Ad Z)<|Aa Z<|Ag (Ad Z)<|BS 4 83 (.bool ((decide ((a0.2.2.2.2.2.2.2.2.2.2.1.length:Int)=0))||(decide (a0.2.1=7)))) (fun gz=>?_) ?_
       ·refine Bk (s:=79) Z (fun c1=>?_) (fun c1=>?_)
        ·iterate 3 refine Ab c1 ?_
         refine Aa Z<|Ag (Ak c1 Z)<|gz.to 3 (GS c1) Z Z
        refine Aa c1<|Ag (Af Z Aak Z B4.e)<|Aa c1<|Ag (Ae 0 Z be Z)<|Aa c1<|Ag (Ad Z)<|Aa Z<|Ag (Am c1 Z)<|gz.to 3 (GU c1) Z Z
       refine Ag (Ak Z Z)<|Ar 1 Z<|Bg 85 h ?_ ?_<;>intro bf h
       ·refine Aa bf<|Ag (Af Z Aak Z E4.e)<|Aa bf<|Ag (Ae 0 Z be Z)<|Aa bf<|Ag (AT b)<|Aa bf<|Ag (Ad Z)<|Aa bf<|Ag (Ad Z)<|AQ 90 h ?_ ?_<;>intro e5 h
        ·iterate 2 refine Ab e5 ?_
         refine Aa bf<|Ag (Ak e5 Z)<|Ag (Ak bf Z)<|A1 1 Z<|Au ?_
         cases h
         refine Aj Z ⟨be.ext,Z⟩
        refine Aa e5<|Ag (Ax 0 Z Bl.e be Z)<|Aa e5<|Av h fun qn ji h=>A6 be (AO _ _ (Ao be) a0 (c.mono  Ai) (a.mono  Ai) (b.mono  Ai) ji) fun qo nt jj l1=>Aa bf<|Ag (Am e5 Z)<|Ag (Ak bf Z)<|A1 1 Z<|Au ?_
        cases h
        refine Aj Z ⟨jj.ext,Z⟩
       iterate 5 refine Ab bf ?_
       iterate 2 refine As ?_
       refine Ab bf<|Ag (Am bf Z)<|A1 1 Z<|Au ?_
       cases h
       refine Aj Z ⟨be.ext,Z⟩
      refine Aa e4<|Ag (Ax 0 Z Bl.e be Z)<|Aa e4<|Av h fun kj jk h=>A6 be (By (a0:=a0) _ _ (Ao be) (c.mono  Ai) (a.mono  Ai) (b.mono  Ai) jk) fun qp nu df l2=>Aa bu<|Ag (Am e4 Z)<|Ag (Ak bu Z)<|Ar 1 Z<|BS 10 84 (.bool (kj&&((decide ((a0.2.2.2.2.2.2.2.2.2.2.1.length:Int)=0))||(decide (a0.2.1=7))))) (fun g0=>?_) ?_
      ·refine Bk (s:=74) Z (fun af=>?_) (fun af=>?_)
       ·refine Aa af<|Ag (Af Z Aak Z Cx.e)<|Aa af<|Ag (Ae 0 Z df Z)<|Aa af<|Ag (AT a)<|Aa af<|Ag (Ad Z)<|Aa af<|Ag (Ad Z)<|BS 4 83 (.bool ((decide ((a0.2.2.2.2.2.2.2.2.2.2.1.length:Int)=0))||(decide (a0.2.1=7)))) (fun g1=>?_) ?_
        ·refine Bk (s:=79) Z (fun c2=>?_) (fun c2=>?_)
         ·iterate 3 refine Ab c2 ?_
          refine Aa af<|Ag (Ak c2 Z)<|g1.to 3 (GS c2) Z Z
         refine Aa c2<|Ag (Af Z Aak Z B4.e)<|Aa c2<|Ag (Ae 0 Z df Z)<|Aa c2<|Ag (Ad Z)<|Aa af<|Ag (Am c2 Z)<|g1.to 3 (GU c2) Z Z
        refine Ag (Ak af Z)<|g0.to 6 (FU af) Z Z
       iterate 5 refine Ab af ?_
       iterate 3 refine As ?_
       refine Ab af<|Ag (Am af Z)<|g0.to 9 (FV af) Z Z
      refine Ar 1 Z<|Bg 85 h ?_ ?_<;>intro bg h
      ·refine Aa bg<|Ag (Af Z Aak Z E4.e)<|Aa bg<|Ag (Ae 0 Z df Z)<|Aa bg<|Ag (AT b)<|Aa bg<|Ag (Ad Z)<|Aa bg<|Ag (Ad Z)<|AQ 90 h ?_ ?_<;>intro e6 h
       ·iterate 2 refine Ab e6 ?_
        refine Aa bg<|Ag (Ak e6 Z)<|Ag (Ak bg Z)<|A1 1 Z<|Au ?_
        cases h
        refine Aj Z ⟨df.ext,Z⟩
       refine Aa e6<|Ag (Ax 0 Z Bl.e df Z)<|Aa e6<|Av h fun qq jl h=>A6 df (AO _ _ (Ao df) a0 (c.mono  Ai) (a.mono  Ai) (b.mono  Ai) jl) fun qr nv jm l3=>Aa bg<|Ag (Am e6 Z)<|Ag (Ak bg Z)<|A1 1 Z<|Au ?_
       cases h
       refine Aj Z ⟨jm.ext,Z⟩
      iterate 5 refine Ab bg ?_
      iterate 2 refine As ?_
      refine Ab bg<|Ag (Am bg Z)<|A1 1 Z<|Au ?_
      cases h
      refine Aj Z ⟨df.ext,Z⟩
     iterate 4 refine Ab bu ?_
     iterate 2 refine As ?_
     refine Ab bu<|Ag (Am bu Z)<|Ar 1 Z ?_
     iterate 5 refine Ab Z ?_
     iterate 3 refine As ?_
     refine Ab Z<|Ag (Am Z Z)<|Ar 1 Z ?_
     iterate 5 refine Ab Z ?_
     iterate 2 refine As ?_
     refine Ab Z<|Ag (Am Z Z)<|A1 1 Z<|Au ?_
     cases h
     refine Aj Z ⟨be.ext,Z⟩
    iterate 4 refine Ab bt ?_
    iterate 2 refine As ?_
    refine Ab bt<|Ag (Am bt Z)<|Ar 1 Z ?_
    iterate 4 refine Ab Z ?_
    iterate 2 refine As ?_
    refine Ab Z<|Ag (Am Z Z)<|Ar 1 Z ?_
    iterate 5 refine Ab Z ?_
    iterate 3 refine As ?_
    refine Ab Z<|Ag (Am Z Z)<|Ar 1 Z ?_
    iterate 5 refine Ab Z ?_
    iterate 2 refine As ?_
    refine Ab Z<|Ag (Am Z Z)<|A1 1 Z<|Au ?_
    cases h
    refine Aj Z ⟨m.ext,Z⟩
   iterate 4 refine Ab br ?_
   iterate 2 refine As ?_
   refine Ab br<|Ag (Am br Z)<|Ar 1 Z ?_
   iterate 4 refine Ab Z ?_
   iterate 2 refine As ?_
   refine Ab Z<|Ag (Am Z Z)<|Ar 1 Z ?_
   iterate 4 refine Ab Z ?_
   iterate 2 refine As ?_
   refine Ab Z<|Ag (Am Z Z)<|Ar 1 Z ?_
   iterate 5 refine Ab Z ?_
   iterate 3 refine As ?_
   refine Ab Z<|Ag (Am Z Z)<|Ar 1 Z ?_
   iterate 5 refine Ab Z ?_
   iterate 2 refine As ?_
   refine Ab Z<|Ag (Am Z Z)<|A1 1 Z<|Au ?_
   cases h
   refine Aj Z ⟨f.ext,Z⟩
  iterate 4 refine Ab bm ?_
  iterate 2 refine As ?_
  refine Ab bm<|Ag (Am bm Z)<|Ar 1 Z ?_
  iterate 4 refine Ab Z ?_
  iterate 3 refine As ?_
  iterate 2 refine Ab Z ?_
  refine As<|Ab Z<|Ag (Am Z Z)<|Ar 1 Z ?_
  iterate 4 refine Ab Z ?_
  iterate 2 refine As ?_
  refine Ab Z<|Ag (Am Z Z)<|Ar 1 Z ?_
  iterate 4 refine Ab Z ?_
  iterate 2 refine As ?_
  refine Ab Z<|Ag (Am Z Z)<|Ar 1 Z ?_
  iterate 4 refine Ab Z ?_
  iterate 2 refine As ?_
  refine Ab Z<|Ag (Am Z Z)<|Ar 1 Z ?_
  iterate 5 refine Ab Z ?_
  iterate 3 refine As ?_
  refine Ab Z<|Ag (Am Z Z)<|Ar 1 Z ?_
  iterate 5 refine Ab Z ?_
  iterate 2 refine As ?_
  refine Ab Z<|Ag (Am Z Z)<|A1 1 Z<|Au ?_
  cases h
  refine Aj Z ⟨d.ext,Z⟩
 iterate 4 refine Ab dq ?_
 iterate 2 refine As ?_
 refine Ab dq<|Ag (Am dq Z)<|Ar 1 Z ?_
 iterate 4 refine Ab Z ?_
 iterate 2 refine As ?_
 refine Ab Z<|Ag (Am Z Z)<|Ar 1 Z ?_
 iterate 4 refine Ab Z ?_
 iterate 3 refine As ?_
 iterate 2 refine Ab Z ?_
 refine As<|Ab Z<|Ag (Am Z Z)<|Ar 1 Z ?_
 iterate 4 refine Ab Z ?_
 iterate 2 refine As ?_
 refine Ab Z<|Ag (Am Z Z)<|Ar 1 Z ?_
 iterate 4 refine Ab Z ?_
 iterate 2 refine As ?_
 refine Ab Z<|Ag (Am Z Z)<|Ar 1 Z ?_
 iterate 4 refine Ab Z ?_
 iterate 2 refine As ?_
 refine Ab Z<|Ag (Am Z Z)<|Ar 1 Z ?_
 iterate 5 refine Ab Z ?_
 iterate 3 refine As ?_
 refine Ab Z<|Ag (Am Z Z)<|Ar 1 Z ?_
 iterate 5 refine Ab Z ?_
 iterate 2 refine As ?_
 refine Ab Z<|Ag (Am Z Z)<|A1 1 Z<|Au ?_
 cases h
 refine Aj Z ⟨g.ext,Z⟩
end
def Fc(a0 a1:Int):Option Bool:=
 Bb (BH (a1 - 1)) (Qq8 (Hw a0 (0:Int) (a1 - 1)) (fun a=>some a))
theorem Hb{a w:World}{H:PH}(hH:Le H (hp a))(O:List BN)(a0 a1:Int){ba1:Nat}(hL:AW a (Ha [.box ba1 [No a1] 3] O) w){r:Bool}(h:Fc a0 a1=some r):
  Ok prog 192 [No a0,Aac ba1] w (fun v w'=>v=.bool r/\AW a (Ha [.box ba1 [No a1] 3] O) w'/\Le (fz w (Ha [.box ba1 [No a1] 3] O)) (fz w' (Ha [.box ba1 [No a1] 3] O))):=by
 refine BC (n:=8) [(0,No a0),(1,(Aac ba1))] func192 Z Z Z Z ?_;have hT:=Le.refl (fz w (Ha [.box ba1 [No a1] 3] O));refine AI 1 Z<|B1 1 Z<|Ag (Ae 0 Z hL Z)<|A3 h fun c h=>Ag (AA c)<|Av h fun g d h=>A6 hL (Ih _ _ (Ao hL) d) fun i f e b=>A1 1 Z<|Au ?_
 cases h
 refine Aj Z ?_;have hT:=hT.trans b;exact⟨Z,e,hT⟩
def IW(a0 a1_0_c0:Int):Option Bool:=
 Qq8 (Fc a0 a1_0_c0) (fun a=>some (!a))
theorem Oc{a w:World}{H:PH}(hH:Le H (hp a)){O:List BN}{a0 a1_0_c0:Int}{ba1 ba1_0_c0:Nat}(hL:AW a (Ha [.box ba1 [.func (.func 192) #[] #[Aac ba1_0_c0]] 105,.box ba1_0_c0 [No a1_0_c0] 3] O) w){r:Bool}(h:IW a0 a1_0_c0=some r):
  Ok prog 193 [No a0,Aac ba1] w (fun v w'=>v=.bool r/\AW a (Ha [.box ba1 [.func (.func 192) #[] #[Aac ba1_0_c0]] 105,.box ba1_0_c0 [No a1_0_c0] 3] O) w'/\Le (fz w (Ha [.box ba1 [.func (.func 192) #[] #[Aac ba1_0_c0]] 105,.box ba1_0_c0 [No a1_0_c0] 3] O)) (fz w' (Ha [.box ba1 [.func (.func 192) #[] #[Aac ba1_0_c0]] 105,.box ba1_0_c0 [No a1_0_c0] 3] O))):=by
 refine BC (n:=8) [(0,No a0),(1,(Aac ba1))] func193 Z Z Z Z ?_;have hT:=Le.refl (fz w (Ha [.box ba1 [.func (.func 192) #[] #[Aac ba1_0_c0]] 105,.box ba1_0_c0 [No a1_0_c0] 3] O));refine AI 1 Z<|Aq<|Ag (Ae 0 Z hL Z)<|Ar 1 Z ?_;have b:AW a (Ha [.box ba1_0_c0 [No a1_0_c0] 3,.box ba1 [.func (.func 192) #[] #[Aac ba1_0_c0]] 105] O) w:=hL.Bn [1] Z;have e:=AJ [1] hL b Z;refine Av h fun k i h=>BU Z Z (Hb hH ((Ha [.box ba1 [.func (.func 192) #[] #[Aac ba1_0_c0]] 105] O)) a0 a1_0_c0 b i) ?_;rintro _ j ⟨rfl,c,f⟩;refine A1 2 Z<|Au ?_
 cases h
 refine Aj Z ?_;have d:AW a (Ha [.box ba1 [.func (.func 192) #[] #[Aac ba1_0_c0]] 105,.box ba1_0_c0 [No a1_0_c0] 3] O) j:=c.Bn [1] Z;have g:=AJ [1] c d Z;have hT:=hT.trans (e.trans (f.trans g));exact⟨Z,d,hT⟩
def DF:Option Int:=
 some ((-1))
def Dy(a0:Qq4)(a1_c0_0_c0:Int):Int->Option ((Int)⊕(Int)):=fun a=>
 if a<(a0.length:Int)then Bb (0<=a/\a<(a0.length:Int)) (Qq8 (IW (a0.getD a.toNat Qq1) a1_c0_0_c0) (fun b=>if b then Qzq Sum.inr (some a)else Bb (BH (a+1)) (some (Sum.inl (a+1)))))else Qzq Sum.inr DF
def Fm(a0:Qq4)(a1_c0_0_c0 s:Int):Option Int:=Go.L.run (Dy a0 a1_c0_0_c0) s
def E5(a0:Qq4)(a1_c0_0_c0:Int):Option Int:=
 (Fm a0 a1_c0_0_c0) (0:Int)
theorem KX{d w:World}{H:PH}(hH:Le H (hp d)){O:List BN}{a0:Qq4}{a1_c0_0_c0:Int}{va0:Value}{ba1_c0 ba1_c0_0_c0:Nat}(hL:AW d (Ha [.box ba1_c0 [.func (.func 192) #[] #[Aac ba1_c0_0_c0]] 105,.box ba1_c0_0_c0 [No a1_c0_0_c0] 3] O) w)(k:AL (.int .i64) (gz H d w (Ha [.box ba1_c0 [.func (.func 192) #[] #[Aac ba1_c0_0_c0]] 105,.box ba1_c0_0_c0 [No a1_c0_0_c0] 3] O)) va0 a0){r:Int}(h:E5 a0 a1_c0_0_c0=some r):
  Ok prog 58 [va0,.func (.func 193) #[] #[Aac ba1_c0]] w (fun v w'=>v=No r/\AW d (Ha [.box ba1_c0 [.func (.func 192) #[] #[Aac ba1_c0_0_c0]] 105,.box ba1_c0_0_c0 [No a1_c0_0_c0] 3] O) w'/\Le (fz w (Ha [.box ba1_c0 [.func (.func 192) #[] #[Aac ba1_c0_0_c0]] 105,.box ba1_c0_0_c0 [No a1_c0_0_c0] 3] O)) (fz w' (Ha [.box ba1_c0 [.func (.func 192) #[] #[Aac ba1_c0_0_c0]] 105,.box ba1_c0_0_c0 [No a1_c0_0_c0] 3] O))):=by
 refine BC (n:=19) [(0,va0),(1,.func (.func 193) #[] #[Aac ba1_c0])] func58 Z Z Z Z ?_;have hT:=Le.refl (fz w (Ha [.box ba1_c0 [.func (.func 192) #[] #[Aac ba1_c0_0_c0]] 105,.box ba1_c0_0_c0 [No a1_c0_0_c0] 3] O));refine AI 1 Z<|Bm Unit (fun(_:Unit)=>[]) (fun(_:Unit) wr=>DE d (Ha [.box ba1_c0 [.func (.func 192) #[] #[Aac ba1_c0_0_c0]] 105,.box ba1_c0_0_c0 [No a1_c0_0_c0] 3] O) wr fun Oz=>Le (fz w (Ha [.box ba1_c0 [.func (.func 192) #[] #[Aac ba1_c0_0_c0]] 105,.box ba1_c0_0_c0 [No a1_c0_0_c0] 3] O)) (fz wr Oz)/\DF=some r) ?_ ?_
 ·refine B1 1 Z<|Ag (AT k)<|A1 1 Z<|A8 ?_;obtain⟨g,h⟩:=Bc h;refine Bz (Int×Nat) (fun⟨a,n⟩=>[(0,va0),(1,.func (.func 193) #[] #[Aac ba1_c0]),(7,No (a0.length:Int)),(8,No a)]) (fun⟨a,n⟩ wr=>DE d (Ha [.box ba1_c0 [.func (.func 192) #[] #[Aac ba1_c0_0_c0]] 105,.box ba1_c0_0_c0 [No a1_c0_0_c0] 3] O) wr fun Oz=>AL (.int .i64) (gz H d wr Oz) va0 a0/\Le (fz w (Ha [.box ba1_c0 [.func (.func 192) #[] #[Aac ba1_c0_0_c0]] 105,.box ba1_c0_0_c0 [No a1_c0_0_c0] 3] O)) (fz wr Oz)/\FW (Dy a0 a1_c0_0_c0) n a=some r) (fun⟨a,n⟩=>n) (0,g) Z ⟨hL,k,hT,h⟩ ?_;rintro⟨a,nn42⟩ t ⟨e,b,hT,h⟩;obtain⟨g,x,rfl,h,f⟩:=Ba h;refine AI 1 Z<|AM<|AS h ?_ ?_<;>intro l h
  ·refine A4<|A2<|AM<|A8<|AI 2 Z<|B1 3 Z<|A3 h fun i h=>Bf b a.toNat (CT i) (AD i) ?_;rintro y _ rfl m;refine Ag (AX m (Ao e))<|Av h fun z o h=>BU Z Z (Oc (a0:=(a0.getD a.toNat Qq1)) (a1_0_c0:=a1_c0_0_c0) (O:=(Ha [] O)) hH e o) ?_;rintro _ aa ⟨rfl,j,c⟩;refine Al<|Bi h ?_ ?_<;>intro p h
   ·refine AI 2 Z<|Au<|Ay<|AE<|BM ?_;have h:=BW.out h f;refine Ay<|Bp ?_
    cases h
    refine Aj Z ?_;have hT:=hT.trans c;exact⟨Z,j,hT⟩
   refine A4<|A9<|A2<|Az<|A3 h fun q h=>Ag (AA q)<|Ar 1 Z<|AP ?_;have h:=BW.again h f;have b:=b.mono (Ac c);have hT:=hT.trans c;refine AN (_,_) ⟨j,b,hT,h⟩
  refine Bq<|AK<|AF ?_;have h:=BW.out h f;refine Bj<|AH () ⟨e,hT,h⟩
 rintro _ u ⟨s,hT,h⟩;refine AI 1 Z<|Au ?_
 cases h
 refine Aj Z ⟨Z,s,hT⟩
def DG(a0:Qq4)(a1_c0_0_c0:Int):Option Bool:=
 Qq8 (E5 a0 a1_c0_0_c0) (fun a=>some (decide (0<=a)))
theorem JX{a w:World}{H:PH}(hH:Le H (hp a)){O:List BN}{a0:Qq4}{a1_c0_0_c0:Int}{va0:Value}{ba1_c0 ba1_c0_0_c0:Nat}(hL:AW a (Ha [.box ba1_c0 [.func (.func 192) #[] #[Aac ba1_c0_0_c0]] 105,.box ba1_c0_0_c0 [No a1_c0_0_c0] 3] O) w)(c:AL (.int .i64) (gz H a w (Ha [.box ba1_c0 [.func (.func 192) #[] #[Aac ba1_c0_0_c0]] 105,.box ba1_c0_0_c0 [No a1_c0_0_c0] 3] O)) va0 a0){r:Bool}(h:DG a0 a1_c0_0_c0=some r):
  Ok prog 171 [va0,.func (.func 193) #[] #[Aac ba1_c0]] w (fun v w'=>v=.bool r/\AW a (Ha [.box ba1_c0 [.func (.func 192) #[] #[Aac ba1_c0_0_c0]] 105,.box ba1_c0_0_c0 [No a1_c0_0_c0] 3] O) w'/\Le (fz w (Ha [.box ba1_c0 [.func (.func 192) #[] #[Aac ba1_c0_0_c0]] 105,.box ba1_c0_0_c0 [No a1_c0_0_c0] 3] O)) (fz w' (Ha [.box ba1_c0 [.func (.func 192) #[] #[Aac ba1_c0_0_c0]] 105,.box ba1_c0_0_c0 [No a1_c0_0_c0] 3] O))):=by
 refine BC (n:=9) [(0,va0),(1,.func (.func 193) #[] #[Aac ba1_c0])] func171 Z Z Z Z ?_;have hT:=Le.refl (fz w (Ha [.box ba1_c0 [.func (.func 192) #[] #[Aac ba1_c0_0_c0]] 105,.box ba1_c0_0_c0 [No a1_c0_0_c0] 3] O));refine AI 1 Z<|B1 2 Z<|Av h fun f d h=>BO (KX (a0:=a0) (a1_c0_0_c0:=a1_c0_0_c0) (O:=(Ha [] O)) hH hL c d) ?_;rintro _ g ⟨rfl,e,b⟩;refine A1 2 Z<|Au ?_
 cases h
 refine Aj Z ?_;have hT:=hT.trans b;exact⟨Z,e,hT⟩
def Kl(a0:AaE)(a1:Int):Option Bool:=
 if a0.2.1=2 then Qq8 (Hw a0.2.2.2.1 (1:Int) (4:Int)) (fun g=>if g then Qq8 (Hw a0.2.2.2.2.2.1 (0:Int) a0.2.2.2.2.2.2.1) (fun a=>if a then Bb (BH (8 * a0.2.2.2.1)) (Bb ((0<=(8 * a0.2.2.2.1)/\(8 * a0.2.2.2.1)<=63)/\BH ((1:Int) * 2 ^ (8 * a0.2.2.2.1).toNat)) (some (decide (a0.2.2.2.2.2.2.1<((1:Int) * 2 ^ (8 * a0.2.2.2.1).toNat)))))else some false)else some false)else(if a0.2.1=3 then none else(if a0.2.1=4 then Qq8 (Hw a0.2.2.2.1 (1:Int) (1000:Int)) (fun b=>some b)else(if a0.2.1=5 then none else(if a0.2.1=9 then none else(if a0.2.1=6 then Qq8 (Fc a0.2.2.2.2.2.2.2.2.1 a1) (fun c=>if c then Qq8 (Fc a0.2.2.2.2.2.2.2.2.2.1 a1) (fun d=>some d)else some false)else(if a0.2.1=10 then Qq8 (Fc a0.2.2.2.2.2.2.2.2.1 a1) (fun e=>some e)else Qq8 (DG a0.2.2.2.2.2.2.2.2.2.2.2 a1) (fun f=>some (!f))))))))
section
variable(w:World)(H:PH)(hH:Le H (hp w)) include hH
theorem ON{a0:AaE}{a1:Int}{d e f:Value}(_h0_0:AL .byte H d (a0.2.2.1))(_h0_1:AL .st H e (a0.2.2.2.2.2.2.2.2.2.2.1))(o:AL (.int .i64) H f (a0.2.2.2.2.2.2.2.2.2.2.2)){r:Bool}(h:Kl a0 a1=some r):
  Qqv 165 [.agg #[Aad a0.1,No a0.2.1,d,No a0.2.2.2.1,.bool a0.2.2.2.2.1,No a0.2.2.2.2.2.1,No a0.2.2.2.2.2.2.1,No a0.2.2.2.2.2.2.2.1,No a0.2.2.2.2.2.2.2.2.1,No a0.2.2.2.2.2.2.2.2.2.1,e,f],No a1] w (fun v w'=>v=.bool r):=by
 refine AG 95 [(0,.agg #[Aad a0.1,No a0.2.1,d,No a0.2.2.2.1,.bool a0.2.2.2.2.1,No a0.2.2.2.2.2.1,No a0.2.2.2.2.2.2.1,No a0.2.2.2.2.2.2.2.1,No a0.2.2.2.2.2.2.2.2.1,No a0.2.2.2.2.2.2.2.2.2.1,e,f]),(1,No a1)] func165 Z fun hL=>Aq<|Cj (t:=50) Z Z hL fun w1 l ax bb _=>Nh (t:=3) Z Z ax fun w2 k ay bc _=>A1 1 Z<|B1 1 Z<|AZ T2.e Z ay fun w3 m az bd _=>AY 0 Z Z Z az Z Z fun w4 c be=>Al<|AM<|Aq<|Ag (Af Z Aak Z B4.e)<|Ag (Ae 2 Z c Z)<|Al<|A8<|AI 2 Z<|AS h ?_ ?_<;>intro a3 h
 ·refine CI (Qqz 0 20 (.tail 20)) mixed V (fun w7 a4=>?_);have i:=c.call a4;refine B9 Z (Af Z Aak Z B4.e) Z<|B9 Z (Ae 2 Z i Z) Z<|Av h fun x9 a5 h=>IA Z Z Z (fun bi bf=>Ih _ _ (Le.refl _) a5)<|BJ 1 Z<|Ic 14 Z (fun b=>?_) (fun b=>?_)
  ·have h:=LD b h;refine CE Z (Af Z Aak Z B4.e) Z Z Z b Z<|CE Z (Ae 2 Z i Z) Z Z Z b Z<|CE Z (Af Z Aak Z B4.e) Z Z Z b Z<|CE Z (Ae 2 Z i Z) Z Z Z b Z<|Av h fun bj p h=>Wh Z Z Z Z b Z Z (fun bk bg=>Ih _ _ (Le.refl _) p)<|B9 Z (Ak b Z) Z<|BJ 1 Z<|Ic 21 Z (fun a=>?_) (fun a=>?_)
   ·have h:=LD a h;refine CE Z (Af Z Aak Z B4.e) Z Z Z a Z<|CE Z (Ae 2 Z i Z) Z Z Z a Z<|CE Z (Af Z Aak Z B4.e) Z Z Z a Z<|CE Z (Ae 2 Z i Z) Z Z Z a Z<|A3 h fun u h=>CE Z (AA u) Z Z Z a Z<|A3 h fun x h=>CE Z (Se x) Z Z Z a Z<|CE Z (Ad Z) Z Z Z a Z<|B9 Z (Ak a Z) Z<|BJ 1 Z<|B8 (fun bl y=>?_);have z:=i.call y;refine Al<|Au<|Ay<|AE ?_
    cases h
    refine Aj Z ⟨z.ext,Z⟩
   have h:=LF a h
   iterate 7 refine M3 Z Z Z Z a Z ?_
   refine B9 Z (Am a Z) Z<|BJ 1 Z<|B8 (fun bm aa=>?_);have ab:=i.call aa;refine Al<|Au<|Ay<|AE ?_
   cases h
   refine Aj Z ⟨ab.ext,Z⟩
  have h:=LF b h
  iterate 5 refine M3 Z Z Z Z b Z ?_
  refine B9 Z (Am b Z) Z<|BJ 1 Z ?_
  iterate 7 refine M3 Z Z Z Z Z Z ?_
  refine B9 Z (Am Z Z) Z<|BJ 1 Z<|B8 (fun bn ac=>?_);have ad:=i.call ac;refine Al<|Au<|Ay<|AE ?_
  cases h
  refine Aj Z ⟨ad.ext,Z⟩
 refine AI 2 Z<|AS h ?_ ?_<;>intro ae h
 ·cases h
 refine AI 2 Z<|AS h ?_ ?_<;>intro af h
 ·refine Aq<|Ag (Af Z Aak Z B4.e)<|Ag (Ae 2 Z c Z)<|Av h fun bo ag h=>A6 c (Ih _ _ (Ao c) ag) fun bp bh ah a6=>A1 1 Z<|Au<|Ay<|AE ?_
  cases h
  refine Aj Z ⟨ah.ext,Z⟩
 refine AI 2 Z<|AS h ?_ ?_<;>intro ai h
 ·cases h
 refine AI 2 Z<|AS h ?_ ?_<;>intro aj h
 ·cases h
 refine AI 2 Z<|AS h ?_ ?_<;>intro ak h
 ·refine Aq<|Ag (Ae 0 Z c Z)<|Ag (Af Z Aak Z B4.e)<|Ag (Ae 2 Z c Z) ?_;have al:AW w [.box k [No a1] 3,.box m [.func (.func 192) #[] #[Aac k]] 105,.box l [Aad a0.1,No a0.2.1,d,No a0.2.2.2.1,.bool a0.2.2.2.2.1,No a0.2.2.2.2.2.1,No a0.2.2.2.2.2.2.1,No a0.2.2.2.2.2.2.2.1,No a0.2.2.2.2.2.2.2.2.1,No a0.2.2.2.2.2.2.2.2.2.1,e,f] 50] w4:=c.Bn [1] Z;refine Av h fun bq am h=>BU Z Z (Hb hH ([.box m [.func (.func 192) #[] #[Aac k]] 105,.box l [Aad a0.1,No a0.2.1,d,No a0.2.2.2.1,.bool a0.2.2.2.2.1,No a0.2.2.2.2.2.1,No a0.2.2.2.2.2.2.1,No a0.2.2.2.2.2.2.2.1,No a0.2.2.2.2.2.2.2.2.1,No a0.2.2.2.2.2.2.2.2.2.1,e,f] 50]) a0.2.2.2.2.2.2.2.2.1 a1 al am) ?_;rintro _ br ⟨rfl,j,a7⟩;refine Ar 1 Z<|Bg 78 h ?_ ?_<;>intro g h
  ·refine Aa g<|Ag (Ae 1 Z j Z)<|Aa g<|Ag (Af Z Aak Z B4.e)<|Aa g<|Ag (Ae 2 Z j Z)<|Aa g<|Av h fun bs an h=>BU Z Z (Hb hH ([.box m [.func (.func 192) #[] #[Aac k]] 105,.box l [Aad a0.1,No a0.2.1,d,No a0.2.2.2.1,.bool a0.2.2.2.2.1,No a0.2.2.2.2.2.1,No a0.2.2.2.2.2.2.1,No a0.2.2.2.2.2.2.2.1,No a0.2.2.2.2.2.2.2.2.1,No a0.2.2.2.2.2.2.2.2.2.1,e,f] 50]) a0.2.2.2.2.2.2.2.2.2.1 a1 j an) ?_;rintro _ bt ⟨rfl,ao,a8⟩;refine Ag (Ak g Z)<|A1 1 Z<|Au<|Ay<|AE ?_
   cases h
   refine Aj Z ⟨ao.ext,Z⟩
  iterate 4 refine Ab g ?_
  refine Ag (Am g Z)<|A1 1 Z<|Au<|Ay<|AE ?_
  cases h
  refine Aj Z ⟨j.ext,Z⟩
 refine AI 2 Z<|AS h ?_ ?_<;>intro ap h
 ·refine Aq<|Ag (Ae 0 Z c Z)<|Ag (Af Z Aak Z B4.e)<|Ag (Ae 2 Z c Z) ?_;have aq:AW w [.box k [No a1] 3,.box m [.func (.func 192) #[] #[Aac k]] 105,.box l [Aad a0.1,No a0.2.1,d,No a0.2.2.2.1,.bool a0.2.2.2.2.1,No a0.2.2.2.2.2.1,No a0.2.2.2.2.2.2.1,No a0.2.2.2.2.2.2.2.1,No a0.2.2.2.2.2.2.2.2.1,No a0.2.2.2.2.2.2.2.2.2.1,e,f] 50] w4:=c.Bn [1] Z;refine Av h fun bu ar h=>BU Z Z (Hb hH ([.box m [.func (.func 192) #[] #[Aac k]] 105,.box l [Aad a0.1,No a0.2.1,d,No a0.2.2.2.1,.bool a0.2.2.2.2.1,No a0.2.2.2.2.2.1,No a0.2.2.2.2.2.2.1,No a0.2.2.2.2.2.2.2.1,No a0.2.2.2.2.2.2.2.2.1,No a0.2.2.2.2.2.2.2.2.2.1,e,f] 50]) a0.2.2.2.2.2.2.2.2.1 a1 aq ar) ?_;rintro _ bv ⟨rfl,au,a9⟩;refine A1 1 Z<|Au<|Ay<|AE ?_
  cases h
  refine Aj Z ⟨au.ext,Z⟩
 refine A4<|A9<|A2<|Aq<|Ag (Af Z Aak Z E4.e)<|Ag (Ae 2 Z c Z)<|Ar 1 Z<|Av h fun bw av h=>BO (JX (a0:=a0.2.2.2.2.2.2.2.2.2.2.2) (a1_c0_0_c0:=a1) (O:=[.box l [Aad a0.1,No a0.2.1,d,No a0.2.2.2.1,.bool a0.2.2.2.2.1,No a0.2.2.2.2.2.1,No a0.2.2.2.2.2.2.1,No a0.2.2.2.2.2.2.2.1,No a0.2.2.2.2.2.2.2.2.1,No a0.2.2.2.2.2.2.2.2.2.1,e,f] 50]) hH c (o.mono  Ai) av) ?_;rintro _ bx ⟨rfl,aw,ba⟩;refine A1 2 Z<|Au ?_
 cases h
 refine Aj Z ⟨aw.ext,Z⟩
end
def Em(a0:Int)(a1:List Bool):Option Bool:=
 Bb (0<=a0/\a0<(a1.length:Int)) (some (a1.getD a0.toNat Qq1))
theorem F1{b w:World}{H:PH}(hH:Le H (hp b))(O:List BN)(a0:Int)(a1:List Bool){ba1:Nat}{va1_0:Value}{xsa1_0:Qq5}(hL:AW b (Ha [.box ba1 [va1_0] 170,.row va1_0 4 1 (a1).length xsa1_0] O) w)(a:A5 .bool (gz H b w (Ha [.box ba1 [va1_0] 170,.row va1_0 4 1 (a1).length xsa1_0] O)) a1 xsa1_0){r:Bool}(h:Em a0 a1=some r):
  Ok prog 168 [No a0,Aac ba1] w (fun v w'=>v=.bool r/\AW b (Ha [.box ba1 [va1_0] 170,.row va1_0 4 1 (a1).length xsa1_0] O) w'/\Le (fz w (Ha [.box ba1 [va1_0] 170,.row va1_0 4 1 (a1).length xsa1_0] O)) (fz w' (Ha [.box ba1 [va1_0] 170,.row va1_0 4 1 (a1).length xsa1_0] O))):=by
 refine BC (n:=8) [(0,No a0),(1,(Aac ba1))] func168 Z Z Z Z ?_;have hT:=Le.refl (fz w (Ha [.box ba1 [va1_0] 170,.row va1_0 4 1 (a1).length xsa1_0] O));refine AI 1 Z<|Aq<|Ag (Ae 0 Z hL Z)<|Ar 1 Z<|A3 h fun c h=>Bf (hL.KA hH (i:=1) Z a) a0.toNat (CT c) (AD c) ?_;rintro e _ rfl d;refine Ag (AX d (Le.refl _))<|A1 1 Z<|Au ?_
 cases h
 refine Aj Z ⟨Z,hL,hT⟩
def HB(a0:Int)(a1_0_c0:List Bool):Option Bool:=
 Qq8 (Em a0 a1_0_c0) (fun a=>some (!a))
theorem Ns{a w:World}{H:PH}(hH:Le H (hp a)){O:List BN}{a0:Int}{a1_0_c0:List Bool}{ba1 ba1_0_c0:Nat}{va1_0_c0_0:Value}{xsa1_0_c0_0:Qq5}(hL:AW a (Ha [.box ba1 [.func (.func 168) #[] #[Aac ba1_0_c0]] 105,.box ba1_0_c0 [va1_0_c0_0] 170,.row va1_0_c0_0 4 1 (a1_0_c0).length xsa1_0_c0_0] O) w)(hea1_0_c0_0:A5 .bool (gz H a w (Ha [.box ba1 [.func (.func 168) #[] #[Aac ba1_0_c0]] 105,.box ba1_0_c0 [va1_0_c0_0] 170,.row va1_0_c0_0 4 1 (a1_0_c0).length xsa1_0_c0_0] O)) a1_0_c0 xsa1_0_c0_0){r:Bool}(h:HB a0 a1_0_c0=some r):
  Ok prog 172 [No a0,Aac ba1] w (fun v w'=>v=.bool r/\AW a (Ha [.box ba1 [.func (.func 168) #[] #[Aac ba1_0_c0]] 105,.box ba1_0_c0 [va1_0_c0_0] 170,.row va1_0_c0_0 4 1 (a1_0_c0).length xsa1_0_c0_0] O) w'/\Le (fz w (Ha [.box ba1 [.func (.func 168) #[] #[Aac ba1_0_c0]] 105,.box ba1_0_c0 [va1_0_c0_0] 170,.row va1_0_c0_0 4 1 (a1_0_c0).length xsa1_0_c0_0] O)) (fz w' (Ha [.box ba1 [.func (.func 168) #[] #[Aac ba1_0_c0]] 105,.box ba1_0_c0 [va1_0_c0_0] 170,.row va1_0_c0_0 4 1 (a1_0_c0).length xsa1_0_c0_0] O))):=by
 refine BC (n:=8) [(0,No a0),(1,(Aac ba1))] func172 Z Z Z Z ?_;have hT:=Le.refl (fz w (Ha [.box ba1 [.func (.func 168) #[] #[Aac ba1_0_c0]] 105,.box ba1_0_c0 [va1_0_c0_0] 170,.row va1_0_c0_0 4 1 (a1_0_c0).length xsa1_0_c0_0] O));refine AI 1 Z<|Aq<|Ag (Ae 0 Z hL Z)<|Ar 1 Z ?_;have c:AW a (Ha [.box ba1_0_c0 [va1_0_c0_0] 170,.row va1_0_c0_0 4 1 (a1_0_c0).length xsa1_0_c0_0,.box ba1 [.func (.func 168) #[] #[Aac ba1_0_c0]] 105] O) w:=hL.Bn [2,2] Z;have b:=AJ [2,2] hL c Z;refine Av h fun k i h=>?_;have hea1_0_c0_0:=hea1_0_c0_0.mono (Ac b);refine BU Z Z (F1 hH ((Ha [.box ba1 [.func (.func 168) #[] #[Aac ba1_0_c0]] 105] O)) a0 a1_0_c0 c hea1_0_c0_0 i) ?_;rintro _ j ⟨rfl,d,f⟩;refine A1 2 Z<|Au ?_
 cases h
 refine Aj Z ?_;have e:AW a (Ha [.box ba1 [.func (.func 168) #[] #[Aac ba1_0_c0]] 105,.box ba1_0_c0 [va1_0_c0_0] 170,.row va1_0_c0_0 4 1 (a1_0_c0).length xsa1_0_c0_0] O) j:=d.Bn [2] Z;have g:=AJ [2] d e Z;have hT:=hT.trans (b.trans (f.trans g));exact⟨Z,e,hT⟩
def CY:Option Int:=
 some ((-1))
def CL(a0:Qq4)(a1_c0_0_c0:List Bool):Int->Option ((Int)⊕(Int)):=fun a=>
 if a<(a0.length:Int)then Bb (0<=a/\a<(a0.length:Int)) (Qq8 (HB (a0.getD a.toNat Qq1) a1_c0_0_c0) (fun b=>if b then Qzq Sum.inr (some a)else Bb (BH (a+1)) (some (Sum.inl (a+1)))))else Qzq Sum.inr CY
def Ey(a0:Qq4)(a1_c0_0_c0:List Bool)(s:Int):Option Int:=Go.L.run (CL a0 a1_c0_0_c0) s
def DH(a0:Qq4)(a1_c0_0_c0:List Bool):Option Int:=
 (Ey a0 a1_c0_0_c0) (0:Int)
theorem JY{d w:World}{H:PH}(hH:Le H (hp d)){O:List BN}{a0:Qq4}{a1_c0_0_c0:List Bool}{va0:Value}{ba1_c0 ba1_c0_0_c0:Nat}{va1_c0_0_c0_0:Value}{xsa1_c0_0_c0_0:Qq5}(hL:AW d (Ha [.box ba1_c0 [.func (.func 168) #[] #[Aac ba1_c0_0_c0]] 105,.box ba1_c0_0_c0 [va1_c0_0_c0_0] 170,.row va1_c0_0_c0_0 4 1 (a1_c0_0_c0).length xsa1_c0_0_c0_0] O) w)(k:AL (.int .i64) (gz H d w (Ha [.box ba1_c0 [.func (.func 168) #[] #[Aac ba1_c0_0_c0]] 105,.box ba1_c0_0_c0 [va1_c0_0_c0_0] 170,.row va1_c0_0_c0_0 4 1 (a1_c0_0_c0).length xsa1_c0_0_c0_0] O)) va0 a0)(hea1_c0_0_c0_0:A5 .bool (gz H d w (Ha [.box ba1_c0 [.func (.func 168) #[] #[Aac ba1_c0_0_c0]] 105,.box ba1_c0_0_c0 [va1_c0_0_c0_0] 170,.row va1_c0_0_c0_0 4 1 (a1_c0_0_c0).length xsa1_c0_0_c0_0] O)) a1_c0_0_c0 xsa1_c0_0_c0_0){r:Int}(h:DH a0 a1_c0_0_c0=some r):
  Ok prog 58 [va0,.func (.func 172) #[] #[Aac ba1_c0]] w (fun v w'=>v=No r/\AW d (Ha [.box ba1_c0 [.func (.func 168) #[] #[Aac ba1_c0_0_c0]] 105,.box ba1_c0_0_c0 [va1_c0_0_c0_0] 170,.row va1_c0_0_c0_0 4 1 (a1_c0_0_c0).length xsa1_c0_0_c0_0] O) w'/\Le (fz w (Ha [.box ba1_c0 [.func (.func 168) #[] #[Aac ba1_c0_0_c0]] 105,.box ba1_c0_0_c0 [va1_c0_0_c0_0] 170,.row va1_c0_0_c0_0 4 1 (a1_c0_0_c0).length xsa1_c0_0_c0_0] O)) (fz w' (Ha [.box ba1_c0 [.func (.func 168) #[] #[Aac ba1_c0_0_c0]] 105,.box ba1_c0_0_c0 [va1_c0_0_c0_0] 170,.row va1_c0_0_c0_0 4 1 (a1_c0_0_c0).length xsa1_c0_0_c0_0] O))):=by
 refine BC (n:=19) [(0,va0),(1,.func (.func 172) #[] #[Aac ba1_c0])] func58 Z Z Z Z ?_;have hT:=Le.refl (fz w (Ha [.box ba1_c0 [.func (.func 168) #[] #[Aac ba1_c0_0_c0]] 105,.box ba1_c0_0_c0 [va1_c0_0_c0_0] 170,.row va1_c0_0_c0_0 4 1 (a1_c0_0_c0).length xsa1_c0_0_c0_0] O));refine AI 1 Z<|Bm Unit (fun(_:Unit)=>[]) (fun(_:Unit) wr=>DE d (Ha [.box ba1_c0 [.func (.func 168) #[] #[Aac ba1_c0_0_c0]] 105,.box ba1_c0_0_c0 [va1_c0_0_c0_0] 170,.row va1_c0_0_c0_0 4 1 (a1_c0_0_c0).length xsa1_c0_0_c0_0] O) wr fun Oz=>A5 .bool (gz H d wr Oz) a1_c0_0_c0 xsa1_c0_0_c0_0/\Le (fz w (Ha [.box ba1_c0 [.func (.func 168) #[] #[Aac ba1_c0_0_c0]] 105,.box ba1_c0_0_c0 [va1_c0_0_c0_0] 170,.row va1_c0_0_c0_0 4 1 (a1_c0_0_c0).length xsa1_c0_0_c0_0] O)) (fz wr Oz)/\CY=some r) ?_ ?_
 ·refine B1 1 Z<|Ag (AT k)<|A1 1 Z<|A8 ?_;obtain⟨g,h⟩:=Bc h;refine Bz (Int×Nat) (fun⟨a,n⟩=>[(0,va0),(1,.func (.func 172) #[] #[Aac ba1_c0]),(7,No (a0.length:Int)),(8,No a)]) (fun⟨a,n⟩ wr=>DE d (Ha [.box ba1_c0 [.func (.func 168) #[] #[Aac ba1_c0_0_c0]] 105,.box ba1_c0_0_c0 [va1_c0_0_c0_0] 170,.row va1_c0_0_c0_0 4 1 (a1_c0_0_c0).length xsa1_c0_0_c0_0] O) wr fun Oz=>AL (.int .i64) (gz H d wr Oz) va0 a0/\A5 .bool (gz H d wr Oz) a1_c0_0_c0 xsa1_c0_0_c0_0/\Le (fz w (Ha [.box ba1_c0 [.func (.func 168) #[] #[Aac ba1_c0_0_c0]] 105,.box ba1_c0_0_c0 [va1_c0_0_c0_0] 170,.row va1_c0_0_c0_0 4 1 (a1_c0_0_c0).length xsa1_c0_0_c0_0] O)) (fz wr Oz)/\FW (CL a0 a1_c0_0_c0) n a=some r) (fun⟨a,n⟩=>n) (0,g) Z ⟨hL,k,hea1_c0_0_c0_0,hT,h⟩ ?_;rintro⟨a,nn42⟩ t ⟨e,b,he42_Ra1_c0_0_c0_0,hT,h⟩;obtain⟨g,x,rfl,h,f⟩:=Ba h;refine AI 1 Z<|AM<|AS h ?_ ?_<;>intro l h
  ·refine A4<|A2<|AM<|A8<|AI 2 Z<|B1 3 Z<|A3 h fun i h=>Bf b a.toNat (CT i) (AD i) ?_;rintro y _ rfl m;refine Ag (AX m (Ao e))<|Av h fun z o h=>BU Z Z (Ns (a0:=(a0.getD a.toNat Qq1)) (a1_0_c0:=a1_c0_0_c0) (O:=(Ha [] O)) hH e he42_Ra1_c0_0_c0_0 o) ?_;rintro _ aa ⟨rfl,j,c⟩;refine Al<|Bi h ?_ ?_<;>intro p h
   ·refine AI 2 Z<|Au<|Ay<|AE<|BM ?_;have h:=BW.out h f;refine Ay<|Bp ?_
    cases h
    refine Aj Z ?_;have hT:=hT.trans c;exact⟨Z,j,hT⟩
   refine A4<|A9<|A2<|Az<|A3 h fun q h=>Ag (AA q)<|Ar 1 Z<|AP ?_;have h:=BW.again h f;have b:=b.mono (Ac c);have he42_Ra1_c0_0_c0_0:=he42_Ra1_c0_0_c0_0.mono (Ac c);have hT:=hT.trans c;refine AN (_,_) ⟨j,b,he42_Ra1_c0_0_c0_0,hT,h⟩
  refine Bq<|AK<|AF ?_;have h:=BW.out h f;refine Bj<|AH () ⟨e,he42_Ra1_c0_0_c0_0,hT,h⟩
 rintro _ u ⟨s,he27_Ra1_c0_0_c0_0,hT,h⟩;refine AI 1 Z<|Au ?_
 cases h
 refine Aj Z ⟨Z,s,hT⟩
def CZ(a0:Qq4)(a1_c0_0_c0:List Bool):Option Bool:=
 Qq8 (DH a0 a1_c0_0_c0) (fun a=>some (decide (0<=a)))
theorem Jw{a w:World}{H:PH}(hH:Le H (hp a)){O:List BN}{a0:Qq4}{a1_c0_0_c0:List Bool}{va0:Value}{ba1_c0 ba1_c0_0_c0:Nat}{va1_c0_0_c0_0:Value}{xsa1_c0_0_c0_0:Qq5}(hL:AW a (Ha [.box ba1_c0 [.func (.func 168) #[] #[Aac ba1_c0_0_c0]] 105,.box ba1_c0_0_c0 [va1_c0_0_c0_0] 170,.row va1_c0_0_c0_0 4 1 (a1_c0_0_c0).length xsa1_c0_0_c0_0] O) w)(c:AL (.int .i64) (gz H a w (Ha [.box ba1_c0 [.func (.func 168) #[] #[Aac ba1_c0_0_c0]] 105,.box ba1_c0_0_c0 [va1_c0_0_c0_0] 170,.row va1_c0_0_c0_0 4 1 (a1_c0_0_c0).length xsa1_c0_0_c0_0] O)) va0 a0)(hea1_c0_0_c0_0:A5 .bool (gz H a w (Ha [.box ba1_c0 [.func (.func 168) #[] #[Aac ba1_c0_0_c0]] 105,.box ba1_c0_0_c0 [va1_c0_0_c0_0] 170,.row va1_c0_0_c0_0 4 1 (a1_c0_0_c0).length xsa1_c0_0_c0_0] O)) a1_c0_0_c0 xsa1_c0_0_c0_0){r:Bool}(h:CZ a0 a1_c0_0_c0=some r):
  Ok prog 171 [va0,.func (.func 172) #[] #[Aac ba1_c0]] w (fun v w'=>v=.bool r/\AW a (Ha [.box ba1_c0 [.func (.func 168) #[] #[Aac ba1_c0_0_c0]] 105,.box ba1_c0_0_c0 [va1_c0_0_c0_0] 170,.row va1_c0_0_c0_0 4 1 (a1_c0_0_c0).length xsa1_c0_0_c0_0] O) w'/\Le (fz w (Ha [.box ba1_c0 [.func (.func 168) #[] #[Aac ba1_c0_0_c0]] 105,.box ba1_c0_0_c0 [va1_c0_0_c0_0] 170,.row va1_c0_0_c0_0 4 1 (a1_c0_0_c0).length xsa1_c0_0_c0_0] O)) (fz w' (Ha [.box ba1_c0 [.func (.func 168) #[] #[Aac ba1_c0_0_c0]] 105,.box ba1_c0_0_c0 [va1_c0_0_c0_0] 170,.row va1_c0_0_c0_0 4 1 (a1_c0_0_c0).length xsa1_c0_0_c0_0] O))):=by
 refine BC (n:=9) [(0,va0),(1,.func (.func 172) #[] #[Aac ba1_c0])] func171 Z Z Z Z ?_;have hT:=Le.refl (fz w (Ha [.box ba1_c0 [.func (.func 168) #[] #[Aac ba1_c0_0_c0]] 105,.box ba1_c0_0_c0 [va1_c0_0_c0_0] 170,.row va1_c0_0_c0_0 4 1 (a1_c0_0_c0).length xsa1_c0_0_c0_0] O));refine AI 1 Z<|B1 2 Z<|Av h fun f d h=>BO (JY (a0:=a0) (a1_c0_0_c0:=a1_c0_0_c0) (O:=(Ha [] O)) hH hL c hea1_c0_0_c0_0 d) ?_;rintro _ g ⟨rfl,e,b⟩;refine A1 2 Z<|Au ?_
 cases h
 refine Aj Z ?_;have hT:=hT.trans b;exact⟨Z,e,hT⟩
def Da:Option Int:=
 some ((-1))
def CM(a0:Qq4)(a1_c0:List Bool):Int->Option ((Int)⊕(Int)):=fun a=>
 if a<(a0.length:Int)then Bb (0<=a/\a<(a0.length:Int)) (Qq8 (Em (a0.getD a.toNat Qq1) a1_c0) (fun b=>if b then Qzq Sum.inr (some a)else Bb (BH (a+1)) (some (Sum.inl (a+1)))))else Qzq Sum.inr Da
def Ez(a0:Qq4)(a1_c0:List Bool)(s:Int):Option Int:=Go.L.run (CM a0 a1_c0) s
def DI(a0:Qq4)(a1_c0:List Bool):Option Int:=
 (Ez a0 a1_c0) (0:Int)
theorem JZ{d w:World}{H:PH}(hH:Le H (hp d)){O:List BN}{a0:Qq4}{a1_c0:List Bool}{va0:Value}{ba1_c0:Nat}{va1_c0_0:Value}{xsa1_c0_0:Qq5}(hL:AW d (Ha [.box ba1_c0 [va1_c0_0] 170,.row va1_c0_0 4 1 (a1_c0).length xsa1_c0_0] O) w)(k:AL (.int .i64) (gz H d w (Ha [.box ba1_c0 [va1_c0_0] 170,.row va1_c0_0 4 1 (a1_c0).length xsa1_c0_0] O)) va0 a0)(hea1_c0_0:A5 .bool (gz H d w (Ha [.box ba1_c0 [va1_c0_0] 170,.row va1_c0_0 4 1 (a1_c0).length xsa1_c0_0] O)) a1_c0 xsa1_c0_0){r:Int}(h:DI a0 a1_c0=some r):
  Ok prog 58 [va0,.func (.func 168) #[] #[Aac ba1_c0]] w (fun v w'=>v=No r/\AW d (Ha [.box ba1_c0 [va1_c0_0] 170,.row va1_c0_0 4 1 (a1_c0).length xsa1_c0_0] O) w'/\Le (fz w (Ha [.box ba1_c0 [va1_c0_0] 170,.row va1_c0_0 4 1 (a1_c0).length xsa1_c0_0] O)) (fz w' (Ha [.box ba1_c0 [va1_c0_0] 170,.row va1_c0_0 4 1 (a1_c0).length xsa1_c0_0] O))):=by
 refine BC (n:=19) [(0,va0),(1,.func (.func 168) #[] #[Aac ba1_c0])] func58 Z Z Z Z ?_;have hT:=Le.refl (fz w (Ha [.box ba1_c0 [va1_c0_0] 170,.row va1_c0_0 4 1 (a1_c0).length xsa1_c0_0] O));refine AI 1 Z<|Bm Unit (fun(_:Unit)=>[]) (fun(_:Unit) wr=>DE d (Ha [.box ba1_c0 [va1_c0_0] 170,.row va1_c0_0 4 1 (a1_c0).length xsa1_c0_0] O) wr fun Oz=>A5 .bool (gz H d wr Oz) a1_c0 xsa1_c0_0/\Le (fz w (Ha [.box ba1_c0 [va1_c0_0] 170,.row va1_c0_0 4 1 (a1_c0).length xsa1_c0_0] O)) (fz wr Oz)/\Da=some r) ?_ ?_
 ·refine B1 1 Z<|Ag (AT k)<|A1 1 Z<|A8 ?_;obtain⟨g,h⟩:=Bc h;refine Bz (Int×Nat) (fun⟨a,n⟩=>[(0,va0),(1,.func (.func 168) #[] #[Aac ba1_c0]),(7,No (a0.length:Int)),(8,No a)]) (fun⟨a,n⟩ wr=>DE d (Ha [.box ba1_c0 [va1_c0_0] 170,.row va1_c0_0 4 1 (a1_c0).length xsa1_c0_0] O) wr fun Oz=>AL (.int .i64) (gz H d wr Oz) va0 a0/\A5 .bool (gz H d wr Oz) a1_c0 xsa1_c0_0/\Le (fz w (Ha [.box ba1_c0 [va1_c0_0] 170,.row va1_c0_0 4 1 (a1_c0).length xsa1_c0_0] O)) (fz wr Oz)/\FW (CM a0 a1_c0) n a=some r) (fun⟨a,n⟩=>n) (0,g) Z ⟨hL,k,hea1_c0_0,hT,h⟩ ?_;rintro⟨a,nn42⟩ t ⟨e,b,he42_Ra1_c0_0,hT,h⟩;obtain⟨g,x,rfl,h,f⟩:=Ba h;refine AI 1 Z<|AM<|AS h ?_ ?_<;>intro l h
  ·refine A4<|A2<|AM<|A8<|AI 2 Z<|B1 3 Z<|A3 h fun i h=>Bf b a.toNat (CT i) (AD i) ?_;rintro y _ rfl m;refine Ag (AX m (Ao e))<|Av h fun z o h=>BU Z Z (F1 hH (Ha [] O) (a0.getD a.toNat Qq1) a1_c0 e he42_Ra1_c0_0 o) ?_;rintro _ aa ⟨rfl,j,c⟩;refine Al<|Bi h ?_ ?_<;>intro p h
   ·refine AI 2 Z<|Au<|Ay<|AE<|BM ?_;have h:=BW.out h f;refine Ay<|Bp ?_
    cases h
    refine Aj Z ?_;have hT:=hT.trans c;exact⟨Z,j,hT⟩
   refine A4<|A9<|A2<|Az<|A3 h fun q h=>Ag (AA q)<|Ar 1 Z<|AP ?_;have h:=BW.again h f;have b:=b.mono (Ac c);have he42_Ra1_c0_0:=he42_Ra1_c0_0.mono (Ac c);have hT:=hT.trans c;refine AN (_,_) ⟨j,b,he42_Ra1_c0_0,hT,h⟩
  refine Bq<|AK<|AF ?_;have h:=BW.out h f;refine Bj<|AH () ⟨e,he42_Ra1_c0_0,hT,h⟩
 rintro _ u ⟨s,he27_Ra1_c0_0,hT,h⟩;refine AI 1 Z<|Au ?_
 cases h
 refine Aj Z ⟨Z,s,hT⟩
def Db(a0:Qq4)(a1_c0:List Bool):Option Bool:=
 Qq8 (DI a0 a1_c0) (fun a=>some (decide (0<=a)))
theorem Jx{a w:World}{H:PH}(hH:Le H (hp a)){O:List BN}{a0:Qq4}{a1_c0:List Bool}{va0:Value}{ba1_c0:Nat}{va1_c0_0:Value}{xsa1_c0_0:Qq5}(hL:AW a (Ha [.box ba1_c0 [va1_c0_0] 170,.row va1_c0_0 4 1 (a1_c0).length xsa1_c0_0] O) w)(c:AL (.int .i64) (gz H a w (Ha [.box ba1_c0 [va1_c0_0] 170,.row va1_c0_0 4 1 (a1_c0).length xsa1_c0_0] O)) va0 a0)(hea1_c0_0:A5 .bool (gz H a w (Ha [.box ba1_c0 [va1_c0_0] 170,.row va1_c0_0 4 1 (a1_c0).length xsa1_c0_0] O)) a1_c0 xsa1_c0_0){r:Bool}(h:Db a0 a1_c0=some r):
  Ok prog 171 [va0,.func (.func 168) #[] #[Aac ba1_c0]] w (fun v w'=>v=.bool r/\AW a (Ha [.box ba1_c0 [va1_c0_0] 170,.row va1_c0_0 4 1 (a1_c0).length xsa1_c0_0] O) w'/\Le (fz w (Ha [.box ba1_c0 [va1_c0_0] 170,.row va1_c0_0 4 1 (a1_c0).length xsa1_c0_0] O)) (fz w' (Ha [.box ba1_c0 [va1_c0_0] 170,.row va1_c0_0 4 1 (a1_c0).length xsa1_c0_0] O))):=by
 refine BC (n:=9) [(0,va0),(1,.func (.func 168) #[] #[Aac ba1_c0])] func171 Z Z Z Z ?_;have hT:=Le.refl (fz w (Ha [.box ba1_c0 [va1_c0_0] 170,.row va1_c0_0 4 1 (a1_c0).length xsa1_c0_0] O));refine AI 1 Z<|B1 2 Z<|Av h fun f d h=>BO (JZ (a0:=a0) (a1_c0:=a1_c0) (O:=(Ha [] O)) hH hL c hea1_c0_0 d) ?_;rintro _ g ⟨rfl,e,b⟩;refine A1 2 Z<|Au ?_
 cases h
 refine Aj Z ?_;have hT:=hT.trans b;exact⟨Z,e,hT⟩
def IX(a0:AaE)(a1_0_c0:List Bool)(a2:(List AaE)):Option Bool:=
 if a0.2.1=10 then Qq8 (Em a0.2.2.2.2.2.2.2.2.1 a1_0_c0) (fun f=>some f)else(if a0.2.1=6 then Qq8 (Em a0.2.2.2.2.2.2.2.2.1 a1_0_c0) (fun a=>if a then Bb (0<=a0.2.2.2.2.2.2.2.2.1/\a0.2.2.2.2.2.2.2.2.1<(a2.length:Int)) (Qq8 (GV (a2.getD a0.2.2.2.2.2.2.2.2.1.toNat Qq1)) (fun b=>if b=0 then some true else Qq8 (Em a0.2.2.2.2.2.2.2.2.2.1 a1_0_c0) (fun c=>some c)))else some false)else(if a0.2.1=7 then Qq8 (CZ a0.2.2.2.2.2.2.2.2.2.2.2 a1_0_c0) (fun d=>some (!d))else(if a0.2.1=8 then Qq8 (Db a0.2.2.2.2.2.2.2.2.2.2.2 a1_0_c0) (fun e=>some e)else some true)))
theorem F2{e w:World}{H:PH}(hH:Le H (hp e))(O:List BN)(a0:AaE)(a1_0_c0:List Bool)(a2:(List AaE)){va0_2 va0_10 va0_11:Value}{ba1 ba1_0_c0:Nat}{va1_0_c0_0:Value}{xsa1_0_c0_0:Qq5}{ba2:Nat}{va2_0:Value}(hL:AW e (Ha [.box ba1 [.func (.func 168) #[] #[Aac ba1_0_c0]] 105,.box ba1_0_c0 [va1_0_c0_0] 170,.row va1_0_c0_0 4 1 (a1_0_c0).length xsa1_0_c0_0,.box ba2 [va2_0] 25] O) w)(_ha0_2:AL .byte (gz H e w (Ha [.box ba1 [.func (.func 168) #[] #[Aac ba1_0_c0]] 105,.box ba1_0_c0 [va1_0_c0_0] 170,.row va1_0_c0_0 4 1 (a1_0_c0).length xsa1_0_c0_0,.box ba2 [va2_0] 25] O)) va0_2 (a0.2.2.1))(_ha0_10:AL .st (gz H e w (Ha [.box ba1 [.func (.func 168) #[] #[Aac ba1_0_c0]] 105,.box ba1_0_c0 [va1_0_c0_0] 170,.row va1_0_c0_0 4 1 (a1_0_c0).length xsa1_0_c0_0,.box ba2 [va2_0] 25] O)) va0_10 (a0.2.2.2.2.2.2.2.2.2.2.1))(p:AL (.int .i64) (gz H e w (Ha [.box ba1 [.func (.func 168) #[] #[Aac ba1_0_c0]] 105,.box ba1_0_c0 [va1_0_c0_0] 170,.row va1_0_c0_0 4 1 (a1_0_c0).length xsa1_0_c0_0,.box ba2 [va2_0] 25] O)) va0_11 (a0.2.2.2.2.2.2.2.2.2.2.2))(hea1_0_c0_0:A5 .bool (gz H e w (Ha [.box ba1 [.func (.func 168) #[] #[Aac ba1_0_c0]] 105,.box ba1_0_c0 [va1_0_c0_0] 170,.row va1_0_c0_0 4 1 (a1_0_c0).length xsa1_0_c0_0,.box ba2 [va2_0] 25] O)) a1_0_c0 xsa1_0_c0_0)(am:AL AaK (gz H e w (Ha [.box ba1 [.func (.func 168) #[] #[Aac ba1_0_c0]] 105,.box ba1_0_c0 [va1_0_c0_0] 170,.row va1_0_c0_0 4 1 (a1_0_c0).length xsa1_0_c0_0,.box ba2 [va2_0] 25] O)) va2_0 a2){r:Bool}(h:IX a0 a1_0_c0 a2=some r):
  Ok prog 169 [.agg #[Aad a0.1,No a0.2.1,va0_2,No a0.2.2.2.1,.bool a0.2.2.2.2.1,No a0.2.2.2.2.2.1,No a0.2.2.2.2.2.2.1,No a0.2.2.2.2.2.2.2.1,No a0.2.2.2.2.2.2.2.2.1,No a0.2.2.2.2.2.2.2.2.2.1,va0_10,va0_11],Aac ba1,Aac ba2] w (fun v w'=>v=.bool r/\AW e (Ha [.box ba1 [.func (.func 168) #[] #[Aac ba1_0_c0]] 105,.box ba1_0_c0 [va1_0_c0_0] 170,.row va1_0_c0_0 4 1 (a1_0_c0).length xsa1_0_c0_0,.box ba2 [va2_0] 25] O) w'/\Le (fz w (Ha [.box ba1 [.func (.func 168) #[] #[Aac ba1_0_c0]] 105,.box ba1_0_c0 [va1_0_c0_0] 170,.row va1_0_c0_0 4 1 (a1_0_c0).length xsa1_0_c0_0,.box ba2 [va2_0] 25] O)) (fz w' (Ha [.box ba1 [.func (.func 168) #[] #[Aac ba1_0_c0]] 105,.box ba1_0_c0 [va1_0_c0_0] 170,.row va1_0_c0_0 4 1 (a1_0_c0).length xsa1_0_c0_0,.box ba2 [va2_0] 25] O))):=by
 refine BC (n:=48) [(0,.agg #[Aad a0.1,No a0.2.1,va0_2,No a0.2.2.2.1,.bool a0.2.2.2.2.1,No a0.2.2.2.2.2.1,No a0.2.2.2.2.2.2.1,No a0.2.2.2.2.2.2.2.1,No a0.2.2.2.2.2.2.2.2.1,No a0.2.2.2.2.2.2.2.2.2.1,va0_10,va0_11]),(1,(Aac ba1)),(2,(Aac ba2))] func169 Z Z Z Z ?_;have hT:=Le.refl (fz w (Ha [.box ba1 [.func (.func 168) #[] #[Aac ba1_0_c0]] 105,.box ba1_0_c0 [va1_0_c0_0] 170,.row va1_0_c0_0 4 1 (a1_0_c0).length xsa1_0_c0_0,.box ba2 [va2_0] 25] O));have b:=hL.rG H;refine Aq<|Cj (t:=50) Z Z hL fun y l c d _=>A1 1 Z<|AM<|Aq<|Ag (Af Z Aak Z B4.e)<|Ag (Ae 0 Z c Z)<|Al<|A8<|AI 2 Z<|AS h ?_ ?_<;>intro bi h
 ·refine Aq<|Ag (Ae 1 Z c Z)<|Ag (Af Z Aak Z B4.e)<|Ag (Ae 0 Z c Z) ?_;have aw:AW e (Ha [.box ba1_0_c0 [va1_0_c0_0] 170,.row va1_0_c0_0 4 1 (a1_0_c0).length xsa1_0_c0_0,.box l [Aad a0.1,No a0.2.1,va0_2,No a0.2.2.2.1,.bool a0.2.2.2.2.1,No a0.2.2.2.2.2.1,No a0.2.2.2.2.2.2.1,No a0.2.2.2.2.2.2.2.1,No a0.2.2.2.2.2.2.2.2.1,No a0.2.2.2.2.2.2.2.2.2.1,va0_10,va0_11] 50,.box ba1 [.func (.func 168) #[] #[Aac ba1_0_c0]] 105,.box ba2 [va2_0] 25] O) y:=c.Bn [3,3] Z;have z:=AJ [3,3] c aw Z;refine Av h fun x6 bj h=>?_;have b:=b.trans (Ac (d.trans z));refine BU Z Z (F1 hH ((Ha [.box l [Aad a0.1,No a0.2.1,va0_2,No a0.2.2.2.1,.bool a0.2.2.2.2.1,No a0.2.2.2.2.2.1,No a0.2.2.2.2.2.2.1,No a0.2.2.2.2.2.2.2.1,No a0.2.2.2.2.2.2.2.2.1,No a0.2.2.2.2.2.2.2.2.2.1,va0_10,va0_11] 50,.box ba1 [.func (.func 168) #[] #[Aac ba1_0_c0]] 105,.box ba2 [va2_0] 25] O)) a0.2.2.2.2.2.2.2.2.1 a1_0_c0 aw (hea1_0_c0_0.mono b) bj) ?_;rintro _ w7 ⟨rfl,bk,az⟩;refine A1 1 Z<|Au<|Ay<|AE ?_
  cases h
  refine Aj Z ?_;have ax:=bk.AR (i:=2) Z;have ay:AW e (Ha [.box ba1 [.func (.func 168) #[] #[Aac ba1_0_c0]] 105,.box ba1_0_c0 [va1_0_c0_0] 170,.row va1_0_c0_0 4 1 (a1_0_c0).length xsa1_0_c0_0,.box ba2 [va2_0] 25] O) w7:=ax.Bn [2] Z;have a3:=AJ [2] ax ay Z;have hT:=hT.trans (d.trans (z.trans (az.trans ((Ah (i:=2) Z).trans a3))));exact⟨Z,ay,hT⟩
 refine AI 2 Z<|AS h ?_ ?_<;>intro a4 h
 ·refine Aq<|Ag (Ae 1 Z c Z)<|Ag (Af Z Aak Z B4.e)<|Ag (Ae 0 Z c Z) ?_;have aa:AW e (Ha [.box ba1_0_c0 [va1_0_c0_0] 170,.row va1_0_c0_0 4 1 (a1_0_c0).length xsa1_0_c0_0,.box l [Aad a0.1,No a0.2.1,va0_2,No a0.2.2.2.1,.bool a0.2.2.2.2.1,No a0.2.2.2.2.2.1,No a0.2.2.2.2.2.2.1,No a0.2.2.2.2.2.2.2.1,No a0.2.2.2.2.2.2.2.2.1,No a0.2.2.2.2.2.2.2.2.2.1,va0_10,va0_11] 50,.box ba1 [.func (.func 168) #[] #[Aac ba1_0_c0]] 105,.box ba2 [va2_0] 25] O) y:=c.Bn [3,3] Z;have j:=AJ [3,3] c aa Z;refine Av h fun br a5 h=>?_;have b:=b.trans (Ac (d.trans j));refine BU Z Z (F1 hH ((Ha [.box l [Aad a0.1,No a0.2.1,va0_2,No a0.2.2.2.1,.bool a0.2.2.2.2.1,No a0.2.2.2.2.2.1,No a0.2.2.2.2.2.2.1,No a0.2.2.2.2.2.2.2.1,No a0.2.2.2.2.2.2.2.2.1,No a0.2.2.2.2.2.2.2.2.2.1,va0_10,va0_11] 50,.box ba1 [.func (.func 168) #[] #[Aac ba1_0_c0]] 105,.box ba2 [va2_0] 25] O)) a0.2.2.2.2.2.2.2.2.1 a1_0_c0 aa (hea1_0_c0_0.mono b) a5) ?_;rintro _ bl ⟨rfl,g,k⟩;refine Ar 1 Z<|Bg 19 h ?_ ?_<;>intro a h
  ·refine Aa a<|Ag (Af Z Aas Z Ho.e)<|Aa a<|Ag (Ae 4 Z g Z)<|Aa a<|Ag (Af Z Aak Z B4.e)<|Aa a<|Ag (Ae 2 Z g Z)<|Aa a<|A3 h fun ab h=>?_;have b:=b.trans (Ac k);refine Bf (am.mono b) a0.2.2.2.2.2.2.2.2.1.toNat (CT ab) (AD ab) ?_;rintro bs _ ⟨_,_,rfl,rfl,⟨_,_,rfl,rfl,⟨_,_,rfl,⟨e18v2,rfl,e18h2⟩,⟨_,_,rfl,rfl,⟨_,_,rfl,rfl,⟨_,_,rfl,rfl,⟨_,_,rfl,rfl,⟨_,_,rfl,rfl,⟨_,_,rfl,rfl,⟨_,_,rfl,rfl,⟨_,_,rfl,⟨e18v10,rfl,e18h10⟩,⟨e18v11,rfl,e18h11⟩⟩⟩⟩⟩⟩⟩⟩⟩⟩⟩⟩ a6;refine Aa a<|Ag (Ce a6 (Ao g))<|Aa a<|Av h fun bt a7 h=>A6 g (MV _ _ (Ao g) e18h2 e18h10 e18h11 a7) fun bm bq m o=>Aa a<|Ag (Ad Z)<|Aa a<|Ag (Ad Z)<|AQ 28 h ?_ ?_<;>intro f h
   ·iterate 4 refine Ab f ?_
    refine Aa a<|Ag (Ak f Z)<|Ag (Ak a Z)<|A1 1 Z<|Au<|Ay<|AE ?_
    cases h
    refine Aj Z ?_;have ac:=m.AR (i:=2) Z;have ad:AW e (Ha [.box ba1 [.func (.func 168) #[] #[Aac ba1_0_c0]] 105,.box ba1_0_c0 [va1_0_c0_0] 170,.row va1_0_c0_0 4 1 (a1_0_c0).length xsa1_0_c0_0,.box ba2 [va2_0] 25] O) bm:=ac.Bn [2] Z;have an:=AJ [2] ac ad Z;have hT:=hT.trans (d.trans (j.trans (k.trans (o.trans ((Ah (i:=2) Z).trans an)))));exact⟨Z,ad,hT⟩
   refine Aa f<|Ag (Ae 3 Z m Z)<|Aa f<|Ag (Af Z Aak Z B4.e)<|Aa f<|Ag (Ae 2 Z m Z)<|Aa f<|Av h fun bu a8 h=>?_;have b:=b.trans (Ac o);refine BU Z Z (F1 hH ((Ha [.box l [Aad a0.1,No a0.2.1,va0_2,No a0.2.2.2.1,.bool a0.2.2.2.2.1,No a0.2.2.2.2.2.1,No a0.2.2.2.2.2.2.1,No a0.2.2.2.2.2.2.2.1,No a0.2.2.2.2.2.2.2.2.1,No a0.2.2.2.2.2.2.2.2.2.1,va0_10,va0_11] 50,.box ba1 [.func (.func 168) #[] #[Aac ba1_0_c0]] 105,.box ba2 [va2_0] 25] O)) a0.2.2.2.2.2.2.2.2.2.1 a1_0_c0 m (hea1_0_c0_0.mono b) a8) ?_;rintro _ bn ⟨rfl,a9,ao⟩;refine Aa a<|Ag (Am f Z)<|Ag (Ak a Z)<|A1 1 Z<|Au<|Ay<|AE ?_
   cases h
   refine Aj Z ?_;have ae:=a9.AR (i:=2) Z;have af:AW e (Ha [.box ba1 [.func (.func 168) #[] #[Aac ba1_0_c0]] 105,.box ba1_0_c0 [va1_0_c0_0] 170,.row va1_0_c0_0 4 1 (a1_0_c0).length xsa1_0_c0_0,.box ba2 [va2_0] 25] O) bn:=ae.Bn [2] Z;have ap:=AJ [2] ae af Z;have hT:=hT.trans (d.trans (j.trans (k.trans (o.trans (ao.trans ((Ah (i:=2) Z).trans ap))))));exact⟨Z,af,hT⟩
  iterate 9 refine Ab a ?_
  iterate 4 refine As ?_
  refine Ab a<|Ag (Am a Z)<|A1 1 Z<|Au<|Ay<|AE ?_
  cases h
  refine Aj Z ?_;have ag:=g.AR (i:=2) Z;have ah:AW e (Ha [.box ba1 [.func (.func 168) #[] #[Aac ba1_0_c0]] 105,.box ba1_0_c0 [va1_0_c0_0] 170,.row va1_0_c0_0 4 1 (a1_0_c0).length xsa1_0_c0_0,.box ba2 [va2_0] 25] O) bl:=ag.Bn [2] Z;have aq:=AJ [2] ag ah Z;have hT:=hT.trans (d.trans (j.trans (k.trans ((Ah (i:=2) Z).trans aq))));exact⟨Z,ah,hT⟩
 refine AI 2 Z<|AS h ?_ ?_<;>intro ba h
 ·refine Aq<|Ag (Af Z Aak Z E4.e)<|Ag (Ae 0 Z c Z)<|Ar 1 Z ?_;have q:AW e (Ha [.box ba1_0_c0 [va1_0_c0_0] 170,.row va1_0_c0_0 4 1 (a1_0_c0).length xsa1_0_c0_0,.box l [Aad a0.1,No a0.2.1,va0_2,No a0.2.2.2.1,.bool a0.2.2.2.2.1,No a0.2.2.2.2.2.1,No a0.2.2.2.2.2.2.1,No a0.2.2.2.2.2.2.2.1,No a0.2.2.2.2.2.2.2.2.1,No a0.2.2.2.2.2.2.2.2.2.1,va0_10,va0_11] 50,.box ba1 [.func (.func 168) #[] #[Aac ba1_0_c0]] 105,.box ba2 [va2_0] 25] O) y:=c.Bn [3,3] Z;have s:=AJ [3,3] c q Z;have ai:AW e (Ha [.box ba1 [.func (.func 168) #[] #[Aac ba1_0_c0]] 105,.box ba1_0_c0 [va1_0_c0_0] 170,.row va1_0_c0_0 4 1 (a1_0_c0).length xsa1_0_c0_0,.box l [Aad a0.1,No a0.2.1,va0_2,No a0.2.2.2.1,.bool a0.2.2.2.2.1,No a0.2.2.2.2.2.1,No a0.2.2.2.2.2.2.1,No a0.2.2.2.2.2.2.2.1,No a0.2.2.2.2.2.2.2.2.1,No a0.2.2.2.2.2.2.2.2.2.1,va0_10,va0_11] 50,.box ba2 [va2_0] 25] O) y:=q.Bn [3] Z;have u:=AJ [3] q ai Z;refine Av h fun bv bb h=>?_;have b:=b.trans (Ac (d.trans (s.trans u)))
  refine BO (Jw (a0:=a0.2.2.2.2.2.2.2.2.2.2.2) (a1_c0_0_c0:=a1_0_c0) (O:=(Ha [.box l [Aad a0.1,No a0.2.1,va0_2,No a0.2.2.2.1,.bool a0.2.2.2.2.1,No a0.2.2.2.2.2.1,No a0.2.2.2.2.2.2.1,No a0.2.2.2.2.2.2.2.1,No a0.2.2.2.2.2.2.2.2.1,No a0.2.2.2.2.2.2.2.2.2.1,va0_10,va0_11] 50,.box ba2 [va2_0] 25] O)) hH ai (p.mono b) (hea1_0_c0_0.mono b) bb) ?_;rintro _ bw ⟨rfl,bc,ar⟩;refine A1 2 Z<|Au<|Ay<|AE ?_
  cases h
  refine Aj Z ?_;have bd:=bc.AR (i:=3) Z;have hT:=hT.trans (d.trans (s.trans (u.trans (ar.trans (Ah (i:=3) Z)))));exact⟨Z,bd,hT⟩
 refine AI 2 Z<|AS h ?_ ?_<;>intro be h
 ·refine Aq<|Ag (Af Z Aak Z E4.e)<|Ag (Ae 0 Z c Z)<|Ag (Ae 1 Z c Z) ?_;have aj:AW e (Ha [.box ba1_0_c0 [va1_0_c0_0] 170,.row va1_0_c0_0 4 1 (a1_0_c0).length xsa1_0_c0_0,.box l [Aad a0.1,No a0.2.1,va0_2,No a0.2.2.2.1,.bool a0.2.2.2.2.1,No a0.2.2.2.2.2.1,No a0.2.2.2.2.2.2.1,No a0.2.2.2.2.2.2.2.1,No a0.2.2.2.2.2.2.2.2.1,No a0.2.2.2.2.2.2.2.2.2.1,va0_10,va0_11] 50,.box ba1 [.func (.func 168) #[] #[Aac ba1_0_c0]] 105,.box ba2 [va2_0] 25] O) y:=c.Bn [3,3] Z;have x:=AJ [3,3] c aj Z;refine Av h fun bx bf h=>?_;have b:=b.trans (Ac (d.trans x));refine BO (Jx (a0:=a0.2.2.2.2.2.2.2.2.2.2.2) (a1_c0:=a1_0_c0) (O:=(Ha [.box l [Aad a0.1,No a0.2.1,va0_2,No a0.2.2.2.1,.bool a0.2.2.2.2.1,No a0.2.2.2.2.2.1,No a0.2.2.2.2.2.2.1,No a0.2.2.2.2.2.2.2.1,No a0.2.2.2.2.2.2.2.2.1,No a0.2.2.2.2.2.2.2.2.2.1,va0_10,va0_11] 50,.box ba1 [.func (.func 168) #[] #[Aac ba1_0_c0]] 105,.box ba2 [va2_0] 25] O)) hH aj (p.mono b) (hea1_0_c0_0.mono b) bf) ?_;rintro _ bo ⟨rfl,bg,au⟩;refine A1 1 Z<|Au<|Ay ?_
  refine AE ?_
  cases h
  refine Aj Z ?_;have ak:=bg.AR (i:=2) Z;have al:AW e (Ha [.box ba1 [.func (.func 168) #[] #[Aac ba1_0_c0]] 105,.box ba1_0_c0 [va1_0_c0_0] 170,.row va1_0_c0_0 4 1 (a1_0_c0).length xsa1_0_c0_0,.box ba2 [va2_0] 25] O) bo:=ak.Bn [2] Z;have av:=AJ [2] ak al Z;have hT:=hT.trans (d.trans (x.trans (au.trans ((Ah (i:=2) Z).trans av))));exact⟨Z,al,hT⟩
 refine A4<|A9<|A2<|AI 1 Z<|Au ?_
 cases h
 refine Aj Z ?_;have bh:=c.AR (i:=0) Z;have hT:=hT.trans (d.trans (Ah (i:=0) Z));exact⟨Z,bh,hT⟩
def Iq(a:Int)(b:List Bool):Option (((List Bool)×Int)⊕((List Bool))):=
 Bb (BH (a+1)) (some (Sum.inl (b,(a+1))))
def HC(a0:(List AaE))(c:Int):(List Bool)×Int->Option (((List Bool)×Int)⊕(((List Bool)×Int)⊕((List Bool)))):=fun⟨b,a⟩=>
 if a<(a0.length:Int)then Bb (0<=a/\a<(a0.length:Int)) (Bb (0<=a/\a<(b.length:Int)) (if b.getD a.toNat Qq1 then Bb (0<=a/\a<(b.length:Int)) (Bb (BH (a+1)) (some (Sum.inl ((b.set a.toNat true),(a+1)))))else Qq8 (IX (a0.getD a.toNat Qq1) b a0) (fun d=>Bb (0<=a/\a<(b.length:Int)) (Bb (BH (a+1)) (some (Sum.inl ((b.set a.toNat d),(a+1))))))))else Qzq Sum.inr ((Iq c) b)
def Ka(a0:(List AaE))(a:Int)(s:(List Bool)×Int):Option (((List Bool)×Int)⊕((List Bool))):=Go.L.run (HC a0 a) s
def Ir(a:List Bool):Option ((List Bool)):=
 some a
def HD(a0:(List AaE)):(List Bool)×Int->Option (((List Bool)×Int)⊕((List Bool))):=fun⟨b,a⟩=>
 if a<(a0.length:Int)then(Ka a0 a) (b,0)else Qzq Sum.inr (Ir b)
def Kb(a0:(List AaE))(s:(List Bool)×Int):Option ((List Bool)):=Go.L.run (HD a0) s
def IK(a0:(List AaE)):Option ((List Bool)):=
 Bb (0<=(a0.length:Int)/\((1:Nat):Int) * (a0.length:Int)<=281474976710656/\(a0.length:Int)<=9223372036854775807) ((Kb a0) ((Qzw (a0.length:Int).toNat (false:Bool)),0))
section
variable(w:World)(H:PH)(hH:Le H (hp w)) include hH
theorem OO{a0:(List AaE)}{m:Value}(am:AL AaK H m a0){r:(List Bool)}(h:IK a0=some r):
  Qqv 128 [.agg #[m]] w (fun v w'=>∃u0,v=u0/\Cv 4 .bool H w w' u0 r):=by
 refine AG 42 [(0,.agg #[m])] func128 Z fun hL=>Aq<|Cj (t:=25) Z Z hL fun w1 b1 ec fw _=>A1 1 Z<|Aq<|Ag (Af Z Aas Z Ho.e)<|Ag (Ae 0 Z ec Z)<|Ag (AT am)<|A3 h fun et h=>Rt (r:=.bool) (z:=(false:Bool)) Aao (fun _=>Z) hH ec et fun v2 w2 eu ev fx cp=>AZ X1.e Z ev fun w4 x ed ef _=>AY 0 Z Z (row_one (ed.at (i:=1) Z)) ed Z Z fun w5 ew eg=>Al<|B1 1 Z<|AZ T2.e Z ew fun w6 b6 ex eh _=>AY 0 Z Z Z ex Z Z fun w7 ee ei=>Al<|AI 2 Z<|Bm ((List Bool)×Qq5) (fun⟨ay,aq⟩=>[(3,(Aac x))]) (fun⟨ay,aq⟩ wr=>DE w [.box b6 [.func (.func 168) #[] #[Aac x]] 105,.box x [v2] 170,.row v2 4 1 (ay).length aq,.box b1 [m] 25] wr fun Oz=>A5 .bool (gz H w wr Oz) ay aq/\Ir ay=some r) ?_ ?_
 ·refine Aq<|Ag (Af Z Aas Z Ho.e)<|Ag (Ae 3 Z ee Z)<|Ag (AT am)<|A1 1 Z<|A8 ?_;obtain⟨b3,h⟩:=Bc h;have cp:=cp.mono (Ac (ef.trans (eg.trans (eh.trans ei))));refine Bz ((List Bool)×Int×Qq5×Nat) (fun⟨ao,o,ae,n⟩=>[(1,(Aac b1)),(3,(Aac x)),(5,.func (.func 169) #[] #[Aac b6,Aac b1]),(16,No (a0.length:Int)),(17,No o)]) (fun⟨ao,o,ae,n⟩ wr=>DE w [.box b6 [.func (.func 168) #[] #[Aac x]] 105,.box x [v2] 170,.row v2 4 1 (ao).length ae,.box b1 [m] 25] wr fun Oz=>A5 .bool (gz H w wr Oz) ao ae/\FW (HD a0) n (ao,o)=some r) (fun⟨ao,o,ae,n⟩=>n) ((Qzw (a0.length:Int).toNat (false:Bool)),0,eu,b3) Z ⟨ee,cp,h⟩ ?_;rintro⟨ao,o,ae,nn703⟩ ez ⟨bp,br,h⟩;obtain⟨b3,cq,rfl,h,b5⟩:=Ba h;refine AI 1 Z<|AM<|AS h ?_ ?_<;>intro ea h
  ·refine A4<|A2<|Bm ((List Bool)×Qq5) (fun⟨au,ap⟩=>[(1,(Aac b1)),(3,(Aac x)),(5,.func (.func 169) #[] #[Aac b6,Aac b1]),(16,No (a0.length:Int)),(17,No o)]) (fun⟨au,ap⟩ wr=>DE w [.box b6 [.func (.func 168) #[] #[Aac x]] 105,.box x [v2] 170,.row v2 4 1 (au).length ap,.box b1 [m] 25] wr fun Oz=>A5 .bool (gz H w wr Oz) au ap/\(Iq o) au=some cq) ?_ ?_
   ·refine A8<|Aq<|Ag (Af Z Aas Z Ho.e)<|Ag (Ae 3 Z bp Z)<|Ag (AT am)<|A1 1 Z<|A8 ?_;obtain⟨ab,h⟩:=Bc h;refine Bz ((List Bool)×Int×Qq5×Nat) (fun⟨f,a,g,n⟩=>[(1,(Aac b1)),(3,(Aac x)),(5,.func (.func 169) #[] #[Aac b6,Aac b1]),(16,No (a0.length:Int)),(17,No o),(20,m),(21,No (a0.length:Int)),(22,No a)]) (fun⟨f,a,g,n⟩ wr=>DE w [.box b6 [.func (.func 168) #[] #[Aac x]] 105,.box x [v2] 170,.row v2 4 1 (f).length g,.box b1 [m] 25] wr fun Oz=>A5 .bool (gz H w wr Oz) f g/\FW (HC a0 o) n (f,a)=some cq) (fun⟨f,a,g,n⟩=>n) (ao,0,ae,ab) Z ⟨bp,br,h⟩ ?_;rintro⟨f,a,g,nn1045⟩ ey ⟨az,e,h⟩;obtain⟨ab,e0,rfl,h,y⟩:=Ba h;refine AI 1 Z<|AM<|AS h ?_ ?_<;>intro cr h
    ·refine A4<|A2<|AM<|A8<|B1 1 Z<|A3 h fun bs h=>Bf am a.toNat (CT bs) (AD bs) ?_;rintro e1 _ ⟨_,_,rfl,rfl,⟨_,_,rfl,rfl,⟨_,_,rfl,⟨e1049v2,rfl,e1049h2⟩,⟨_,_,rfl,rfl,⟨_,_,rfl,rfl,⟨_,_,rfl,rfl,⟨_,_,rfl,rfl,⟨_,_,rfl,rfl,⟨_,_,rfl,rfl,⟨_,_,rfl,rfl,⟨_,_,rfl,⟨e1049v10,rfl,e1049h10⟩,⟨e1049v11,rfl,e1049h11⟩⟩⟩⟩⟩⟩⟩⟩⟩⟩⟩⟩ cs;refine Ag (Ce cs (hH.trans az.arg))<|AZ Bl.e Z az fun e2 k ct av _=>Ar 1 Z<|A7 0 Z ct Z (h1:=(BP Z (BP Z (BP e1049h2.one (Uw 7 Z (BP e1049h10.one (BP e1049h11.one Mx))))))) fun e3 bt aw=>Al ?_
     refine Ek (D6 (OI (LG (D6 (D6 (IB (LG (D6 (IB Gy))))))))) (fun z0 z=>Le (gz H w z0 [.box k [.string ⟨((a0.getD a.toNat Qq1).1).toArray⟩,No ((a0.getD a.toNat Qq1).2.1),e1049v2,No ((a0.getD a.toNat Qq1).2.2.2.1),.bool ((a0.getD a.toNat Qq1).2.2.2.2.1),No ((a0.getD a.toNat Qq1).2.2.2.2.2.1),No ((a0.getD a.toNat Qq1).2.2.2.2.2.2.1),No ((a0.getD a.toNat Qq1).2.2.2.2.2.2.2.1),No ((a0.getD a.toNat Qq1).2.2.2.2.2.2.2.2.1),No ((a0.getD a.toNat Qq1).2.2.2.2.2.2.2.2.2.1),e1049v10,e1049v11] 50,.box b6 [.func (.func 168) #[] #[Aac x]] 105,.box x [v2] 170,.row v2 4 1 (f).length g,.box b1 [m] 25]) (hp z)/\z.heap[k]? = some (.cells [.string ⟨((a0.getD a.toNat Qq1).1).toArray⟩,No ((a0.getD a.toNat Qq1).2.1),e1049v2,No ((a0.getD a.toNat Qq1).2.2.2.1),.bool ((a0.getD a.toNat Qq1).2.2.2.2.1),No ((a0.getD a.toNat Qq1).2.2.2.2.2.1),No ((a0.getD a.toNat Qq1).2.2.2.2.2.2.1),No ((a0.getD a.toNat Qq1).2.2.2.2.2.2.2.1),No ((a0.getD a.toNat Qq1).2.2.2.2.2.2.2.2.1),No ((a0.getD a.toNat Qq1).2.2.2.2.2.2.2.2.2.1),e1049v10,e1049v11].toArray 50 (0,0))) mixed Z (fun d ad bu=>?_)
     have b:=bt.call bu;have ax:=Bd bt bu;have c:=b.rG H;refine Gz ⟨c.trans (Ao b),b.at (i:=0) Z⟩ fun kI1056=>Aw 1 d kI1056 Z (fun _ _=>Ad Z) Z<|Aw 3 d kI1056 Z (fun _ _=>Ad Z) Z<|Q3 0 2 Z Z ?_ ?_
     ·refine Ag (Ae 2 Z b Z)<|AB ⟨c.trans (Ao b),b.at (i:=0) Z⟩ fun kI1057=>CK 2 Z<|Ag (Ae 2 Z b Z)<|AB ⟨c.trans (Ao b),b.at (i:=0) Z⟩ fun kI1058=>CK 4 Z<|A3 h fun af h=>?_;have e:=e.mono (Ac (av.trans (aw.trans ax)));refine Bf (b.KA hH (i:=3) Z (e.mono c)) a.toNat (CT af) (AD af) ?_;rintro e4 _ rfl cu;refine AB ⟨c.trans (Ao b),b.at (i:=0) Z⟩ fun kI1061=>CK 5 Z<|Ag (AX cu (Le.refl _))<|AB ⟨c.trans (Ao b),b.at (i:=0) Z⟩ fun kI1062=>Aw 6 d kI1062 Z (fun _ _=>Ad Z) Z<|Nk 33 Z (fun p=>?_) (fun p=>?_)
      ·have h:=LD p h;refine JK 7 d kI1062 Z Z Z Z p Z<|JK 8 d kI1062 Z Z Z Z p Z<|JK 9 d kI1062 Z Z Z Z p Z<|Aw 10 d kI1062 Z (fun _ _=>Ak p Z) Z<|CK 11 Z<|A3 h fun a1 h=>Ck 3 Z Aao Fv.e b Z a.toNat (CT a1) (AD a1) fun e5 cv=>AB ⟨c.trans (Ao b),b.at (i:=0) Z⟩ fun kI1067=>CK 12 Z<|CO 3 a.toNat true Z hH b Z (e.mono c) cv (AD a1) Z fun e6 cw cx ej a3=>En<|Cq<|A9<|A2<|Az<|A3 h fun cy h=>Ag (AA cy)<|Ar 1 Z<|AP ?_;have cz:=cx.AR (i:=0) Z;have h:=BW.again h y;have a3:=a3.mono (Ac (Ah (i:=0) Z));refine AN (_,_,_,_) ⟨cz,a3,h⟩
      have h:=LF p h;refine ES 7 d kI1062 Z Z Z Z p (fun _ _=>Ad Z) Z<|ES 8 d kI1062 Z Z Z Z p (fun _ hI=>Ku hI.2) Z<|CK 9 Z<|Aa p ?_;have a4:AW w [.row v2 4 1 (f).length g,.box b1 [m] 25,.box k [.string ⟨((a0.getD a.toNat Qq1).1).toArray⟩,No ((a0.getD a.toNat Qq1).2.1),e1049v2,No ((a0.getD a.toNat Qq1).2.2.2.1),.bool ((a0.getD a.toNat Qq1).2.2.2.2.1),No ((a0.getD a.toNat Qq1).2.2.2.2.2.1),No ((a0.getD a.toNat Qq1).2.2.2.2.2.2.1),No ((a0.getD a.toNat Qq1).2.2.2.2.2.2.2.1),No ((a0.getD a.toNat Qq1).2.2.2.2.2.2.2.2.1),No ((a0.getD a.toNat Qq1).2.2.2.2.2.2.2.2.2.1),e1049v10,e1049v11] 50,.box b6 [.func (.func 168) #[] #[Aac x]] 105,.box x [v2] 170] ad:=b.Bn [4,4] Z;have ca:=AJ [4,4] b a4 Z
      have bv:AW w [.box b6 [.func (.func 168) #[] #[Aac x]] 105,.box x [v2] 170,.row v2 4 1 (f).length g,.box b1 [m] 25,.box k [.string ⟨((a0.getD a.toNat Qq1).1).toArray⟩,No ((a0.getD a.toNat Qq1).2.1),e1049v2,No ((a0.getD a.toNat Qq1).2.2.2.1),.bool ((a0.getD a.toNat Qq1).2.2.2.2.1),No ((a0.getD a.toNat Qq1).2.2.2.2.2.1),No ((a0.getD a.toNat Qq1).2.2.2.2.2.2.1),No ((a0.getD a.toNat Qq1).2.2.2.2.2.2.2.1),No ((a0.getD a.toNat Qq1).2.2.2.2.2.2.2.2.1),No ((a0.getD a.toNat Qq1).2.2.2.2.2.2.2.2.2.1),e1049v10,e1049v11] 50] ad:=a4.Bn [4,4] Z;have cb:=AJ [4,4] a4 bv Z;refine Av h fun b7 c0 h=>?_;have c:=c.trans (Ac (ca.trans cb))
      refine BU Z Z (F2 hH ([.box k [.string ⟨((a0.getD a.toNat Qq1).1).toArray⟩,No ((a0.getD a.toNat Qq1).2.1),e1049v2,No ((a0.getD a.toNat Qq1).2.2.2.1),.bool ((a0.getD a.toNat Qq1).2.2.2.2.1),No ((a0.getD a.toNat Qq1).2.2.2.2.2.1),No ((a0.getD a.toNat Qq1).2.2.2.2.2.2.1),No ((a0.getD a.toNat Qq1).2.2.2.2.2.2.2.1),No ((a0.getD a.toNat Qq1).2.2.2.2.2.2.2.2.1),No ((a0.getD a.toNat Qq1).2.2.2.2.2.2.2.2.2.1),e1049v10,e1049v11] 50]) (a0.getD a.toNat Qq1) f a0 bv (e1049h2.mono  Ai) (e1049h10.mono  Ai) (e1049h11.mono  Ai) (e.mono c) (am.mono  Ai) c0) ?_;rintro _ e7 ⟨rfl,ai,cc⟩;have c:=c.trans (Ac cc);refine AB ⟨c.trans (Ao ai),ai.at (i:=4) Z⟩ fun kI1076=>Aw 10 d kI1076 Z (fun _ _=>Am p Z) Z<|CK 11 Z<|A3 h fun a5 h=>Ck 2 Z Aao Fv.e ai Z a.toNat (CT a5) (AD a5) fun e8 c1=>AB ⟨c.trans (Ao ai),ai.at (i:=4) Z⟩ fun kI1079=>CK 12 Z ?_
      refine CO 2 a.toNat b7 Z hH ai Z (e.mono c) c1 (AD a5) Z fun e9 c2 c3 ek a6=>En<|Cq<|A9<|A2<|Az<|A3 h fun c4 h=>Ag (AA c4)<|Ar 1 Z<|AP ?_;have c5:=c3.AR (i:=4) Z;have h:=BW.again h y;have a6:=a6.mono (Ac (Ah (i:=4) Z));refine AN (_,_,_,_) ⟨c5,a6,h⟩
     refine A3 h fun af h=>Ag (Ae 2 Z b Z)<|AB ⟨c.trans (Ao b),b.at (i:=0) Z⟩ fun kI1083=>Q3 0 4 Z Z ?_ ?_
     ·refine Ag (Ae 2 Z b Z)<|AB ⟨c.trans (Ao b),b.at (i:=0) Z⟩ fun kI1084=>CK 4 Z ?_;have e:=e.mono (Ac (av.trans (aw.trans ax)));refine Bf (b.KA hH (i:=3) Z (e.mono c)) a.toNat (CT af) (AD af) ?_;rintro fa _ rfl c6;refine AB ⟨c.trans (Ao b),b.at (i:=0) Z⟩ fun kI1086=>CK 5 Z<|Ag (AX c6 (Le.refl _))<|AB ⟨c.trans (Ao b),b.at (i:=0) Z⟩ fun kI1087=>Aw 6 d kI1087 Z (fun _ _=>Ad Z) Z<|Nk 33 Z (fun q=>?_) (fun q=>?_)
      ·have h:=LD q h;refine JK 7 d kI1087 Z Z Z Z q Z<|JK 8 d kI1087 Z Z Z Z q Z<|JK 9 d kI1087 Z Z Z Z q Z<|Aw 10 d kI1087 Z (fun _ _=>Ak q Z) Z<|CK 11 Z<|A3 h fun a7 h=>Ck 3 Z Aao Fv.e b Z a.toNat (CT a7) (AD a7) fun fb c7=>AB ⟨c.trans (Ao b),b.at (i:=0) Z⟩ fun kI1092=>CK 12 Z<|CO 3 a.toNat true Z hH b Z (e.mono c) c7 (AD a7) Z fun fc c8 c9 el a8=>En<|Cq<|A9<|A2<|Az<|A3 h fun da h=>Ag (AA da)<|Ar 1 Z<|AP ?_;have db:=c9.AR (i:=0) Z;have h:=BW.again h y;have a8:=a8.mono (Ac (Ah (i:=0) Z));refine AN (_,_,_,_) ⟨db,a8,h⟩
      have h:=LF q h;refine ES 7 d kI1087 Z Z Z Z q (fun _ _=>Ad Z) Z<|ES 8 d kI1087 Z Z Z Z q (fun _ hI=>Ku hI.2) Z<|CK 9 Z<|Aa q ?_;have a9:AW w [.row v2 4 1 (f).length g,.box b1 [m] 25,.box k [.string ⟨((a0.getD a.toNat Qq1).1).toArray⟩,No ((a0.getD a.toNat Qq1).2.1),e1049v2,No ((a0.getD a.toNat Qq1).2.2.2.1),.bool ((a0.getD a.toNat Qq1).2.2.2.2.1),No ((a0.getD a.toNat Qq1).2.2.2.2.2.1),No ((a0.getD a.toNat Qq1).2.2.2.2.2.2.1),No ((a0.getD a.toNat Qq1).2.2.2.2.2.2.2.1),No ((a0.getD a.toNat Qq1).2.2.2.2.2.2.2.2.1),No ((a0.getD a.toNat Qq1).2.2.2.2.2.2.2.2.2.1),e1049v10,e1049v11] 50,.box b6 [.func (.func 168) #[] #[Aac x]] 105,.box x [v2] 170] ad:=b.Bn [4,4] Z;have cd:=AJ [4,4] b a9 Z
      have bw:AW w [.box b6 [.func (.func 168) #[] #[Aac x]] 105,.box x [v2] 170,.row v2 4 1 (f).length g,.box b1 [m] 25,.box k [.string ⟨((a0.getD a.toNat Qq1).1).toArray⟩,No ((a0.getD a.toNat Qq1).2.1),e1049v2,No ((a0.getD a.toNat Qq1).2.2.2.1),.bool ((a0.getD a.toNat Qq1).2.2.2.2.1),No ((a0.getD a.toNat Qq1).2.2.2.2.2.1),No ((a0.getD a.toNat Qq1).2.2.2.2.2.2.1),No ((a0.getD a.toNat Qq1).2.2.2.2.2.2.2.1),No ((a0.getD a.toNat Qq1).2.2.2.2.2.2.2.2.1),No ((a0.getD a.toNat Qq1).2.2.2.2.2.2.2.2.2.1),e1049v10,e1049v11] 50] ad:=a9.Bn [4,4] Z;have ce:=AJ [4,4] a9 bw Z;refine Av h fun b8 dc h=>?_;have c:=c.trans (Ac (cd.trans ce))
      refine BU Z Z (F2 hH ([.box k [.string ⟨((a0.getD a.toNat Qq1).1).toArray⟩,No ((a0.getD a.toNat Qq1).2.1),e1049v2,No ((a0.getD a.toNat Qq1).2.2.2.1),.bool ((a0.getD a.toNat Qq1).2.2.2.2.1),No ((a0.getD a.toNat Qq1).2.2.2.2.2.1),No ((a0.getD a.toNat Qq1).2.2.2.2.2.2.1),No ((a0.getD a.toNat Qq1).2.2.2.2.2.2.2.1),No ((a0.getD a.toNat Qq1).2.2.2.2.2.2.2.2.1),No ((a0.getD a.toNat Qq1).2.2.2.2.2.2.2.2.2.1),e1049v10,e1049v11] 50]) (a0.getD a.toNat Qq1) f a0 bw (e1049h2.mono  Ai) (e1049h10.mono  Ai) (e1049h11.mono  Ai) (e.mono c) (am.mono  Ai) dc) ?_;rintro _ fd ⟨rfl,aj,cf⟩;have c:=c.trans (Ac cf);refine AB ⟨c.trans (Ao aj),aj.at (i:=4) Z⟩ fun kI1101=>Aw 10 d kI1101 Z (fun _ _=>Am q Z) Z<|CK 11 Z<|A3 h fun ba h=>Ck 2 Z Aao Fv.e aj Z a.toNat (CT ba) (AD ba) fun fe dd=>AB ⟨c.trans (Ao aj),aj.at (i:=4) Z⟩ fun kI1104=>CK 12 Z ?_
      refine CO 2 a.toNat b8 Z hH aj Z (e.mono c) dd (AD ba) Z fun ff de df em bb=>En<|Cq<|A9<|A2<|Az<|A3 h fun dg h=>Ag (AA dg)<|Ar 1 Z<|AP ?_;have dh:=df.AR (i:=4) Z;have h:=BW.again h y;have bb:=bb.mono (Ac (Ah (i:=4) Z));refine AN (_,_,_,_) ⟨dh,bb,h⟩
     have e:=e.mono (Ac (av.trans (aw.trans ax)));refine Bf (b.KA hH (i:=3) Z (e.mono c)) a.toNat (CT af) (AD af) ?_;rintro fg _ rfl bx;refine AB ⟨c.trans (Ao b),b.at (i:=0) Z⟩ fun kI1109=>Q3 0 5 Z Z ?_ ?_
     ·refine Ag (Ae 2 Z b Z)<|AB ⟨c.trans (Ao b),b.at (i:=0) Z⟩ fun kI1110=>CK 5 Z<|Ag (AX bx (Le.refl _))<|AB ⟨c.trans (Ao b),b.at (i:=0) Z⟩ fun kI1111=>Aw 6 d kI1111 Z (fun _ _=>Ad Z) Z<|Nk 33 Z (fun u=>?_) (fun u=>?_)
      ·have h:=LD u h;refine JK 7 d kI1111 Z Z Z Z u Z<|JK 8 d kI1111 Z Z Z Z u Z<|JK 9 d kI1111 Z Z Z Z u Z<|Aw 10 d kI1111 Z (fun _ _=>Ak u Z) Z<|CK 11 Z<|A3 h fun bc h=>Ck 3 Z Aao Fv.e b Z a.toNat (CT bc) (AD bc) fun fh di=>AB ⟨c.trans (Ao b),b.at (i:=0) Z⟩ fun kI1116=>CK 12 Z<|CO 3 a.toNat true Z hH b Z (e.mono c) di (AD bc) Z fun fi dj dk en bd=>En<|Cq<|A9<|A2<|Az<|A3 h fun dl h=>Ag (AA dl)<|Ar 1 Z<|AP ?_;have dm:=dk.AR (i:=0) Z;have h:=BW.again h y;have bd:=bd.mono (Ac (Ah (i:=0) Z));refine AN (_,_,_,_) ⟨dm,bd,h⟩
      have h:=LF u h;refine ES 7 d kI1111 Z Z Z Z u (fun _ _=>Ad Z) Z<|ES 8 d kI1111 Z Z Z Z u (fun _ hI=>Ku hI.2) Z<|CK 9 Z<|Aa u ?_;have be:AW w [.row v2 4 1 (f).length g,.box b1 [m] 25,.box k [.string ⟨((a0.getD a.toNat Qq1).1).toArray⟩,No ((a0.getD a.toNat Qq1).2.1),e1049v2,No ((a0.getD a.toNat Qq1).2.2.2.1),.bool ((a0.getD a.toNat Qq1).2.2.2.2.1),No ((a0.getD a.toNat Qq1).2.2.2.2.2.1),No ((a0.getD a.toNat Qq1).2.2.2.2.2.2.1),No ((a0.getD a.toNat Qq1).2.2.2.2.2.2.2.1),No ((a0.getD a.toNat Qq1).2.2.2.2.2.2.2.2.1),No ((a0.getD a.toNat Qq1).2.2.2.2.2.2.2.2.2.1),e1049v10,e1049v11] 50,.box b6 [.func (.func 168) #[] #[Aac x]] 105,.box x [v2] 170] ad:=b.Bn [4,4] Z;have cg:=AJ [4,4] b be Z
      have bz:AW w [.box b6 [.func (.func 168) #[] #[Aac x]] 105,.box x [v2] 170,.row v2 4 1 (f).length g,.box b1 [m] 25,.box k [.string ⟨((a0.getD a.toNat Qq1).1).toArray⟩,No ((a0.getD a.toNat Qq1).2.1),e1049v2,No ((a0.getD a.toNat Qq1).2.2.2.1),.bool ((a0.getD a.toNat Qq1).2.2.2.2.1),No ((a0.getD a.toNat Qq1).2.2.2.2.2.1),No ((a0.getD a.toNat Qq1).2.2.2.2.2.2.1),No ((a0.getD a.toNat Qq1).2.2.2.2.2.2.2.1),No ((a0.getD a.toNat Qq1).2.2.2.2.2.2.2.2.1),No ((a0.getD a.toNat Qq1).2.2.2.2.2.2.2.2.2.1),e1049v10,e1049v11] 50] ad:=be.Bn [4,4] Z;have ch:=AJ [4,4] be bz Z;refine Av h fun b9 dn h=>?_;have c:=c.trans (Ac (cg.trans ch))
      refine BU Z Z (F2 hH ([.box k [.string ⟨((a0.getD a.toNat Qq1).1).toArray⟩,No ((a0.getD a.toNat Qq1).2.1),e1049v2,No ((a0.getD a.toNat Qq1).2.2.2.1),.bool ((a0.getD a.toNat Qq1).2.2.2.2.1),No ((a0.getD a.toNat Qq1).2.2.2.2.2.1),No ((a0.getD a.toNat Qq1).2.2.2.2.2.2.1),No ((a0.getD a.toNat Qq1).2.2.2.2.2.2.2.1),No ((a0.getD a.toNat Qq1).2.2.2.2.2.2.2.2.1),No ((a0.getD a.toNat Qq1).2.2.2.2.2.2.2.2.2.1),e1049v10,e1049v11] 50]) (a0.getD a.toNat Qq1) f a0 bz (e1049h2.mono  Ai) (e1049h10.mono  Ai) (e1049h11.mono  Ai) (e.mono c) (am.mono  Ai) dn) ?_;rintro _ fj ⟨rfl,ak,ci⟩;have c:=c.trans (Ac ci);refine AB ⟨c.trans (Ao ak),ak.at (i:=4) Z⟩ fun kI1125=>Aw 10 d kI1125 Z (fun _ _=>Am u Z) Z<|CK 11 Z<|A3 h fun bf h=>Ck 2 Z Aao Fv.e ak Z a.toNat (CT bf) (AD bf) fun fk dp=>AB ⟨c.trans (Ao ak),ak.at (i:=4) Z⟩ fun kI1128=>CK 12 Z ?_
      refine CO 2 a.toNat b9 Z hH ak Z (e.mono c) dp (AD bf) Z fun fl dq dr eo bg=>En<|Cq<|A9<|A2<|Az<|A3 h fun ds h=>Ag (AA ds)<|Ar 1 Z<|AP ?_;have dt:=dr.AR (i:=4) Z;have h:=BW.again h y;have bg:=bg.mono (Ac (Ah (i:=4) Z));refine AN (_,_,_,_) ⟨dt,bg,h⟩
     refine Ag (AX bx (Le.refl _))<|AB ⟨c.trans (Ao b),b.at (i:=0) Z⟩ fun kI1132=>Aw 6 d kI1132 Z (fun _ _=>Ad Z) Z<|Nk 33 Z (fun l=>?_) (fun l=>?_)
     ·have h:=LD l h;refine JK 7 d kI1132 Z Z Z Z l Z<|JK 8 d kI1132 Z Z Z Z l Z<|JK 9 d kI1132 Z Z Z Z l Z<|Aw 10 d kI1132 Z (fun _ _=>Ak l Z) Z<|CK 0 Z<|Ag (Ae 2 Z b Z)<|AB ⟨c.trans (Ao b),b.at (i:=0) Z⟩ fun kI1135=>CK 11 Z<|A3 h fun bh h=>Ck 3 Z Aao Fv.e b Z a.toNat (CT bh) (AD bh) fun fm du=>AB ⟨c.trans (Ao b),b.at (i:=0) Z⟩ fun kI1138=>CK 12 Z<|CO 3 a.toNat true Z hH b Z (e.mono c) du (AD bh) Z fun fn dv dw ep bi=>En<|Cq<|A9<|A2<|Az<|A3 h fun dx h=>Ag (AA dx)<|Ar 1 Z<|AP ?_;have dy:=dw.AR (i:=0) Z;have h:=BW.again h y;have bi:=bi.mono (Ac (Ah (i:=0) Z))
      refine AN (_,_,_,_) ⟨dy,bi,h⟩
     have h:=LF l h;refine ES 7 d kI1132 Z Z Z Z l (fun _ _=>Ad Z) Z<|ES 8 d kI1132 Z Z Z Z l (fun _ hI=>Ku hI.2) Z<|Q3 0 9 Z Z ?_ ?_
     ·refine Ag (Ae 2 Z b Z)<|AB ⟨c.trans (Ao b),b.at (i:=0) Z⟩ fun kI1143=>CK 9 Z<|Aa l ?_;have bj:AW w [.row v2 4 1 (f).length g,.box b1 [m] 25,.box k [.string ⟨((a0.getD a.toNat Qq1).1).toArray⟩,No ((a0.getD a.toNat Qq1).2.1),e1049v2,No ((a0.getD a.toNat Qq1).2.2.2.1),.bool ((a0.getD a.toNat Qq1).2.2.2.2.1),No ((a0.getD a.toNat Qq1).2.2.2.2.2.1),No ((a0.getD a.toNat Qq1).2.2.2.2.2.2.1),No ((a0.getD a.toNat Qq1).2.2.2.2.2.2.2.1),No ((a0.getD a.toNat Qq1).2.2.2.2.2.2.2.2.1),No ((a0.getD a.toNat Qq1).2.2.2.2.2.2.2.2.2.1),e1049v10,e1049v11] 50,.box b6 [.func (.func 168) #[] #[Aac x]] 105,.box x [v2] 170] ad:=b.Bn [4,4] Z;have cj:=AJ [4,4] b bj Z
      have b0:AW w [.box b6 [.func (.func 168) #[] #[Aac x]] 105,.box x [v2] 170,.row v2 4 1 (f).length g,.box b1 [m] 25,.box k [.string ⟨((a0.getD a.toNat Qq1).1).toArray⟩,No ((a0.getD a.toNat Qq1).2.1),e1049v2,No ((a0.getD a.toNat Qq1).2.2.2.1),.bool ((a0.getD a.toNat Qq1).2.2.2.2.1),No ((a0.getD a.toNat Qq1).2.2.2.2.2.1),No ((a0.getD a.toNat Qq1).2.2.2.2.2.2.1),No ((a0.getD a.toNat Qq1).2.2.2.2.2.2.2.1),No ((a0.getD a.toNat Qq1).2.2.2.2.2.2.2.2.1),No ((a0.getD a.toNat Qq1).2.2.2.2.2.2.2.2.2.1),e1049v10,e1049v11] 50] ad:=bj.Bn [4,4] Z;have ck:=AJ [4,4] bj b0 Z;refine Av h fun ar bk h=>?_;have c:=c.trans (Ac (cj.trans ck))
      refine BU Z Z (F2 hH ([.box k [.string ⟨((a0.getD a.toNat Qq1).1).toArray⟩,No ((a0.getD a.toNat Qq1).2.1),e1049v2,No ((a0.getD a.toNat Qq1).2.2.2.1),.bool ((a0.getD a.toNat Qq1).2.2.2.2.1),No ((a0.getD a.toNat Qq1).2.2.2.2.2.1),No ((a0.getD a.toNat Qq1).2.2.2.2.2.2.1),No ((a0.getD a.toNat Qq1).2.2.2.2.2.2.2.1),No ((a0.getD a.toNat Qq1).2.2.2.2.2.2.2.2.1),No ((a0.getD a.toNat Qq1).2.2.2.2.2.2.2.2.2.1),e1049v10,e1049v11] 50]) (a0.getD a.toNat Qq1) f a0 b0 (e1049h2.mono  Ai) (e1049h10.mono  Ai) (e1049h11.mono  Ai) (e.mono c) (am.mono  Ai) bk) ?_;rintro _ fo ⟨rfl,al,cl⟩;have c:=c.trans (Ac cl);refine AB ⟨c.trans (Ao al),al.at (i:=4) Z⟩ fun kI1148=>Aw 10 d kI1148 Z (fun _ _=>Am l Z) Z<|CK 11 Z<|A3 h fun ag h=>Ck 2 Z Aao Fv.e al Z a.toNat (CT ag) (AD ag) fun fp dz=>AB ⟨c.trans (Ao al),al.at (i:=4) Z⟩ fun kI1151=>CK 12 Z ?_
      refine CO 2 a.toNat ar Z hH al Z (e.mono c) dz (AD ag) Z fun fq d0 d1 eq bl=>En<|Cq<|A9<|A2<|Az<|A3 h fun bm h=>Ag (AA bm)<|Ar 1 Z<|AP ?_;have d2:=d1.AR (i:=4) Z;have h:=BW.again h y;have bl:=bl.mono (Ac (Ah (i:=4) Z));refine AN (_,_,_,_) ⟨d2,bl,h⟩
     refine Av h fun ar bk h=>A3 h fun ag h=>A3 h fun bm h=>Aa l ?_;have bn:AW w [.row v2 4 1 (f).length g,.box b1 [m] 25,.box k [.string ⟨((a0.getD a.toNat Qq1).1).toArray⟩,No ((a0.getD a.toNat Qq1).2.1),e1049v2,No ((a0.getD a.toNat Qq1).2.2.2.1),.bool ((a0.getD a.toNat Qq1).2.2.2.2.1),No ((a0.getD a.toNat Qq1).2.2.2.2.2.1),No ((a0.getD a.toNat Qq1).2.2.2.2.2.2.1),No ((a0.getD a.toNat Qq1).2.2.2.2.2.2.2.1),No ((a0.getD a.toNat Qq1).2.2.2.2.2.2.2.2.1),No ((a0.getD a.toNat Qq1).2.2.2.2.2.2.2.2.2.1),e1049v10,e1049v11] 50,.box b6 [.func (.func 168) #[] #[Aac x]] 105,.box x [v2] 170] ad:=b.Bn [4,4] Z;have cm:=AJ [4,4] b bn Z
     have b2:AW w [.box b6 [.func (.func 168) #[] #[Aac x]] 105,.box x [v2] 170,.row v2 4 1 (f).length g,.box b1 [m] 25,.box k [.string ⟨((a0.getD a.toNat Qq1).1).toArray⟩,No ((a0.getD a.toNat Qq1).2.1),e1049v2,No ((a0.getD a.toNat Qq1).2.2.2.1),.bool ((a0.getD a.toNat Qq1).2.2.2.2.1),No ((a0.getD a.toNat Qq1).2.2.2.2.2.1),No ((a0.getD a.toNat Qq1).2.2.2.2.2.2.1),No ((a0.getD a.toNat Qq1).2.2.2.2.2.2.2.1),No ((a0.getD a.toNat Qq1).2.2.2.2.2.2.2.2.1),No ((a0.getD a.toNat Qq1).2.2.2.2.2.2.2.2.2.1),e1049v10,e1049v11] 50] ad:=bn.Bn [4,4] Z;have cn:=AJ [4,4] bn b2 Z;have c:=c.trans (Ac (cm.trans cn))
     refine BU Z Z (F2 hH ([.box k [.string ⟨((a0.getD a.toNat Qq1).1).toArray⟩,No ((a0.getD a.toNat Qq1).2.1),e1049v2,No ((a0.getD a.toNat Qq1).2.2.2.1),.bool ((a0.getD a.toNat Qq1).2.2.2.2.1),No ((a0.getD a.toNat Qq1).2.2.2.2.2.1),No ((a0.getD a.toNat Qq1).2.2.2.2.2.2.1),No ((a0.getD a.toNat Qq1).2.2.2.2.2.2.2.1),No ((a0.getD a.toNat Qq1).2.2.2.2.2.2.2.2.1),No ((a0.getD a.toNat Qq1).2.2.2.2.2.2.2.2.2.1),e1049v10,e1049v11] 50]) (a0.getD a.toNat Qq1) f a0 b2 (e1049h2.mono  Ai) (e1049h10.mono  Ai) (e1049h11.mono  Ai) (e.mono c) (am.mono  Ai) bk) ?_;rintro _ fr ⟨rfl,ac,co⟩;have c:=c.trans (Ac co);refine AB ⟨c.trans (Ao ac),ac.at (i:=4) Z⟩ fun kI1158=>Aw 10 d kI1158 Z (fun _ _=>Am l Z) Z<|CK 0 Z<|Ag (Ae 1 Z ac Z)<|AB ⟨c.trans (Ao ac),ac.at (i:=4) Z⟩ fun kI1159=>CK 11 Z<|Ck 2 Z Aao Fv.e ac Z a.toNat (CT ag) (AD ag) ?_;intro fs d3
     refine AB ⟨c.trans (Ao ac),ac.at (i:=4) Z⟩ fun kI1161=>CK 12 Z<|CO 2 a.toNat ar Z hH ac Z (e.mono c) d3 (AD ag) Z fun ft d4 d5 er bo=>En<|Cq<|A9<|A2<|Az<|Ag (AA bm)<|Ar 1 Z<|AP ?_;have d6:=d5.AR (i:=4) Z;have h:=BW.again h y;have bo:=bo.mono (Ac (Ah (i:=4) Z));refine AN (_,_,_,_) ⟨d6,bo,h⟩
    refine Bq<|AK<|AF ?_;have h:=BW.out h y;refine Bj<|A9<|AH (_,_) ⟨az,e,h⟩
   rintro⟨au,ap⟩ fu ⟨eb,d7,h⟩;refine Az<|A3 h fun d8 h=>Ag (AA d8)<|Ar 1 Z<|AP ?_;have h:=BW.again h b5;refine AN (_,_,_,_) ⟨eb,d7,h⟩
  refine Bq<|AK<|AF ?_;have h:=BW.out h b5;refine Bj<|AH (_,_) ⟨bp,br,h⟩
 rintro⟨ay,aq⟩ fv ⟨bq,d9,h⟩;refine Aq<|Ag (Ae 1 Z bq Z)<|A1 1 Z<|Au ?_
 cases h
 refine Aj Z ⟨bq.ext,_,Z,(bq.Hn hH (i:=2) Z d9)⟩
end
end Go.Proofs.YtnmkjjgmnbmmnaaGreatDoor
end
noncomputable section
namespace Go.Proofs.YtnmkjjgmnbmmnaaGreatDoor
open Go Go.E Go.RowKit Go.Shelf
theorem Tb(w:World)(k:Nat)(os:Array Obj):Below w.heap.size w (Go.Sort.grow (w.drewN k) os):=
 ⟨Z,Z,Z,by simp[Go.Sort.grow,World.drewN],fun j hj=>by
  simp only[Go.Sort.grow,World.drewN];rw[Array.getElem?_append_left hj]⟩
theorem QW(G:PH):∀l:Qq7,A5 Rp.st G l (l.map Go.Proofs.encStr)
 | []=>.nil
 | _::l=>.cons (c:=[_]) Z (QW G l)
noncomputable def Qi(n:Int):Option Qq3:=Go.L.Bb (-9223372036854775808<=n/\n<=9223372036854775807) (some (Lib.itoa n))
section
variable(w:World)(H:PH)(hH:Le H (hp w)) include hH
theorem O2(hU:Jm H){a0:Int}{r:Qq3}(h:Qi a0=some r):Ok Tryz.prog 86 [.int .i64 a0] w (fun v w'=>Ext w w'/\v=.string ⟨r.toArray⟩):=by
 obtain⟨hk,h⟩:=Go.L.HP h;obtain rfl:=Option.some.inj h;refine⟨⟨Tryz.f86,_,Tryz.func86,Z,Z⟩,(Any.strconv_Itoa Tryz.VV a0 hk.1 hk.2 w (hU.1 w hH)).mono fun e w' he=>?_⟩;obtain⟨rfl,k,os,rfl⟩:=he;exact⟨_,Z,Ext.off (Tb _ _ _),Z⟩
end
noncomputable def Vh(l:Qq3):Option (Int×Bool):=Go.L.Bb (l.length<=281474976710656) (some (match Lib.atoiAll l with
 | .ok v=>(v,true)
 | .range=>(Lib.atoiSat l,false)
 | _=>(0,false)))
section
variable(w:World)(H:PH)(hH:Le H (hp w)) include hH
theorem WD(hU:Jm H){a0:Qq3}{r:Int×Bool}(h:Vh a0=some r):Ok Tryz.prog 85 [.string ⟨a0.toArray⟩] w (fun v w'=>Ext w w'/\∃e,v=.tuple #[.int .i64 r.1,e]/\(r.2=true->e=.nilIface)/\(r.2=false->∃t p,e=.iface t p)):=by
 obtain⟨hk,h⟩:=Go.L.HP h;obtain rfl:=Option.some.inj h;have hs:(ByteArray.mk a0.toArray).size=a0.length:=by simp[Qxk]
 obtain⟨_,⟨ts,vs,h3⟩,⟨tr,vr,a⟩,_⟩:=hU;have b:=cell_of hH h3;have c:=cell_of hH a;refine⟨⟨Tryz.f85,_,Tryz.func85,Z,Z⟩,?_⟩
 cases hq:Lib.atoiAll a0 with
 | ok v=>
  refine(Any.strconv_Atoi_ok (P:=Tryz.prog) Tryz.Ri ⟨a0.toArray⟩ (by rw[hs];omega) v (by simpa using hq) w).mono fun e w' he=>?_;obtain⟨rfl,hw⟩:=he;refine⟨_,Z,?_,_,Z,fun _=>Z,fun h=>by cases h⟩
  rcases hw with rfl | ⟨t,rfl⟩
  ·exact Ext.refl _
  ·exact Ext.off (Lib.bytesWorld_below _ _ _)
 | range=>
  refine(Any.strconv_Atoi_range (P:=Tryz.prog) Tryz.Ri ⟨a0.toArray⟩ (by rw[hs];exact hk) (by simpa using hq) _ w c (.inr ⟨_,_,Z⟩)).mono fun e w' he=>?_;obtain⟨n,rfl,_,_,hb⟩:=he;exact⟨_,Z,Ext.off hb,_,Z,fun h=>(by cases h),fun _=>⟨_,_,Z⟩⟩
 | _=>
  refine(Any.strconv_Atoi_syntax (P:=Tryz.prog) Tryz.Ri ⟨a0.toArray⟩ (by rw[hs];exact hk) (by simpa using hq) _ w b (.inr ⟨_,_,Z⟩)).mono fun e w' he=>?_;obtain⟨n,rfl,_,_,hb⟩:=he;exact⟨_,Z,Ext.off hb,_,Z,fun h=>(by cases h),fun _=>⟨_,_,Z⟩⟩
end
noncomputable def P6(a:Qq3):Option Qq7:=Go.L.Bb (a.length<4294967281/\(Lib.fields a).length<=140737488355328/\∀b∈a,b.toNat<128) (some (Lib.fields a))
section
variable(w:World)(H:PH)(hH:Le H (hp w)) include hH
theorem OP(hU:Jm H){a0:Qq3}{r:Qq7}(h:P6 a0=some r):
  Ok Tryz.prog 34 [.string ⟨a0.toArray⟩] w (fun v w'=>Ext w w'/\∃a,v=a/\Cv 9 .st H w w' a r):=by
 obtain⟨⟨h1,h2,h3⟩,h⟩:=Go.L.HP h;obtain rfl:=Option.some.inj h;have hsz:(ByteArray.mk a0.toArray).size=a0.length:=by simp[Qxk]
 refine⟨⟨Tryz.f34,_,Tryz.func34,Z,Z⟩,(Any.strings_Fields (P:=Tryz.prog) Tryz.TR V V ⟨a0.toArray⟩ w (by rw[hsz];exact h1) (fun j b hj=>h3 b (by
  have:=List.mem_of_getElem? hj
  simpa using this)) (hU.2.2.2 w hH)).mono fun e w' he=>?_⟩
 obtain⟨rfl,rfl⟩:=he;refine⟨_,Z,Ej w _,_,Z,(Lib.fields a0).map Go.Proofs.encStr,?_,QW _ _⟩
 exact⟨by rw[Qzf];exact(Qzy _).symm,.inr ⟨w.heap.size,(Lib.fields a0).length,_,Z,Qzx _,World.alloc_heap_new w _,Qzx _,by unfold maxLen;omega,by simp;exact(Qzy _).symm,by
  show List.take ((Lib.fields a0).length * 1) ((Lib.fields a0).map Go.Proofs.encStr)=_
  exact Qz3 (by rw[Qzf,Qzy];exact Qzx _)⟩⟩
end
noncomputable def R1(a:Qq3)(c:UInt8):Option Int:=some (Lib.indexByte a c)
section
variable(w:World)(H:PH)(hH:Le H (hp w)) include hH
theorem Uh{a0:Qq3}{a1:UInt8}{r:Int}(h:R1 a0 a1=some r):
  Ok Tryz.prog 111 [.string ⟨a0.toArray⟩,.int .u8 (a1.toNat:Int)] w (fun v w'=>Ext w w'/\v=.int .i64 r):=by
 obtain rfl:=Option.some.inj h;refine⟨⟨Tryz.f111,_,Tryz.func111,Z,Z⟩,(Any.stringslite_IndexByte (P:=Tryz.prog) (ρ:=Tryz.QG) {Tryz.Xm with} ⟨a0.toArray⟩ (a1.toNat:Int) w).mono fun e w' he=>?_⟩;obtain⟨rfl,rfl⟩:=he;refine⟨_,Z,Ext.refl _,?_⟩;have e:((a1.toNat:Int).toNat).toUInt8=a1:=by simp
 rw[e]
end
noncomputable def OQ(s sep:Qq3)(sv n:Int):Option Qq7:=Go.L.Bb (s.length<4294967281/\sep.length=1/\sv=0/\n = -1) (some (Lib.split s sep))
theorem Sq(G:PH):∀l:Qq7,A5 Rp.st G l (l.map Go.Proofs.encStr)
 | []=>.nil
 | _::l=>.cons (c:=[_]) Z (Sq G l)
section
variable(w:World)(H:PH)(hH:Le H (hp w)) include hH
theorem Sr{a0 a1:Qq3}{a2 a3:Int}{r:Qq7}(h:OQ a0 a1 a2 a3=some r):
  Ok Tryz.prog 77 [.string ⟨a0.toArray⟩,.string ⟨a1.toArray⟩,.int .i64 a2,.int .i64 a3] w (fun v w'=>Ext w w'/\∃u0,v=u0/\Cv 9 .st H w w' u0 r):=by
 obtain⟨hk,h⟩:=Go.L.HP h;obtain rfl:=Option.some.inj h;obtain⟨h1,h2,rfl,rfl⟩:=hk;obtain⟨sb,rfl⟩:=List.length_eq_one_iff.1 h2;have hsz:(ByteArray.mk a0.toArray).size=a0.length:=by simp[Qxk]
 obtain⟨N,hN⟩:∃N,N=Lib.countB ⟨a0.toArray⟩ ⟨#[sb]⟩+1:=⟨_,Z⟩;have hle:Lib.countB ⟨a0.toArray⟩ ⟨#[sb]⟩<=(ByteArray.mk a0.toArray).size:=Lib.countB_le ⟨#[sb]⟩ (Qzx 1) _ _ (Qzx _)
 have c:=Any.strings_genSplit_core (P:=Tryz.prog) (ρ:=Tryz.KV) {Tryz.PB with} V ⟨a0.toArray⟩ ⟨#[sb]⟩ 0 (-1) N w (by rw[hsz];exact h1) (Qzx 1) (Nat.zero_le _)
  (fun x cc hx=>(Any.strings_Index_one (P:=Tryz.prog) (ρ:=Tryz.KV) {Tryz.PB with} x sb _).mono fun e w' ⟨he,hw⟩=>⟨by rw[he];exact congrArg (fun z=>Ending.returned (Value.int .i64 z)) (Lib.index_one x.data.toList sb).symm,hw⟩)
  ((Any.strings_Count_one (P:=Tryz.prog) (ρ:=Tryz.KV) {Tryz.PB with} ⟨a0.toArray⟩ sb w).mono fun e w' ⟨he,hw⟩=>⟨by rw[he];exact congrArg (fun z:Nat=>Ending.returned (Value.int .i64 (z:Int))) (Lib.count_one sb _).symm,hw⟩)
  Qqb Qqb (by rw[if_pos Qqb,hN];omega)
 refine⟨⟨Tryz.f77,_,Tryz.func77,Z,Z⟩,c.mono fun e w' he=>?_⟩;obtain⟨rfl,rfl⟩:=he
 have hl:(Lib.splitB ⟨#[sb]⟩ 0 (N - 1) ⟨a0.toArray⟩).length=N:=by
  have:=Lib.splitB_all ⟨#[sb]⟩ (Qzx 1) 0 (N - 1) ⟨a0.toArray⟩ U;omega
 have hd:=Lib.splitB_data ⟨#[sb]⟩ 0 (N - 1) ⟨a0.toArray⟩
 have hpc:(Lib.splitB ⟨#[sb]⟩ 0 (N - 1) ⟨a0.toArray⟩).map (fun b=>b.data.toList)=Lib.split a0 [sb]:=by
  rw[hd];unfold Lib.split;rw[hN]
  rfl
 have hpl:(Lib.split a0 [sb]).length=N:=by rw[<- hpc,Qzf,hl]
 have hmp:(Lib.splitB ⟨#[sb]⟩ 0 (N - 1) ⟨a0.toArray⟩).map Value.string=(Lib.split a0 [sb]).map Go.Proofs.encStr:=by
  rw[<- hpc,List.map_map];apply List.map_congr_left;intro b _
  show Value.string b=Value.string ⟨b.data.toList.toArray⟩
  rw[Array.toArray_toList]
 refine⟨_,Z,Ej w _,_,Z,(Lib.split a0 [sb]).map Go.Proofs.encStr,?_,Sq _ _⟩;refine⟨by rw[Qzf];exact(Qzy _).symm,.inr ⟨w.heap.size,N,_,?_,Qzx _,World.alloc_heap_new w _,?_,?_,?_,?_⟩⟩
 ·rw[hl,hpl]
 ·omega
 ·unfold maxLen;omega
 ·rw[Lib.cellsOf_size U];exact(Qzy _).symm
 ·have e1:Lib.cellsOf (Lib.splitB ⟨#[sb]⟩ 0 (N - 1) ⟨a0.toArray⟩) N=((Lib.splitB ⟨#[sb]⟩ 0 (N - 1) ⟨a0.toArray⟩).map Value.string).toArray:=by
   have:=Lib.cellsOf_full (Lib.splitB ⟨#[sb]⟩ 0 (N - 1) ⟨a0.toArray⟩)
   rwa [hl]at this
  rw[e1,hmp];exact Qz3 (by rw[Qzf];exact Nat.le_of_eq (Qzy _).symm)
end
noncomputable def Pj(a:Qq3)(c:UInt8):Option Int:=some (Lib.indexByte a c)
section
variable(w:World)(H:PH)(hH:Le H (hp w)) include hH
theorem P7{a0:Qq3}{a1:UInt8}{r:Int}(h:Pj a0 a1=some r):
  Ok Tryz.prog 83 [.string ⟨a0.toArray⟩,.int .u8 (a1.toNat:Int)] w (fun v w'=>Ext w w'/\v=.int .i64 r):=by
 obtain rfl:=Option.some.inj h;refine⟨⟨Tryz.f83,_,Tryz.func83,Z,Z⟩,(Any.strings_IndexByte Tryz.Xm ⟨a0.toArray⟩ (a1.toNat:Int) w).mono fun e w' he=>?_⟩;obtain⟨rfl,rfl⟩:=he;refine⟨_,Z,Ext.refl _,?_⟩;have e:((a1.toNat:Int).toNat).toUInt8=a1:=by simp
 rw[e]
end
noncomputable def Vi(a:Qq7)(sep:Qq3):Option Qq3:=Go.L.Bb (a.length<=140737488355328/\(Lib.join a sep).length<=140737488355328) (some (Lib.join a sep))
section
variable(w:World)(H:PH)(hH:Le H (hp w)) include hH
theorem WE{a0:Qq7}{a1:Qq3}{v:Value}(hv:AL .st H v a0){r:Qq3}(h:Vi a0 a1=some r):
  Ok Tryz.prog 131 [v,.string ⟨a1.toArray⟩] w (fun v w'=>Ext w w'/\v=.string ⟨r.toArray⟩):=by
 obtain⟨⟨h1,h2⟩,h⟩:=Go.L.HP h;obtain rfl:=Option.some.inj h
 have X:Builder.Extra Tryz.prog Tryz.Pd:={
  liesBuilder:=by kernel_rfl
  sizeBuilder:=by kernel_rfl
  t5:=by kernel_rfl
  a5:=fun w=>by kernel_rfl
  z5:=fun w=>by kernel_rfl
  v5:=fun w=>by kernel_rfl
  infoByte:=by kernel_rfl
  cellsByte:=by kernel_rfl
  sizeByte:=by kernel_rfl
  neB5:=by decide}
 obtain⟨a,cap,rfl,k2,k3,k4,k5⟩:=hv.ex
 have key:∀(P:Prop),((a0=[]->P)/\(∀A,a=some A->a0≠[]->P))->P:=fun P hP=>by
  by_cases ha:a0=[]
  ·exact hP.1 ha
  ·cases a with
   | none=>exact absurd (List.eq_nil_of_length_eq_zero (by have:=k4 Z;omega)) ha
   | some A=>exact hP.2 A Z ha
 refine key _ ⟨fun he=>?_,fun A hA hne=>?_⟩
 ·subst he;refine⟨⟨Tryz.f131,_,Tryz.func131,Z,Z⟩,(Any.strings_Join_none Tryz.Tl X a cap ⟨a1.toArray⟩ w).mono fun e w' hh=>?_⟩;obtain⟨rfl,rfl⟩:=hh;exact⟨_,Z,Ext.refl _,Z⟩
 ·subst hA;obtain⟨k6,k7⟩:=k5 A Z hne;obtain⟨b,o,sp⟩:=A;simp only at k6;subst k6
  have hcell:∀(j:Nat) x,(a0.map fun l=>(⟨l.toArray⟩:ByteArray))[j]? = some x->w.cell? ⟨b,o+j,none⟩=some (.string x):=fun j x hx=>by
   rw[List.getElem?_map]at hx
   cases hj:a0[j]? with
   | none=>rw[hj]at hx;cases hx
   | some l=>
    rw[hj]at hx;obtain rfl:=Option.some.inj hx;obtain⟨c,hc,hcell⟩:=k7 j l hj;obtain rfl:c=[.string ⟨l.toArray⟩]:=hc;have:=cell_of hH (hcell 0 _ Z)
    rwa [show(Rp.st).sz=1 from Z,Qzy,Nat.add_zero,Addr.add_lit]at this
  have hpos:0<a0.length:=List.length_pos_iff.2 hne
  have hb:b<w.heap.size:=by
   have h0:=hcell 0 ⟨(a0[0]'hpos).toArray⟩ (by simp[hpos]);exact World.block_lt_of_cell? _ _ h0
  have e2:(a0.map fun l=>(⟨l.toArray⟩:ByteArray)).map (·.data.toList)=a0:=by rw[List.map_map];exact(List.map_congr_left (fun l _=>by simp)).trans (List.map_id _)
  have c:=Any.strings_Join Tryz.Tl X b o cap (a0.map fun l=>(⟨l.toArray⟩:ByteArray)) ⟨a1.toArray⟩ w hcell hb (by rw[Qzf];exact h1) (by rw[Qzf];omega) (by rw[e2];simpa using h2);rw[e2,Qzf]at c;refine⟨⟨Tryz.f131,_,Tryz.func131,Z,Z⟩,c.mono fun e w' hh=>?_⟩;obtain⟨rfl,hb'⟩:=hh;exact⟨_,Z,Ext.off hb',by simp⟩
end
end Go.Proofs.YtnmkjjgmnbmmnaaGreatDoor
end
noncomputable section
namespace Go.Proofs.YtnmkjjgmnbmmnaaGreatDoor
open Go Go.E Go.RowKit Go.L
set_option maxHeartbeats 1000000
set_option maxRecDepth 10000
open _root_.Go.Proofs.Tryz
def strings_Split(a0:Aae)(a1:Aae):Option ((List Aae)):=
 Qq8 (OQ a0 a1 (0:Int) (-1:Int)) (fun a=>some a)
section
variable(w:World)(H:PH)(hH:Le H (hp w)) include hH
theorem OR{a0 a1:Aae}{r:(List Aae)}(h:strings_Split a0 a1=some r):
  Qqv 31 [Aad a0,Aad a1] w (fun v w'=>∃d,v=d/\Cv 9 .st H w w' d r):=by
 refine AG 8 [(0,(Aad a0)),(1,(Aad a1))] func31 Z fun hL=>AI 1 Z<|B1 2 Z<|Av h fun l e h=>Bv hL (Sr _ _ (Ao hL) e) ?_;rintro j m ⟨_,rfl,b⟩ f a c;obtain⟨k,a,c,g⟩:=b.take hH hL f;refine A1 1 Z<|Au ?_
 cases h
 refine Aj Z ⟨a.ext,_,Z,(a.Hn hH (i:=0) Z g)⟩
def Dc(a0:Int):Option Bool:=
 if(0<=a0)/\(a0<55296)then some true else(if(57343<a0)/\(a0<=1114111)then some true else some false)
theorem LA{a0:Int}{r:Bool}(h:Dc a0=some r):
  Qqv 157 [.int .i32 a0] w (fun v w'=>v=.bool r):=by
 refine AG 17 [(0,.int .i32 a0)] func157 Z fun hL=>AI 1 Z<|AM<|A8<|B1 3 Z<|RN 2 2 Z Z Z Z Z Z<|A1 1 Z<|AS h ?_ ?_<;>intro a h
 ·refine AI 1 Z<|Au<|Ay<|AE ?_
  cases h
  refine Aj Z ⟨hL.ext,Z⟩
 refine B1 3 Z<|RN 2 2 Z Z Z Z Z Z<|A1 1 Z<|AS h ?_ ?_<;>intro b h
 ·refine AI 1 Z<|Au<|Ay<|AE ?_
  cases h
  refine Aj Z ⟨hL.ext,Z⟩
 refine A4<|A9<|A2<|AI 1 Z<|Au ?_
 cases h
 refine Aj Z ⟨hL.ext,Z⟩
def Kx:Option Int:=
 some ((-1))
def Ds(a0:Aae):Nat->Option ((Nat)⊕(Int)):=fun a=>
 if a<a0.length then(if((Q9 a0 a).1:Int)=65533 then Qzq Sum.inr (some ((a:Int)))else some (Sum.inl (a+(Q9 a0 a).2)))else Qzq Sum.inr Kx
def HR(a0:Aae)(s:Nat):Option Int:=Go.L.run (Ds a0) s
def Ky(a1 a:Int):Option ((Int)⊕(Int)):=
 Bb (BH (a - (((EC a1).length:Int) - 1))) (Qzq Sum.inr (some ((a - (((EC a1).length:Int) - 1)))))
def JL(a0:Aae)(a1 b:Int):Int->Option ((Int)⊕((Int)⊕(Int))):=fun a=>
 if a<((EC a1).length:Int)then Bb (BH (b - a)) (Bb (0<=(b - a)/\(b - a)<(a0.length:Int)) (Bb (BH ((((EC a1).length:Int) - 1) - a)) (Bb (0<=((((EC a1).length:Int) - 1) - a)/\((((EC a1).length:Int) - 1) - a)<((EC a1).length:Int)) (if((a0.getD (b - a).toNat Qq1).toNat:Int)=(((EC a1).getD ((((EC a1).length:Int) - 1) - a).toNat Qq1).toNat:Int)then Bb (BH (a+1)) (some (Sum.inl (a+1)))else none))))else Qzq Sum.inr ((Ky a1 b))
def Nt(a0:Aae)(a1 a s:Int):Option ((Int)⊕(Int)):=Go.L.run (JL a0 a1 a) s
def HS(a0:Aae)(a1 a:Int):Option ((Int)⊕(Int)):=
 (Nt a0 a1 a) (1:Int)
def Kz:Option Int:=
 some ((-1))
def H0(a0:Aae)(a1:Int):Int->Option ((Int)⊕(Int)):=fun a=>
 if a<(a0.length:Int)then Bb (0<=a/\a<(a0.length:Int)) (Bb (0<=(((EC a1).length:Int) - 1)/\(((EC a1).length:Int) - 1)<((EC a1).length:Int)) (if((a0.getD a.toNat Qq1).toNat:Int)=(((EC a1).getD (((EC a1).length:Int) - 1).toNat Qq1).toNat:Int)then(HS a0 a1) a else Bb (BH (a+1)) (Bb (0<=(a+1)/\(a+1)<=(a0.length:Int)) (Bb (0<=(((EC a1).length:Int) - 1)/\(((EC a1).length:Int) - 1)<((EC a1).length:Int)) (Qq8 (Pj (a0.drop (a+1).toNat) ((EC a1).getD (((EC a1).length:Int) - 1).toNat Qq1)) (fun b=>if b<0 then Qzq Sum.inr (some ((-1)))else Bb (BH (b+1)) (Bb (BH (a+(b+1))) ((HS a0 a1) (a+(b+1))))))))))else Qzq Sum.inr Kz
def Nu(a0:Aae)(a1 s:Int):Option Int:=Go.L.run (H0 a0 a1) s
def HE(a0:Aae)(a1:Int):Option Int:=
 if(0<=a1)/\(a1<128)then Qq8 (Pj a0 (Go.L.u8 a1)) (fun b=>some b)else(if a1=65533 then(HR a0) (0:Nat)else Qq8 (Dc a1) (fun a=>if !a then some ((-1))else Bb (BH (((EC a1).length:Int) - 1)) ((Nu a0 a1) (((EC a1).length:Int) - 1))))
theorem Nv{a0:Aae}{a1 r:Int}(h:HE a0 a1=some r):
  Qqv 120 [Aad a0,.int .i32 a1] w (fun v w'=>v=No r):=by
 refine AG 187 [(0,(Aad a0)),(1,.int .i32 a1)] func120 Z fun hL=>AI 1 Z<|A8<|B1 3 Z<|RN 2 2 Z Z Z Z Z Z<|A1 1 Z<|AS h ?_ ?_<;>intro bl h
 ·refine B1 2 Z<|Ag (EA (Gm _))<|Av h fun x3 bm h=>A6 hL (P7 _ _ (Ao hL) bm) fun w4 cb bn bz=>A1 1 Z<|Au<|Ay ?_
  cases h
  refine Aj Z ⟨bn.ext,Z⟩
 refine AI 3 Z<|AS h ?_ ?_<;>intro bo h
 ·refine Bm Unit (fun(_:Unit)=>[]) (fun(_:Unit) wr=>AW w [] wr/\Kx=some r) ?_ ?_
  ·refine B1 1 Z<|UW Z hL fun cc bc bd bp=>Al<|A8 ?_;obtain⟨x,h⟩:=Bc h;refine Bz (Nat×Nat) (fun⟨d,n⟩=>[(175,(Aac bc))]) (fun⟨d,n⟩ wr=>AW w [.obj bc (.stringIter ⟨(a0).toArray⟩ d)] wr/\FW (Ds a0) n d=some r) (fun⟨d,n⟩=>n) ((0:Nat),x) Z ⟨bd,h⟩ ?_;rintro⟨d,nn36⟩ b0 ⟨y,h⟩;obtain⟨x,cd,rfl,h,f⟩:=Ba h;refine Aq<|Ws (l:=a0) (p:=d) 0 Z y Z (fun g=>?_) (fun g=>?_)
   ·have h:=MQ g h;intro ce z bq;refine A1 1 Z<|AM<|Fy<|A4<|A2<|A8<|AI 4 Z<|AI 2 Z<|AS h ?_ ?_<;>intro be h
    ·refine AI 2 Z<|Au<|Ay<|BM ?_;have h:=BW.out h f;refine Ay<|Bp<|Ay ?_
     cases h
     refine Aj Z ⟨z.ext,Z⟩
    refine A4<|A9 ?_;have h:=BW.again h f;refine AN (_,_) ⟨z,h⟩
   have h:=MR g h;refine A1 1 Z<|AM<|Gw<|Bq<|AK<|AF ?_;have h:=BW.out h f;refine Bj ?_;have bf:=y.AR (i:=0) Z;refine AH () ⟨bf,h⟩
  rintro _ b1 ⟨bg,h⟩;refine AI 1 Z<|Au<|Ay ?_
  cases h
  refine Aj Z ⟨bg.ext,Z⟩
 refine B1 1 Z<|Av h fun cf bh h=>A6 hL (LA _ _ (Ao hL) bh) fun cg b2 aa br=>A1 2 Z<|Bi h ?_ ?_<;>intro bi h
 ·refine AI 1 Z<|Au<|Ay ?_
  cases h
  refine Aj Z ⟨aa.ext,Z⟩
 refine Ty<|B1 1 Z<|Ag (YZ Z)<|A1 1 Z<|B1 1 Z<|Ag (Lm Z)<|A3 h fun bj h=>Ag (AA bj)<|A1 1 Z<|AI 2 Z<|AI 1 Z<|Bm Unit (fun(_:Unit)=>[]) (fun(_:Unit) wr=>AW w [] wr/\Kz=some r) ?_ ?_
 ·refine A8 ?_;obtain⟨ab,h⟩:=Bc h;refine Bz (Int×Nat) (fun⟨c,n⟩=>[(0,(Aad a0)),(7,.string ⟨((EC a1)).toArray⟩),(8,No (((EC a1).length:Int) - 1)),(9,No c)]) (fun⟨c,n⟩ wr=>AW w [] wr/\FW (H0 a0 a1) n c=some r) (fun⟨c,n⟩=>n) ((((EC a1).length:Int) - 1),ab) Z ⟨aa,h⟩ ?_;rintro⟨c,nn253⟩ bs ⟨m,h⟩;obtain⟨ab,j,rfl,h,e⟩:=Ba h;refine AM<|B1 2 Z<|Ag (Lm Z)<|A1 1 Z<|AS h ?_ ?_<;>intro ac h
  ·refine A4<|A2<|A8<|Ty<|Bm Int (fun a=>[(0,(Aad a0)),(7,.string ⟨((EC a1)).toArray⟩),(8,No (((EC a1).length:Int) - 1)),(9,No a)]) (fun a wr=>AW w [] wr/\(HS a0 a1) a=some j) ?_ ?_
   ·refine CI (Qqz 0 7 (.tail 7)) mixed V (fun b3 ad=>?_);have ae:=m.call ad;refine BJ 2 Z<|A3 h fun af h=>B9 Z (LW af) Z<|BJ 2 Z<|A3 h fun ag h=>B9 Z (LW ag) Z<|BJ 1 Z<|B8 (fun b4 ah=>?_);have o:=ae.call ah;refine Al<|DP h ?_ ?_<;>intro ai h
    ·refine CI (Qqz 0 9 (.tail 9)) mixed V (fun b5 aj=>?_);have ak:=o.call aj;refine BJ 2 Z<|A3 h fun al h=>B9 Z (AA al) Z<|A3 h fun am h=>B9 Z (UU am) Z<|BJ 2 Z<|A3 h fun an h=>B9 Z (LW an) Z<|Av h fun bk ao h=>IA Z Z Z (fun b6 bt=>P7 _ _ (Le.refl _) ao)<|BJ 1 Z<|B8 (fun b7 ap=>?_);have s:=ak.call ap;refine Al<|AM<|AI 2 Z<|AS h ?_ ?_<;>intro aq h
     ·refine AI 1 Z<|Au<|AE<|Bp<|J4<|Ay<|BM ?_;have h:=BW.out h e;refine Ay<|Bp<|J4<|Ay ?_
      cases h
      refine Aj Z ⟨s.ext,Z⟩
     refine A4<|A2<|Az<|Ar 2 Z<|A3 h fun ar h=>Ag (AA ar)<|A3 h fun au h=>Ag (AA au)<|Ar 1 Z<|AP<|AH _ ⟨s,h⟩
    refine A4<|AH _ ⟨o,h⟩
   rintro a bu ⟨av,h⟩;refine Bm Unit (fun(_:Unit)=>[(8,No (((EC a1).length:Int) - 1)),(9,No a)]) (fun(_:Unit) wr=>AW w [] wr/\(Ky a1 a)=some j) ?_ ?_
   ·refine AI 1 Z<|A8 ?_;obtain⟨k,h⟩:=Bc h;refine Bz (Int×Nat) (fun⟨b,n⟩=>[(0,(Aad a0)),(7,.string ⟨((EC a1)).toArray⟩),(8,No (((EC a1).length:Int) - 1)),(9,No a),(12,No b)]) (fun⟨b,n⟩ wr=>AW w [] wr/\FW (JL a0 a1 a) n b=some j) (fun⟨b,n⟩=>n) (1,k) Z ⟨av,h⟩ ?_;rintro⟨b,nn363⟩ bv ⟨t,h⟩;obtain⟨k,b8,rfl,h,u⟩:=Ba h;refine AM<|B1 2 Z<|Ag (Lm Z)<|A1 1 Z<|AS h ?_ ?_<;>intro aw h
    ·refine A4<|A2<|AM<|A8<|CI (Qqz 0 11 (.tail 11)) mixed V (fun b9 ax=>?_);have ay:=t.call ax;refine BJ 3 Z<|A3 h fun az h=>B9 Z (AA az) Z<|A3 h fun a2 h=>B9 Z (LW a2) Z<|BJ 3 Z<|A3 h fun a3 h=>B9 Z (AA a3) Z<|A3 h fun a4 h=>B9 Z (LW a4) Z<|BJ 1 Z<|B8 (fun ca a5=>?_);have a6:=ay.call a5;refine Al<|DP h ?_ ?_<;>intro a7 h
     ·cases h
     refine A4<|A9<|A2<|Az<|Ar 1 Z<|A3 h fun a8 h=>Ag (AA a8)<|Ar 1 Z<|AP ?_;have h:=BW.again h u;refine AN (_,_) ⟨a6,h⟩
    refine Bq<|AK<|AF ?_;have h:=BW.out h u;refine Bj<|AH () ⟨t,h⟩
   rintro _ bw ⟨a9,h⟩;refine AM<|B1 2 Z<|A3 h fun ba h=>Ag (AA ba)<|A1 1 Z<|Au<|AE<|J4<|Ay<|BM ?_;have h:=BW.out h e;refine Ay<|Bp<|J4<|Ay ?_
   cases h
   refine Aj Z ⟨a9.ext,Z⟩
  refine Bq<|AK<|AF ?_;have h:=BW.out h e;refine Bj<|AH () ⟨m,h⟩
 rintro _ bx ⟨bb,h⟩;refine AM<|AI 1 Z<|Au<|AE<|J4<|Ay ?_
 cases h
 refine Aj Z ⟨bb.ext,Z⟩
def EG(a0:Aae)(a1:Int):Option Bool:=
 Qq8 (HE a0 a1) (fun a=>some (decide (0<=a)))
theorem Js{a0:Aae}{a1:Int}{r:Bool}(h:EG a0 a1=some r):
  Qqv 82 [Aad a0,.int .i32 a1] w (fun v w'=>v=.bool r):=by
 refine AG 9 [(0,(Aad a0)),(1,.int .i32 a1)] func82 Z fun hL=>AI 1 Z<|B1 2 Z<|Av h fun e a h=>A6 hL (Nv _ _ (Ao hL) a) fun f d b c=>A1 2 Z<|Au ?_
 cases h
 refine Aj Z ⟨b.ext,Z⟩
def M9(a0:Int):Option Bool:=
 if(a0<97)\/(122<a0)then if a0<48 then Qq8 (EG ([45,95,46]:Aae) a0) (fun b=>some (!b))else if 57<a0 then Qq8 (EG ([45,95,46]:Aae) a0) (fun a=>some (!a))else some false else some false
theorem Pp{a0:Int}{r:Bool}(h:M9 a0=some r):
  Qqv 81 [.int .i32 a0] w (fun v w'=>v=.bool r):=by
 refine AG 22 [(0,.int .i32 a0)] func81 Z fun hL=>AI 1 Z<|B1 3 Z<|Wb 2 2 Z Z Z Z Z Z<|Ar 1 Z<|AQ 9 h ?_ ?_<;>intro a h
 ·refine Aa a<|Ag (Ad Z)<|Aa a<|Ag (Ad Z)<|Aa a<|Ag (Ad Z)<|AQ 12 h ?_ ?_<;>intro c h
  ·iterate 2 refine Ab c ?_
   refine Aa a<|Ag (Ak c Z)<|Ag (Ak a Z)<|Ar 1 Z<|Aa Z<|Ag (Ad Z)<|Aa Z<|Av h fun p f h=>A6 hL (Js _ _ (Ao hL) f) fun q l g j=>Aa Z<|Ag (Ad Z)<|Ag (Ak Z Z)<|A1 1 Z<|Au ?_
   cases h
   refine Aj Z ⟨g.ext,Z⟩
  refine Aa c<|Ag (Ad Z)<|Aa c<|Ag (Ad Z)<|Aa a<|Ag (Am c Z)<|Ag (Ak a Z)<|Ar 1 Z<|AQ 17 h ?_ ?_<;>intro b h
  ·refine Aa b<|Ag (Ad Z)<|Aa b<|Av h fun m d h=>A6 hL (Js _ _ (Ao hL) d) fun o k e i=>Aa b<|Ag (Ad Z)<|Ag (Ak b Z)<|A1 1 Z<|Au ?_
   cases h
   refine Aj Z ⟨e.ext,Z⟩
  iterate 3 refine Ab b ?_
  refine Ag (Am b Z)<|A1 1 Z<|Au ?_
  cases h
  refine Aj Z ⟨hL.ext,Z⟩
 iterate 3 refine Ab a ?_
 iterate 2 refine As ?_
 refine Ab a<|Ag (Am a Z)<|Ar 1 Z ?_
 iterate 3 refine Ab Z ?_
 refine Ag (Am Z Z)<|A1 1 Z<|Au ?_
 cases h
 refine Aj Z ⟨hL.ext,Z⟩
end
end Go.Proofs.YtnmkjjgmnbmmnaaGreatDoor
end
noncomputable section
namespace Go.L
set_option maxRecDepth 20000 in
theorem Ui{x:Int}(h:128<=x)(hx:x<=1114111)(hv:Go.Utf8.valid x=true):∃k:Nat,(EC x).length=k/\2<=k/\k<=4/\128<=((EC x).getD (k - 1) Qq1).toNat:=by
 obtain⟨c,rfl⟩:=Int.eq_ofNat_of_zero_le (show 0<=x by omega);have hm:∀j:Nat,(128+j % 64) % 256=128+j % 64:=fun j=>Nat.mod_eq_of_lt U;unfold EC Go.Utf8.encode;simp only[hv,if_true,Int.toNat_natCast];rw[if_neg U];have e:∀j:Nat,128<=(UInt8.ofNat (128+j % 64)).toNat:=fun j=>by rw[UInt8.toNat_ofNat',hm];omega
 have f:∀a b:UInt8,((ByteArray.mk #[a,b]).data.toList.length=2)/\(ByteArray.mk #[a,b]).data.toList.getD (2 - 1) Qq1=b:=fun _ _=>⟨Z,Z⟩;have g:∀a b c:UInt8,((ByteArray.mk #[a,b,c]).data.toList.length=3)/\(ByteArray.mk #[a,b,c]).data.toList.getD (3 - 1) Qq1=c:=fun _ _ _=>⟨Z,Z⟩;have i:∀a b c d:UInt8,((ByteArray.mk #[a,b,c,d]).data.toList.length=4)/\(ByteArray.mk #[a,b,c,d]).data.toList.getD (4 - 1) Qq1=d:=fun _ _ _ _=>⟨Z,Z⟩
 by_cases h1:c<2048
 ·rw[if_pos h1];refine⟨2,(f _ _).1,by omega,by omega,?_⟩;rw[(f _ _).2];exact e _
 ·rw[if_neg h1]
  by_cases h2:c<65536
  ·rw[if_pos h2];refine⟨3,(g _ _ _).1,by omega,by omega,?_⟩;rw[(g _ _ _).2];exact e _
  ·rw[if_neg h2];refine⟨4,(i _ _ _ _).1,by omega,by omega,?_⟩;rw[(i _ _ _ _).2];exact e _
end Go.L
namespace Go.Proofs.YtnmkjjgmnbmmnaaGreatDoor
open Go Go.L
theorem Tc:∀n:Fin 128,(0<=Lib.indexByte [45,95,46] (u8 (n.val:Int))↔(n.val=45\/n.val=95\/n.val=46)):=by decide
theorem Vj:HR [45,95,46] 0=some (-1):=by
 unfold HR;have r0:Ds [45,95,46] 0=some (.inl 1):=by rfl
 have r1:Ds [45,95,46] 1=some (.inl 2):=by rfl
 have r2:Ds [45,95,46] 2=some (.inl 3):=by rfl
 have r3:Ds [45,95,46] 3=some (.inr (-1)):=by rfl
 rw[BK r0,BK r1,BK r2];exact BA (m:=some (-1)) r3
theorem Uj{x:Int}(a:0<=x)(hx:x<=1114111):∃i,HE [45,95,46] x=some i/\(0<=i↔(x=45\/x=95\/x=46)):=by
 unfold HE
 by_cases h1:x<128
 ·rw[if_pos ⟨a,h1⟩];have:=Tc ⟨x.toNat,by omega⟩;simp only[Int.toNat_of_nonneg a]at this;exact⟨_,Z,by rw[this];omega⟩
 ·rw[if_neg U];have hn : ¬(x=45\/x=95\/x=46):=by omega
  by_cases h2:x=65533
  ·rw[if_pos h2,Vj];exact⟨_,Z,by omega⟩
  ·rw[if_neg h2]
   by_cases hv:Go.Utf8.valid x=true
   ·have e:Dc x=some true:=by
     unfold Dc;simp only[Go.Utf8.valid,Qxd,Qza,decide_eq_true_eq]at hv
     by_cases h3:0<=x/\x<55296
     ·rw[if_pos h3]
     ·rw[if_neg h3,if_pos U]
    rw[e];obtain⟨k,hk,g,h,hl⟩:=Ui U hx hv;simp only[Qq9,Bool.not_true,Bool.false_eq_true,if_false,hk];rw[An (h:=(by unfold BH;omega))];refine⟨-1,BA ?_,by omega⟩;unfold H0;have f:((k:Int) - 1).toNat=k - 1:=by omega
    have key:∀(l:Qq3) (c:UInt8),(∀b∈l,b.toNat<128)->128<=c.toNat->Lib.indexByte l c = -1:=by
     intro l c hl hc
     induction l with
     | nil=>rfl
     | cons b l ih=>
      have hb:=hl b (.head _)
      have hne:(b==c)=false:=by
       cases hh:b==c with
       | false=>rfl
       | true=>have:=beq_iff_eq.1 hh;subst this;omega
      unfold Lib.indexByte;rw[ih (fun b hb=>hl b (.tail _ hb)),hne]
      rfl
    have d:k=2\/k=3\/k=4:=by omega
    simp only[hk,f]
    rcases d with rfl | rfl | rfl
    ·rw[if_pos Qqb,An (h:=(by decide)),An (h:=(by decide)),if_neg (by intro hh;have:(([45,95,46]:Qq3).getD 1 Qq1).toNat=95:=Z;simp only[Nat.reduceSub]at hl hh;omega),An (h:=(by unfold BH;decide)),An (h:=(by decide)),An (h:=(by decide))];unfold Pj;rw[Qq9,key _ _ Qqb hl,if_pos Qqb]
    ·rw[if_pos Qqb,An (h:=(by decide)),An (h:=(by decide)),if_neg (by intro hh;have:(([45,95,46]:Qq3).getD 2 Qq1).toNat=46:=Z;simp only[Nat.reduceSub]at hl hh;omega),An (h:=(by unfold BH;decide)),An (h:=(by decide)),An (h:=(by decide))];unfold Pj;rw[Qq9,key _ _ Qqb hl,if_pos Qqb]
    ·rw[if_neg Qqb]
     rfl
   ·have e:Dc x=some false:=by
     unfold Dc;simp only[Go.Utf8.valid,Qxd,Qza,decide_eq_true_eq]at hv;rw[if_neg U,if_neg U]
    rw[e];exact⟨-1,Z,by omega⟩
def WG(n:Nat):Bool:=!((decide (97<=n/\n<=122))||(decide (48<=n/\n<=57))||(decide (n=45\/n=95\/n=46)))
theorem Vk{n:Nat}(hx:n<=1114111):M9 (n:Int)=some (WG n):=by
 obtain⟨i,hi,hd⟩:=Uj (x:=(n:Int)) U U;have hc:EG [45,95,46] (n:Int)=some (decide (0<=i)):=by unfold EG;rw[hi];rfl
 have hd':decide (0<=i)=decide (n=45\/n=95\/n=46):=by
  rw[Bool.eq_iff_iff,decide_eq_true_eq,decide_eq_true_eq,hd];omega
 unfold M9 WG;rw[hc,hd'];simp only[Qq9]
 by_cases h1:(n:Int)<97\/(122:Int)<n
 ·rw[if_pos h1];have a:decide (97<=n/\n<=122)=false:=decide_eq_false U
  by_cases h2:(n:Int)<48
  ·rw[if_pos h2];have b:decide (48<=n/\n<=57)=false:=decide_eq_false U;rw[a,b];rfl
  ·rw[if_neg h2]
   by_cases h3:(57:Int)<n
   ·rw[if_pos h3];have b:decide (48<=n/\n<=57)=false:=decide_eq_false U;rw[a,b];rfl
   ·rw[if_neg h3];have b:decide (48<=n/\n<=57)=true:=decide_eq_true U;rw[a,b];rfl
 ·rw[if_neg h1];have a:decide (97<=n/\n<=122)=true:=decide_eq_true U;rw[a];rfl
end Go.Proofs.YtnmkjjgmnbmmnaaGreatDoor
end
noncomputable section
namespace Go.Proofs.YtnmkjjgmnbmmnaaGreatDoor
open Go Go.E Go.RowKit Go.Shelf
noncomputable def Td(a:Qq3):Option Bool:=some (decide (0<=Lib.idxFunc WG true ⟨a.toArray⟩))
section
variable(w:World)(H:PH)(hH:Le H (hp w)) include hH
theorem Uk{a0:Qq3}{r:Bool}(h:Td a0=some r):
  Ok Tryz.prog 80 [.string ⟨a0.toArray⟩,.func (.func 81) #[] #[]] w (fun v w'=>Ext w w'/\v=.bool r):=by
 obtain rfl:=Option.some.inj h;refine⟨⟨Tryz.f80,_,Tryz.func80,Z,Z⟩,(Any.strings_ContainsFunc_grows Tryz.YK 81 #[] (enters_of Tryz.func81 V Z) WG ⟨a0.toArray⟩ w ?_).mono fun e w' he=>?_⟩
 ·intro W x hx _;refine(Pp W (hp W) (Le.refl _) (Vk hx)).2.mono fun e w' he=>?_;obtain⟨v,rfl,hx,rfl⟩:=he;exact⟨Z,hx.toBelow⟩
 ·obtain⟨rfl,hb⟩:=he;exact⟨_,Z,Ext.off hb,Z⟩
end
end Go.Proofs.YtnmkjjgmnbmmnaaGreatDoor
end
noncomputable section
namespace Go.Proofs.YtnmkjjgmnbmmnaaGreatDoor
open Go Go.E Go.RowKit Go.L
set_option maxHeartbeats 1000000
set_option maxRecDepth 10000
open _root_.Go.Proofs.Tryz
def Gn(a0:Aae):Option Bool:=
 if a0=([]:Aae)then some false else if 32<(a0.length:Int)then some false else Bb (0<=(0:Int)/\(0:Int)<(a0.length:Int)) (if((a0.getD (0:Int).toNat Qq1).toNat:Int)<97 then some false else Bb (0<=(0:Int)/\(0:Int)<(a0.length:Int)) (if 122<((a0.getD (0:Int).toNat Qq1).toNat:Int)then some false else Qq8 (Td a0) (fun a=>some (!a))))
section
variable(w:World)(H:PH)(hH:Le H (hp w)) include hH
theorem Hy{a0:Aae}{r:Bool}(h:Gn a0=some r):
  Qqv 35 [Aad a0] w (fun v w'=>v=.bool r):=by
 refine AG 23 [(0,(Aad a0))] func35 Z fun hL=>AI 1 Z<|AM<|B1 1 Z<|Ag (Ll Z Z)<|Ar 1 Z<|AQ 5 h ?_ ?_<;>intro a h
 ·iterate 3 refine Ab a ?_
  refine Ag (Ak a Z)<|Ar 1 Z ?_
  iterate 3 refine Ab Z ?_
  refine Ag (Ak Z Z)<|Ar 1 Z ?_
  iterate 3 refine Ab Z ?_
  refine Ag (Ak Z Z)<|Al<|Fy<|AI 1 Z<|Au<|AE ?_
  cases h
  refine Aj Z ⟨hL.ext,Z⟩
 refine Aa a<|Ag (Ad Z)<|Aa a<|Ag (Lm Z)<|Aa a<|Ag (Ad Z)<|Ag (Am a Z)<|Ar 1 Z<|AQ 10 h ?_ ?_<;>intro b h
 ·iterate 3 refine Ab b ?_
  refine Ag (Ak b Z)<|Ar 1 Z ?_
  iterate 3 refine Ab Z ?_
  refine Ag (Ak Z Z)<|Al<|Fy<|AI 1 Z<|Au<|AE ?_
  cases h
  refine Aj Z ⟨hL.ext,Z⟩
 refine Aa b<|Ag (Ad Z)<|Aa b<|A3 h fun i h=>Ag (LW i)<|Aa b<|Ag (Ad Z)<|Ag (Am b Z)<|Ar 1 Z<|AQ 15 h ?_ ?_<;>intro c h
 ·iterate 3 refine Ab c ?_
  refine Ag (Ak c Z)<|Al<|Fy<|AI 1 Z<|Au<|AE ?_
  cases h
  refine Aj Z ⟨hL.ext,Z⟩
 refine Aa c<|Ag (Ad Z)<|Aa c<|A3 h fun d h=>Ag (LW d)<|Aa c<|Ag (Ad Z)<|Ag (Am c Z)<|Al<|AS h ?_ ?_<;>intro e h
 ·refine AI 1 Z<|Au<|AE ?_
  cases h
  refine Aj Z ⟨hL.ext,Z⟩
 refine A4<|A2<|B1 1 Z<|Av h fun l f h=>A6 hL (Uk _ _ (Ao hL) f) fun m k g j=>A1 2 Z<|Au ?_
 cases h
 refine Aj Z ⟨g.ext,Z⟩
def HF(a0:Aae):Option Bool:=
 Qq8 (Gn a0) (fun a=>some (!a))
theorem Nx{a0:Aae}{r:Bool}(h:HF a0=some r):
  Qqv 179 [Aad a0] w (fun v w'=>v=.bool r):=by
 refine AG 6 [(0,(Aad a0))] func179 Z fun hL=>AI 1 Z<|B1 1 Z<|Av h fun e a h=>A6 hL (Hy _ _ (Ao hL) a) fun f d b c=>A1 2 Z<|Au ?_
 cases h
 refine Aj Z ⟨b.ext,Z⟩
def G2:Option Int:=
 some ((-1))
def Gh(a0:List Aae):Int->Option ((Int)⊕(Int)):=fun a=>
 if a<(a0.length:Int)then Bb (0<=a/\a<(a0.length:Int)) (Qq8 (HF (a0.getD a.toNat Qq1)) (fun b=>if b then Qzq Sum.inr (some a)else Bb (BH (a+1)) (some (Sum.inl (a+1)))))else Qzq Sum.inr G2
def IC(a0:List Aae)(s:Int):Option Int:=Go.L.run (Gh a0) s
def Is(a0:List Aae):Option Int:=
 (IC a0) (0:Int)
theorem ND{a0:List Aae}{b:Value}(e:AL .st H b a0){r:Int}(h:Is a0=some r):
  Qqv 148 [b,.func (.func 179) #[] #[]] w (fun v w'=>v=No r):=by
 refine AG 19 [(0,b),(1,.func (.func 179) #[] #[])] func148 Z fun hL=>AI 1 Z<|Bm Unit (fun(_:Unit)=>[]) (fun(_:Unit) wr=>AW w [] wr/\G2=some r) ?_ ?_
 ·refine B1 1 Z<|Ag (AT e)<|A1 1 Z<|A8 ?_;obtain⟨f,h⟩:=Bc h;refine Bz (Int×Nat) (fun⟨a,n⟩=>[(0,b),(1,.func (.func 179) #[] #[]),(7,No (a0.length:Int)),(8,No a)]) (fun⟨a,n⟩ wr=>AW w [] wr/\FW (Gh a0) n a=some r) (fun⟨a,n⟩=>n) (0,f) Z ⟨hL,h⟩ ?_;rintro⟨a,nn42⟩ s ⟨c,h⟩;obtain⟨f,x,rfl,h,d⟩:=Ba h;refine AI 1 Z<|AM<|AS h ?_ ?_<;>intro j h
  ·refine A4<|A2<|AM<|A8<|AI 2 Z<|B1 3 Z<|A3 h fun g h=>Bf e a.toNat (CT g) (AD g) ?_;rintro y _ rfl k;refine Ag (AX k (hH.trans c.arg))<|Av h fun z l h=>Nn c (Nx _ _ (Ao c) l) ?_;rintro _ aa rfl t i q;refine Al<|Bi h ?_ ?_<;>intro m h
   ·refine AI 2 Z<|Au<|Ay<|AE<|BM ?_;have h:=BW.out h d;refine Ay<|Bp ?_
    cases h
    refine Aj Z ⟨i.ext,Z⟩
   refine A4<|A9<|A2<|Az<|A3 h fun o h=>Ag (AA o)<|Ar 1 Z<|AP ?_;have h:=BW.again h d;refine AN (_,_) ⟨i,h⟩
  refine Bq<|AK<|AF ?_;have h:=BW.out h d;refine Bj<|AH () ⟨c,h⟩
 rintro _ u ⟨p,h⟩;refine AI 1 Z<|Au ?_
 cases h
 refine Aj Z ⟨p.ext,Z⟩
def Fw(a0:List Aae):Option Bool:=
 Qq8 (Is a0) (fun a=>some (decide (0<=a)))
theorem NF{a0:List Aae}{a:Value}(b:AL .st H a a0){r:Bool}(h:Fw a0=some r):
  Qqv 178 [a,.func (.func 179) #[] #[]] w (fun v w'=>v=.bool r):=by
 refine AG 9 [(0,a),(1,.func (.func 179) #[] #[])] func178 Z fun hL=>AI 1 Z<|B1 2 Z<|Av h fun g c h=>A6 hL (ND _ _ (Ao hL) (b.mono  Ai) c) fun i f d e=>A1 2 Z<|Au ?_
 cases h
 refine Aj Z ⟨d.ext,Z⟩
def C2(a0:Aae)(a1:Aae)(a:Bool):Option Int:=
 if a then some (0)else(if(a1.length:Int)=1 then Bb (0<=(0:Int)/\(0:Int)<(a1.length:Int)) (Qq8 (R1 a0 (a1.getD (0:Int).toNat Qq1)) (fun b=>some b))else none)
def DV(a0:Aae)(a1:Aae):Option Int:=
 if(a1.length:Int)=0 then(C2 a0 a1) true else(C2 a0 a1) (decide (a1=a0))
theorem K0{a0 a1:Aae}{r:Int}(h:DV a0 a1=some r):
  Qqv 76 [Aad a0,Aad a1] w (fun v w'=>v=No r):=by
 refine AG 143 [(0,(Aad a0)),(1,(Aad a1))] func76 Z fun hL=>AI 1 Z<|B1 1 Z<|Ag (Lm Z)<|A1 1 Z<|AM<|A8<|Bm Bool (fun b=>[(0,(Aad a0)),(1,(Aad a1)),(5,No (a1.length:Int)),(16,.bool b)]) (fun b wr=>AW w [] wr/\(C2 a0 a1) b=some r) ?_ ?_
 ·refine Az<|Ar 3 Z<|AQ 19 h ?_ ?_<;>intro a h
  ·iterate 3 refine Ab a ?_
   refine Ag (Ak a Z)<|Ar 1 Z<|AP<|AH _ ⟨hL,h⟩
  refine Aa a<|Ag (Ad Z)<|Aa a<|Ag (Ad Z)<|Aa a<|Ag (Ll Z Z)<|Ag (Am a Z)<|Ar 1 Z<|AP<|AH _ ⟨hL,h⟩
 rintro b k ⟨c,h⟩;refine Bi h ?_ ?_<;>intro d h
 ·refine AI 1 Z<|Au<|Ay<|AE ?_
  cases h
  refine Aj Z ⟨c.ext,Z⟩
 refine AI 3 Z<|AS h ?_ ?_<;>intro e h
 ·refine B1 2 Z<|A3 h fun f h=>Ag (LW f)<|Av h fun m g h=>A6 c (Uh _ _ (Ao c) g) fun o l i j=>A1 1 Z<|Au<|Ay<|AE ?_
  cases h
  refine Aj Z ⟨i.ext,Z⟩
 refine Aq ?_
 cases h
def E6(a0:Aae)(a1:Aae):Option (Aae×Aae×Bool):=
 Qq8 (DV a0 a1) (fun a=>if 0<=a then Bb (0<=a/\a<=(a0.length:Int)) (Bb (BH (a+(a1.length:Int))) (Bb (0<=(a+(a1.length:Int))/\(a+(a1.length:Int))<=(a0.length:Int)) (some ((a0.take a.toNat),(a0.drop (a+(a1.length:Int)).toNat),true))))else some (a0,([]:Aae),false))
theorem KY{a0 a1:Aae}{r:Aae×Aae×Bool}(h:E6 a0 a1=some r):
  Qqv 30 [Aad a0,Aad a1] w (fun v w'=>v=.tuple #[Aad r.1,Aad r.2.1,.bool r.2.2]):=by
 refine AG 23 [(0,(Aad a0)),(1,(Aad a1))] func30 Z fun hL=>AI 3 Z<|AM<|B1 2 Z<|Av h fun p e h=>A6 hL (K0 _ _ (Ao hL) e) fun s m a l=>A1 1 Z<|AI 2 Z<|AS h ?_ ?_<;>intro f h
 ·refine CI (Qqz 0 12 (.tail 12)) mixed V (fun t g=>?_);have i:=a.call g;refine BJ 2 Z<|A3 h fun j h=>B9 Z (XW j) Z<|BJ 3 Z<|B9 Z (Lm Z) Z<|A3 h fun k h=>B9 Z (AA k) Z<|A3 h fun b h=>B9 Z (UU b) Z<|BJ 3 Z<|B8 (fun o c=>?_);have d:=i.call c;refine Al<|Au<|AE ?_
  cases h
  refine Aj Z ⟨d.ext,Z⟩
 refine A4<|A2<|AI 4 Z<|Au ?_
 cases h
 refine Aj Z ⟨a.ext,Z⟩
def K1(a0:Aae)(a1:Aae):Option (Aae×Aae×Bool):=
 Qq8 (E6 a0 a1) (fun a=>some (a.1,a.2.1,a.2.2))
theorem Ny{a0 a1:Aae}{r:Aae×Aae×Bool}(h:K1 a0 a1=some r):
  Qqv 12 [Aad a0,Aad a1] w (fun v w'=>v=.tuple #[Aad r.1,Aad r.2.1,.bool r.2.2]):=by
 refine AG 13 [(0,(Aad a0)),(1,(Aad a1))] func12 Z fun hL=>AI 3 Z<|B1 2 Z<|Av h fun e a h=>A6 hL (KY _ _ (Ao hL) a) fun f d b c=>A1 6 Z<|Au ?_
 cases h
 refine Aj Z ⟨b.ext,Z⟩
end
end Go.Proofs.YtnmkjjgmnbmmnaaGreatDoor
end
