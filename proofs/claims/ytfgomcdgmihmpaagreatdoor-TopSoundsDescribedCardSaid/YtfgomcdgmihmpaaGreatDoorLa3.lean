/- Texts of a claim, merged. -/
import Derived.Test.YtfgomcdgmihmpaaGreatDoorLa2
import Derived.KernelRfl
import Derived.Shelf.Strings.FuncGrows
open _root_.Go.Proofs.Tryz renaming underlying186→Zp,underlying53→Zs,underlying25→Zv
open Option renaming bind->QqB,bind_some->QqC,map->QqD
open Nat renaming le_refl->Qq0,mul_one->Qzw
open List renaming replicate->Qq3,length_map->Qq9,take_of_length_le->Qz8
open Bool renaming and_eq_true->Qq4,or_eq_true->Qz5
open ByteArray renaming size->Qz2
set_option linter.unusedVariables false
set_option linter.unusedSimpArgs false
set_option linter.unusedSectionVars false
noncomputable section
namespace Go.Proofs.YtfgomcdgmihmpaaGreatDoor
open Go Go.E Go.RowKit Go.L
set_option maxHeartbeats 1000000
set_option maxRecDepth 10000
open _root_.Go.Proofs.Tryz
def EE(a0:ZJ):Option Bool:=
 QqB (GC a0 ([2,4,5])) (fun a=>some a)
section
variable(w:World)(H:PH)(hH:Le H (hp w)) include hH
theorem Gx{a0:ZJ}{a b c:Value}(f:AD .byte H a (a0.2.2.1))(g:AD .st H b (a0.2.2.2.2.2.2.2.2.2.2.1))(i:AD (.int .i64) H c (a0.2.2.2.2.2.2.2.2.2.2.2)){r:Bool}(h:EE a0=some r):
  Zy 42 [.agg #[Zf a0.1,No a0.2.1,a,No a0.2.2.2.1,.bool a0.2.2.2.2.1,No a0.2.2.2.2.2.1,No a0.2.2.2.2.2.2.1,No a0.2.2.2.2.2.2.2.1,No a0.2.2.2.2.2.2.2.2.1,No a0.2.2.2.2.2.2.2.2.2.1,b,c]] w (fun v w'=>v=.bool r):=by
 refine AL 6 [(0,.agg #[Zf a0.1,No a0.2.1,a,No a0.2.2.2.1,.bool a0.2.2.2.2.1,No a0.2.2.2.2.2.1,No a0.2.2.2.2.2.2.1,No a0.2.2.2.2.2.2.2.1,No a0.2.2.2.2.2.2.2.2.1,No a0.2.2.2.2.2.2.2.2.2.1,b,c])] func42 Z fun hL=>Av<|C1 (t:=53) Z Z hL fun x y d o _=>A4 1 Z<|Av<|Ah (Az 0 Z Bp.e d Z)<|Br [2,4,5] (r:=(.int .i64)) (hr:=(fun _=>SJ _ _ _ _)) (Bw 3) d (.c1 Z (.c1 Z (.c1 Z .nil))) fun z w2 s e p j=>Ax h fun x3 k h=>A9 e (Hz _ _ (Al e) a0 (f.mono  Ai) (g.mono  Ai) (i.mono  Ai) j k) fun w4 u m q=>A4 1 Z<|Ay ?_
 cases h
 refine Ak Z ⟨m.ext,Z⟩
def Du(a0:ZJ):Option Bool:=
 QqB (GC a0 ([2,3])) (fun a=>some a)
theorem DO{a0:ZJ}{a b c:Value}(f:AD .byte H a (a0.2.2.1))(g:AD .st H b (a0.2.2.2.2.2.2.2.2.2.2.1))(i:AD (.int .i64) H c (a0.2.2.2.2.2.2.2.2.2.2.2)){r:Bool}(h:Du a0=some r):
  Zy 44 [.agg #[Zf a0.1,No a0.2.1,a,No a0.2.2.2.1,.bool a0.2.2.2.2.1,No a0.2.2.2.2.2.1,No a0.2.2.2.2.2.2.1,No a0.2.2.2.2.2.2.2.1,No a0.2.2.2.2.2.2.2.2.1,No a0.2.2.2.2.2.2.2.2.2.1,b,c]] w (fun v w'=>v=.bool r):=by
 refine AL 6 [(0,.agg #[Zf a0.1,No a0.2.1,a,No a0.2.2.2.1,.bool a0.2.2.2.2.1,No a0.2.2.2.2.2.1,No a0.2.2.2.2.2.2.1,No a0.2.2.2.2.2.2.2.1,No a0.2.2.2.2.2.2.2.2.1,No a0.2.2.2.2.2.2.2.2.2.1,b,c])] func44 Z fun hL=>Av<|C1 (t:=53) Z Z hL fun x y d o _=>A4 1 Z<|Av<|Ah (Az 0 Z Bp.e d Z)<|Br [2,3] (r:=(.int .i64)) (hr:=(fun _=>ND _ _ _)) (Bw 2) d (.c1 Z (.c1 Z .nil)) fun z w2 s e p j=>Ax h fun x3 k h=>A9 e (Hz _ _ (Al e) a0 (f.mono  Ai) (g.mono  Ai) (i.mono  Ai) j k) fun w4 u m q=>A4 1 Z<|Ay ?_
 cases h
 refine Ak Z ⟨m.ext,Z⟩
def BE(a0:ZJ):Option Bool:=
 QqB (GC a0 ([6,9])) (fun a=>some a)
theorem B5{a0:ZJ}{a b c:Value}(f:AD .byte H a (a0.2.2.1))(g:AD .st H b (a0.2.2.2.2.2.2.2.2.2.2.1))(i:AD (.int .i64) H c (a0.2.2.2.2.2.2.2.2.2.2.2)){r:Bool}(h:BE a0=some r):
  Zy 47 [.agg #[Zf a0.1,No a0.2.1,a,No a0.2.2.2.1,.bool a0.2.2.2.2.1,No a0.2.2.2.2.2.1,No a0.2.2.2.2.2.2.1,No a0.2.2.2.2.2.2.2.1,No a0.2.2.2.2.2.2.2.2.1,No a0.2.2.2.2.2.2.2.2.2.1,b,c]] w (fun v w'=>v=.bool r):=by
 refine AL 6 [(0,.agg #[Zf a0.1,No a0.2.1,a,No a0.2.2.2.1,.bool a0.2.2.2.2.1,No a0.2.2.2.2.2.1,No a0.2.2.2.2.2.2.1,No a0.2.2.2.2.2.2.2.1,No a0.2.2.2.2.2.2.2.2.1,No a0.2.2.2.2.2.2.2.2.2.1,b,c])] func47 Z fun hL=>Av<|C1 (t:=53) Z Z hL fun x y d o _=>A4 1 Z<|Av<|Ah (Az 0 Z Bp.e d Z)<|Br [6,9] (r:=(.int .i64)) (hr:=(fun _=>ND _ _ _)) (Bw 2) d (.c1 Z (.c1 Z .nil)) fun z w2 s e p j=>Ax h fun x3 k h=>A9 e (Hz _ _ (Al e) a0 (f.mono  Ai) (g.mono  Ai) (i.mono  Ai) j k) fun w4 u m q=>A4 1 Z<|Ay ?_
 cases h
 refine Ak Z ⟨m.ext,Z⟩
def AT(a0:ZJ):Option Bool:=
 QqB (GC a0 ([7,8])) (fun a=>some a)
theorem AO(a0:ZJ){a b c:Value}(f:AD .byte H a (a0.2.2.1))(g:AD .st H b (a0.2.2.2.2.2.2.2.2.2.2.1))(i:AD (.int .i64) H c (a0.2.2.2.2.2.2.2.2.2.2.2)){r:Bool}(h:AT a0=some r):
  Zy 48 [.agg #[Zf a0.1,No a0.2.1,a,No a0.2.2.2.1,.bool a0.2.2.2.2.1,No a0.2.2.2.2.2.1,No a0.2.2.2.2.2.2.1,No a0.2.2.2.2.2.2.2.1,No a0.2.2.2.2.2.2.2.2.1,No a0.2.2.2.2.2.2.2.2.2.1,b,c]] w (fun v w'=>v=.bool r):=by
 refine AL 6 [(0,.agg #[Zf a0.1,No a0.2.1,a,No a0.2.2.2.1,.bool a0.2.2.2.2.1,No a0.2.2.2.2.2.1,No a0.2.2.2.2.2.2.1,No a0.2.2.2.2.2.2.2.1,No a0.2.2.2.2.2.2.2.2.1,No a0.2.2.2.2.2.2.2.2.2.1,b,c])] func48 Z fun hL=>Av<|C1 (t:=53) Z Z hL fun x y d o _=>A4 1 Z<|Av<|Ah (Az 0 Z Bp.e d Z)<|Br [7,8] (r:=(.int .i64)) (hr:=(fun _=>ND _ _ _)) (Bw 2) d (.c1 Z (.c1 Z .nil)) fun z w2 s e p j=>Ax h fun x3 k h=>A9 e (Hz _ _ (Al e) a0 (f.mono  Ai) (g.mono  Ai) (i.mono  Ai) j k) fun w4 u m q=>A4 1 Z<|Ay ?_
 cases h
 refine Ak Z ⟨m.ext,Z⟩
def JA(a0:ZJ):Option Bool:=
 if((decide ((a0.2.2.1.length:Int)=0))||(decide (a0.2.1=1)))then if a0.2.2.2.2.2.2.2.1=0 then if a0.2.2.2.1=0 then if(((!a0.2.2.2.2.1)&&(decide (a0.2.2.2.2.2.1=0)))||(decide (a0.2.1=2)))then if a0.2.2.2.2.2.2.1=0 then if a0.2.2.2.2.2.2.2.2.1=0 then if a0.2.2.2.2.2.2.2.2.2.1=0 then if((decide ((a0.2.2.2.2.2.2.2.2.2.2.1.length:Int)=0))||(decide (a0.2.1=7)))then if(a0.2.2.2.2.2.2.2.2.2.2.2.length:Int)=0 then some true else QqB (AT a0) (fun a3=>some a3)else some false else QqB (BE a0) (fun a4=>if(a4&&((decide ((a0.2.2.2.2.2.2.2.2.2.2.1.length:Int)=0))||(decide (a0.2.1=7))))then if(a0.2.2.2.2.2.2.2.2.2.2.2.length:Int)=0 then some true else QqB (AT a0) (fun a5=>some a5)else some false)else QqB (BK a0) (fun a6=>if a6 then if a0.2.2.2.2.2.2.2.2.2.1=0 then if((decide ((a0.2.2.2.2.2.2.2.2.2.2.1.length:Int)=0))||(decide (a0.2.1=7)))then if(a0.2.2.2.2.2.2.2.2.2.2.2.length:Int)=0 then some true else QqB (AT a0) (fun a7=>some a7)else some false else QqB (BE a0) (fun a8=>if(a8&&((decide ((a0.2.2.2.2.2.2.2.2.2.2.1.length:Int)=0))||(decide (a0.2.1=7))))then if(a0.2.2.2.2.2.2.2.2.2.2.2.length:Int)=0 then some true else QqB (AT a0) (fun a9=>some a9)else some false)else some false)else QqB (Du a0) (fun ba=>if ba then if a0.2.2.2.2.2.2.2.2.1=0 then if a0.2.2.2.2.2.2.2.2.2.1=0 then if((decide ((a0.2.2.2.2.2.2.2.2.2.2.1.length:Int)=0))||(decide (a0.2.1=7)))then if(a0.2.2.2.2.2.2.2.2.2.2.2.length:Int)=0 then some true else QqB (AT a0) (fun bb=>some bb)else some false else QqB (BE a0) (fun bc=>if(bc&&((decide ((a0.2.2.2.2.2.2.2.2.2.2.1.length:Int)=0))||(decide (a0.2.1=7))))then if(a0.2.2.2.2.2.2.2.2.2.2.2.length:Int)=0 then some true else QqB (AT a0) (fun bd=>some bd)else some false)else QqB (BK a0) (fun a=>if a then if a0.2.2.2.2.2.2.2.2.2.1=0 then if((decide ((a0.2.2.2.2.2.2.2.2.2.2.1.length:Int)=0))||(decide (a0.2.1=7)))then if(a0.2.2.2.2.2.2.2.2.2.2.2.length:Int)=0 then some true else QqB (AT a0) (fun b=>some b)else some false else QqB (BE a0) (fun c=>if(c&&((decide ((a0.2.2.2.2.2.2.2.2.2.2.1.length:Int)=0))||(decide (a0.2.1=7))))then if(a0.2.2.2.2.2.2.2.2.2.2.2.length:Int)=0 then some true else QqB (AT a0) (fun d=>some d)else some false)else some false)else some false)else some false else QqB (EE a0) (fun e=>if(e&&(((!a0.2.2.2.2.1)&&(decide (a0.2.2.2.2.2.1=0)))||(decide (a0.2.1=2))))then if a0.2.2.2.2.2.2.1=0 then if a0.2.2.2.2.2.2.2.2.1=0 then if a0.2.2.2.2.2.2.2.2.2.1=0 then if((decide ((a0.2.2.2.2.2.2.2.2.2.2.1.length:Int)=0))||(decide (a0.2.1=7)))then if(a0.2.2.2.2.2.2.2.2.2.2.2.length:Int)=0 then some true else QqB (AT a0) (fun f=>some f)else some false else QqB (BE a0) (fun g=>if(g&&((decide ((a0.2.2.2.2.2.2.2.2.2.2.1.length:Int)=0))||(decide (a0.2.1=7))))then if(a0.2.2.2.2.2.2.2.2.2.2.2.length:Int)=0 then some true else QqB (AT a0) (fun h=>some h)else some false)else QqB (BK a0) (fun i=>if i then if a0.2.2.2.2.2.2.2.2.2.1=0 then if((decide ((a0.2.2.2.2.2.2.2.2.2.2.1.length:Int)=0))||(decide (a0.2.1=7)))then if(a0.2.2.2.2.2.2.2.2.2.2.2.length:Int)=0 then some true else QqB (AT a0) (fun j=>some j)else some false else QqB (BE a0) (fun k=>if(k&&((decide ((a0.2.2.2.2.2.2.2.2.2.2.1.length:Int)=0))||(decide (a0.2.1=7))))then if(a0.2.2.2.2.2.2.2.2.2.2.2.length:Int)=0 then some true else QqB (AT a0) (fun l=>some l)else some false)else some false)else QqB (Du a0) (fun m=>if m then if a0.2.2.2.2.2.2.2.2.1=0 then if a0.2.2.2.2.2.2.2.2.2.1=0 then if((decide ((a0.2.2.2.2.2.2.2.2.2.2.1.length:Int)=0))||(decide (a0.2.1=7)))then if(a0.2.2.2.2.2.2.2.2.2.2.2.length:Int)=0 then some true else QqB (AT a0) (fun n=>some n)else some false else QqB (BE a0) (fun o=>if(o&&((decide ((a0.2.2.2.2.2.2.2.2.2.2.1.length:Int)=0))||(decide (a0.2.1=7))))then if(a0.2.2.2.2.2.2.2.2.2.2.2.length:Int)=0 then some true else QqB (AT a0) (fun p=>some p)else some false)else QqB (BK a0) (fun q=>if q then if a0.2.2.2.2.2.2.2.2.2.1=0 then if((decide ((a0.2.2.2.2.2.2.2.2.2.2.1.length:Int)=0))||(decide (a0.2.1=7)))then if(a0.2.2.2.2.2.2.2.2.2.2.2.length:Int)=0 then some true else QqB (AT a0) (fun r=>some r)else some false else QqB (BE a0) (fun s=>if(s&&((decide ((a0.2.2.2.2.2.2.2.2.2.2.1.length:Int)=0))||(decide (a0.2.1=7))))then if(a0.2.2.2.2.2.2.2.2.2.2.2.length:Int)=0 then some true else QqB (AT a0) (fun t=>some t)else some false)else some false)else some false)else some false)else QqB (CT a0) (fun u=>if u then if a0.2.2.2.1=0 then if(((!a0.2.2.2.2.1)&&(decide (a0.2.2.2.2.2.1=0)))||(decide (a0.2.1=2)))then if a0.2.2.2.2.2.2.1=0 then if a0.2.2.2.2.2.2.2.2.1=0 then if a0.2.2.2.2.2.2.2.2.2.1=0 then if((decide ((a0.2.2.2.2.2.2.2.2.2.2.1.length:Int)=0))||(decide (a0.2.1=7)))then if(a0.2.2.2.2.2.2.2.2.2.2.2.length:Int)=0 then some true else QqB (AT a0) (fun v=>some v)else some false else QqB (BE a0) (fun w=>if(w&&((decide ((a0.2.2.2.2.2.2.2.2.2.2.1.length:Int)=0))||(decide (a0.2.1=7))))then if(a0.2.2.2.2.2.2.2.2.2.2.2.length:Int)=0 then some true else QqB (AT a0) (fun x=>some x)else some false)else QqB (BK a0) (fun y=>if y then if a0.2.2.2.2.2.2.2.2.2.1=0 then if((decide ((a0.2.2.2.2.2.2.2.2.2.2.1.length:Int)=0))||(decide (a0.2.1=7)))then if(a0.2.2.2.2.2.2.2.2.2.2.2.length:Int)=0 then some true else QqB (AT a0) (fun z=>some z)else some false else QqB (BE a0) (fun aa=>if(aa&&((decide ((a0.2.2.2.2.2.2.2.2.2.2.1.length:Int)=0))||(decide (a0.2.1=7))))then if(a0.2.2.2.2.2.2.2.2.2.2.2.length:Int)=0 then some true else QqB (AT a0) (fun ab=>some ab)else some false)else some false)else QqB (Du a0) (fun ac=>if ac then if a0.2.2.2.2.2.2.2.2.1=0 then if a0.2.2.2.2.2.2.2.2.2.1=0 then if((decide ((a0.2.2.2.2.2.2.2.2.2.2.1.length:Int)=0))||(decide (a0.2.1=7)))then if(a0.2.2.2.2.2.2.2.2.2.2.2.length:Int)=0 then some true else QqB (AT a0) (fun ad=>some ad)else some false else QqB (BE a0) (fun ae=>if(ae&&((decide ((a0.2.2.2.2.2.2.2.2.2.2.1.length:Int)=0))||(decide (a0.2.1=7))))then if(a0.2.2.2.2.2.2.2.2.2.2.2.length:Int)=0 then some true else QqB (AT a0) (fun af=>some af)else some false)else QqB (BK a0) (fun ag=>if ag then if a0.2.2.2.2.2.2.2.2.2.1=0 then if((decide ((a0.2.2.2.2.2.2.2.2.2.2.1.length:Int)=0))||(decide (a0.2.1=7)))then if(a0.2.2.2.2.2.2.2.2.2.2.2.length:Int)=0 then some true else QqB (AT a0) (fun ah=>some ah)else some false else QqB (BE a0) (fun ai=>if(ai&&((decide ((a0.2.2.2.2.2.2.2.2.2.2.1.length:Int)=0))||(decide (a0.2.1=7))))then if(a0.2.2.2.2.2.2.2.2.2.2.2.length:Int)=0 then some true else QqB (AT a0) (fun aj=>some aj)else some false)else some false)else some false)else some false else QqB (EE a0) (fun ak=>if(ak&&(((!a0.2.2.2.2.1)&&(decide (a0.2.2.2.2.2.1=0)))||(decide (a0.2.1=2))))then if a0.2.2.2.2.2.2.1=0 then if a0.2.2.2.2.2.2.2.2.1=0 then if a0.2.2.2.2.2.2.2.2.2.1=0 then if((decide ((a0.2.2.2.2.2.2.2.2.2.2.1.length:Int)=0))||(decide (a0.2.1=7)))then if(a0.2.2.2.2.2.2.2.2.2.2.2.length:Int)=0 then some true else QqB (AT a0) (fun al=>some al)else some false else QqB (BE a0) (fun am=>if(am&&((decide ((a0.2.2.2.2.2.2.2.2.2.2.1.length:Int)=0))||(decide (a0.2.1=7))))then if(a0.2.2.2.2.2.2.2.2.2.2.2.length:Int)=0 then some true else QqB (AT a0) (fun an=>some an)else some false)else QqB (BK a0) (fun ao=>if ao then if a0.2.2.2.2.2.2.2.2.2.1=0 then if((decide ((a0.2.2.2.2.2.2.2.2.2.2.1.length:Int)=0))||(decide (a0.2.1=7)))then if(a0.2.2.2.2.2.2.2.2.2.2.2.length:Int)=0 then some true else QqB (AT a0) (fun ap=>some ap)else some false else QqB (BE a0) (fun aq=>if(aq&&((decide ((a0.2.2.2.2.2.2.2.2.2.2.1.length:Int)=0))||(decide (a0.2.1=7))))then if(a0.2.2.2.2.2.2.2.2.2.2.2.length:Int)=0 then some true else QqB (AT a0) (fun ar=>some ar)else some false)else some false)else QqB (Du a0) (fun au=>if au then if a0.2.2.2.2.2.2.2.2.1=0 then if a0.2.2.2.2.2.2.2.2.2.1=0 then if((decide ((a0.2.2.2.2.2.2.2.2.2.2.1.length:Int)=0))||(decide (a0.2.1=7)))then if(a0.2.2.2.2.2.2.2.2.2.2.2.length:Int)=0 then some true else QqB (AT a0) (fun av=>some av)else some false else QqB (BE a0) (fun aw=>if(aw&&((decide ((a0.2.2.2.2.2.2.2.2.2.2.1.length:Int)=0))||(decide (a0.2.1=7))))then if(a0.2.2.2.2.2.2.2.2.2.2.2.length:Int)=0 then some true else QqB (AT a0) (fun ax=>some ax)else some false)else QqB (BK a0) (fun ay=>if ay then if a0.2.2.2.2.2.2.2.2.2.1=0 then if((decide ((a0.2.2.2.2.2.2.2.2.2.2.1.length:Int)=0))||(decide (a0.2.1=7)))then if(a0.2.2.2.2.2.2.2.2.2.2.2.length:Int)=0 then some true else QqB (AT a0) (fun az=>some az)else some false else QqB (BE a0) (fun a1=>if(a1&&((decide ((a0.2.2.2.2.2.2.2.2.2.2.1.length:Int)=0))||(decide (a0.2.1=7))))then if(a0.2.2.2.2.2.2.2.2.2.2.2.length:Int)=0 then some true else QqB (AT a0) (fun a2=>some a2)else some false)else some false)else some false)else some false)else some false)else some false
theorem Oe{a0:ZJ}{fo fp fq:Value}(c:AD .byte H fo (a0.2.2.1))(a:AD .st H fp (a0.2.2.2.2.2.2.2.2.2.2.1))(b:AD (.int .i64) H fq (a0.2.2.2.2.2.2.2.2.2.2.2)){r:Bool}(h:JA a0=some r):
  Zy 155 [.agg #[Zf a0.1,No a0.2.1,fo,No a0.2.2.2.1,.bool a0.2.2.2.2.1,No a0.2.2.2.2.2.1,No a0.2.2.2.2.2.2.1,No a0.2.2.2.2.2.2.2.1,No a0.2.2.2.2.2.2.2.2.1,No a0.2.2.2.2.2.2.2.2.2.1,fp,fq]] w (fun v w'=>v=.bool r):=by
 refine AL 95 [(0,.agg #[Zf a0.1,No a0.2.1,fo,No a0.2.2.2.1,.bool a0.2.2.2.2.1,No a0.2.2.2.2.2.1,No a0.2.2.2.2.2.2.1,No a0.2.2.2.2.2.2.2.1,No a0.2.2.2.2.2.2.2.2.1,No a0.2.2.2.2.2.2.2.2.2.1,fp,fq])] func155 Z fun hL=>Av<|C1 (t:=53) Z Z hL fun w1 b1 g nw _=>A4 1 Z<|Av<|Ah (Af Z Zs Z B6.e)<|Ah (Ag 0 Z g Z)<|A4 2 Z<|Av<|Ah (Af Z Zs Z FJ.e)<|Ah (Ag 0 Z g Z)<|Ah (AX c)<|Aw 2 Z<|BU 4 15 (.bool ((decide ((a0.2.2.1.length:Int)=0))||(decide (a0.2.1=1)))) (fun jn=>?_) ?_
 ·refine Bl (s:=11) Z (fun e8=>?_) (fun e8=>?_)
  ·iterate 3 refine Ac e8 ?_
   refine Ah (Aj e8 Z)<|jn.to 3 (Gh e8) Z Z
  refine Aa e8<|Ah (Af Z Zs Z B6.e)<|Aa e8<|Ah (Ag 0 Z g Z)<|Aa e8<|Ah (Ad Z)<|Ah (An e8 Z)<|jn.to 3 (Gi e8) Z Z
 refine Aw 1 Z<|Bj 16 h ?_ ?_<;>intro dq h
 ·refine Aa dq<|Ah (Af Z Zs Z B6.e)<|Aa dq<|Ah (Ag 0 Z g Z)<|Aa dq<|Ah (Ad Z)<|Aa dq<|Ah (Ad Z)<|AU 20 h ?_ ?_<;>intro fm h
  ·iterate 2 refine Ac fm ?_
   refine Aa dq<|Ah (Aj fm Z)<|Ah (Aj dq Z)<|Aw 1 Z<|Aa Z<|Ah (Af Z Zs Z B6.e)<|Aa Z<|Ah (Ag 0 Z g Z)<|Aa Z<|Ah (Ad Z)<|Aa Z<|Ah (Ad Z)<|AU 29 h ?_ ?_<;>intro fn h
   ·iterate 2 refine Ac fn ?_
    refine Aa Z<|Ah (Aj fn Z)<|Ah (Aj Z Z)<|Aw 1 Z<|Aa Z<|Ah (Af Z Zs Z Fa.e)<|Aa Z<|Ah (Ag 0 Z g Z)<|Aa Z<|Ah (Ad Z)<|Aa Z<|Ah (Ad Z)<|BU 4 42 (.bool ((!a0.2.2.2.2.1)&&(decide (a0.2.2.2.2.2.1=0)))) (fun jo=>?_) ?_
    ·refine Bl (s:=38) Z (fun e9=>?_) (fun e9=>?_)
     ·refine Aa e9<|Ah (Af Z Zs Z B6.e)<|Aa e9<|Ah (Ag 0 Z g Z)<|Aa e9<|Ah (Ad Z)<|Aa Z<|Ah (Aj e9 Z)<|jo.to 3 (FH e9) Z Z
     iterate 3 refine Ac e9 ?_
     refine Aa Z<|Ah (An e9 Z)<|jo.to 3 (FI e9) Z Z
    refine Aa Z<|Ah (Ad Z)<|BU 2 45 (.bool (((!a0.2.2.2.2.1)&&(decide (a0.2.2.2.2.2.1=0)))||(decide (a0.2.1=2)))) (fun g2=>?_) ?_
    ·refine Bl (s:=43) Z (fun e7=>?_) (fun e7=>?_)
     ·refine Ac e7<|Aa Z<|Ah (Aj e7 Z)<|g2.to 1 (Gh e7) Z Z
     refine Aa e7<|Ah (Ad Z)<|Aa Z<|Ah (An e7 Z)<|g2.to 1 (Gi e7) Z Z
    refine Ah (Aj Z Z)<|Aw 1 Z<|Bj 47 h ?_ ?_<;>intro b7 h
    ·refine Aa b7<|Ah (Af Z Zs Z B6.e)<|Aa b7<|Ah (Ag 0 Z g Z)<|Aa b7<|Ah (Ad Z)<|Aa b7<|Ah (Ad Z)<|AU 51 h ?_ ?_<;>intro fa h
     ·iterate 2 refine Ac fa ?_
      refine Aa b7<|Ah (Aj fa Z)<|Ah (Aj b7 Z)<|Aw 1 Z<|Aa Z<|Ah (Af Z Zs Z B6.e)<|Aa Z<|Ah (Ag 0 Z g Z)<|Aa Z<|Ah (Ad Z)<|Aa Z<|Ah (Ad Z)<|AU 60 h ?_ ?_<;>intro fb h
      ·iterate 2 refine Ac fb ?_
       refine Aa Z<|Ah (Aj fb Z)<|Ah (Aj Z Z)<|Aw 1 Z<|Aa Z<|Ah (Af Z Zs Z B6.e)<|Aa Z<|Ah (Ag 0 Z g Z)<|Aa Z<|Ah (Ad Z)<|Aa Z<|Ah (Ad Z)<|AU 69 h ?_ ?_<;>intro fc h
       ·iterate 2 refine Ac fc ?_
        refine Aa Z<|Ah (Aj fc Z)<|Ah (Aj Z Z)<|Aw 1 Z<|Aa Z<|Ah (Af Z Zs Z C3.e)<|Aa Z<|Ah (Ag 0 Z g Z)<|Aa Z<|Ah (AX a)<|Aa Z<|Ah (Ad Z)<|Aa Z<|Ah (Ad Z)<|BU 4 83 (.bool ((decide ((a0.2.2.2.2.2.2.2.2.2.2.1.length:Int)=0))||(decide (a0.2.1=7)))) (fun g3=>?_) ?_
        ·refine Bl (s:=79) Z (fun dg=>?_) (fun dg=>?_)
         ·iterate 3 refine Ac dg ?_
          refine Aa Z<|Ah (Aj dg Z)<|g3.to 3 (Gh dg) Z Z
         refine Aa dg<|Ah (Af Z Zs Z B6.e)<|Aa dg<|Ah (Ag 0 Z g Z)<|Aa dg<|Ah (Ad Z)<|Aa Z<|Ah (An dg Z)<|g3.to 3 (Gi dg) Z Z
        refine Ah (Aj Z Z)<|Aw 1 Z<|Bj 85 h ?_ ?_<;>intro bz h
        ·refine Aa bz<|Ah (Af Z Zs Z D0.e)<|Aa bz<|Ah (Ag 0 Z g Z)<|Aa bz<|Ah (AX b)<|Aa bz<|Ah (Ad Z)<|Aa bz<|Ah (Ad Z)<|AU 90 h ?_ ?_<;>intro fd h
         ·iterate 2 refine Ac fd ?_
          refine Aa bz<|Ah (Aj fd Z)<|Ah (Aj bz Z)<|A4 1 Z<|Ay ?_
          cases h
          refine Ak Z ⟨g.ext,Z⟩
         refine Aa fd<|Ah (Az 0 Z Bp.e g Z)<|Aa fd<|Ax h fun qs jp h=>A9 g (AO _ _ (Al g) a0 (c.mono  Ai) (a.mono  Ai) (b.mono  Ai) jp) fun qt nx jq l4=>Aa bz<|Ah (An fd Z)<|Ah (Aj bz Z)<|A4 1 Z<|Ay ?_
         cases h
         refine Ak Z ⟨jq.ext,Z⟩
        iterate 5 refine Ac bz ?_
        iterate 2 refine Au ?_
        refine Ac bz<|Ah (An bz Z)<|A4 1 Z<|Ay ?_
        cases h
        refine Ak Z ⟨g.ext,Z⟩
       refine Aa fc<|Ah (Az 0 Z Bp.e g Z)<|Aa fc<|Ax h fun kk jr h=>A9 g (B5 (a0:=a0) _ _ (Al g) (c.mono  Ai) (a.mono  Ai) (b.mono  Ai) jr) fun qu ny dr l5=>Aa Z<|Ah (An fc Z)<|Ah (Aj Z Z)<|Aw 1 Z<|BU 10 84 (.bool (kk&&((decide ((a0.2.2.2.2.2.2.2.2.2.2.1.length:Int)=0))||(decide (a0.2.1=7))))) (fun g4=>?_) ?_
       ·refine Bl (s:=74) Z (fun bv=>?_) (fun bv=>?_)
        ·refine Aa bv<|Ah (Af Z Zs Z C3.e)<|Aa bv<|Ah (Ag 0 Z dr Z)<|Aa bv<|Ah (AX a)<|Aa bv<|Ah (Ad Z)<|Aa bv<|Ah (Ad Z)<|BU 4 83 (.bool ((decide ((a0.2.2.2.2.2.2.2.2.2.2.1.length:Int)=0))||(decide (a0.2.1=7)))) (fun g5=>?_) ?_
         ·refine Bl (s:=79) Z (fun dh=>?_) (fun dh=>?_)
          ·iterate 3 refine Ac dh ?_
           refine Aa bv<|Ah (Aj dh Z)<|g5.to 3 (Gh dh) Z Z
          refine Aa dh<|Ah (Af Z Zs Z B6.e)<|Aa dh<|Ah (Ag 0 Z dr Z)<|Aa dh<|Ah (Ad Z)<|Aa bv<|Ah (An dh Z)<|g5.to 3 (Gi dh) Z Z
         refine Ah (Aj bv Z)<|g4.to 6 (FH bv) Z Z
        iterate 5 refine Ac bv ?_
        iterate 3 refine Au ?_
        refine Ac bv<|Ah (An bv Z)<|g4.to 9 (FI bv) Z Z
       refine Aw 1 Z<|Bj 85 h ?_ ?_<;>intro b0 h
       ·refine Aa b0<|Ah (Af Z Zs Z D0.e)<|Aa b0<|Ah (Ag 0 Z dr Z)<|Aa b0<|Ah (AX b)<|Aa b0<|Ah (Ad Z)<|Aa b0<|Ah (Ad Z)<|AU 90 h ?_ ?_<;>intro fe h
        ·iterate 2 refine Ac fe ?_
         refine Aa b0<|Ah (Aj fe Z)<|Ah (Aj b0 Z)<|A4 1 Z<|Ay ?_
         cases h
         refine Ak Z ⟨dr.ext,Z⟩
        refine Aa fe<|Ah (Az 0 Z Bp.e dr Z)<|Aa fe<|Ax h fun qv js h=>A9 dr (AO _ _ (Al dr) a0 (c.mono  Ai) (a.mono  Ai) (b.mono  Ai) js) fun qw nz jt l6=>Aa b0<|Ah (An fe Z)<|Ah (Aj b0 Z)<|A4 1 Z<|Ay ?_
        cases h
        refine Ak Z ⟨jt.ext,Z⟩
       iterate 5 refine Ac b0 ?_
       iterate 2 refine Au ?_
       refine Ac b0<|Ah (An b0 Z)<|A4 1 Z<|Ay ?_
       cases h
       refine Ak Z ⟨dr.ext,Z⟩
      refine Aa fb<|Ah (Az 0 Z Bp.e g Z)<|Aa fb<|Ax h fun qx ju h=>A9 g (BL (a0:=a0) _ _ (Al g) (c.mono  Ai) (a.mono  Ai) (b.mono  Ai) ju) fun qy n0 b2 l7=>Aa Z<|Ah (An fb Z)<|Ah (Aj Z Z)<|Aw 1 Z<|Bj 65 h ?_ ?_<;>intro b8 h
      ·refine Aa b8<|Ah (Af Z Zs Z B6.e)<|Aa b8<|Ah (Ag 0 Z b2 Z)<|Aa b8<|Ah (Ad Z)<|Aa b8<|Ah (Ad Z)<|AU 69 h ?_ ?_<;>intro ff h
       ·iterate 2 refine Ac ff ?_
        refine Aa b8<|Ah (Aj ff Z)<|Ah (Aj b8 Z)<|Aw 1 Z<|Aa Z<|Ah (Af Z Zs Z C3.e)<|Aa Z<|Ah (Ag 0 Z b2 Z)<|Aa Z<|Ah (AX a)<|Aa Z<|Ah (Ad Z)<|Aa Z<|Ah (Ad Z)<|BU 4 83 (.bool ((decide ((a0.2.2.2.2.2.2.2.2.2.2.1.length:Int)=0))||(decide (a0.2.1=7)))) (fun g6=>?_) ?_
        ·refine Bl (s:=79) Z (fun di=>?_) (fun di=>?_)
         ·iterate 3 refine Ac di ?_
          refine Aa Z<|Ah (Aj di Z)<|g6.to 3 (Gh di) Z Z
         refine Aa di<|Ah (Af Z Zs Z B6.e)<|Aa di<|Ah (Ag 0 Z b2 Z)<|Aa di<|Ah (Ad Z)<|Aa Z<|Ah (An di Z)<|g6.to 3 (Gi di) Z Z
        refine Ah (Aj Z Z)<|Aw 1 Z<|Bj 85 h ?_ ?_<;>intro b3 h
        ·refine Aa b3<|Ah (Af Z Zs Z D0.e)<|Aa b3<|Ah (Ag 0 Z b2 Z)<|Aa b3<|Ah (AX b)<|Aa b3<|Ah (Ad Z)<|Aa b3<|Ah (Ad Z)<|AU 90 h ?_ ?_<;>intro fg h
         ·iterate 2 refine Ac fg ?_
          refine Aa b3<|Ah (Aj fg Z)<|Ah (Aj b3 Z)<|A4 1 Z<|Ay ?_
          cases h
          refine Ak Z ⟨b2.ext,Z⟩
         refine Aa fg<|Ah (Az 0 Z Bp.e b2 Z)<|Aa fg<|Ax h fun qz jv h=>A9 b2 (AO _ _ (Al b2) a0 (c.mono  Ai) (a.mono  Ai) (b.mono  Ai) jv) fun q0 n1 jw l8=>Aa b3<|Ah (An fg Z)<|Ah (Aj b3 Z)<|A4 1 Z<|Ay ?_
         cases h
         refine Ak Z ⟨jw.ext,Z⟩
        iterate 5 refine Ac b3 ?_
        iterate 2 refine Au ?_
        refine Ac b3<|Ah (An b3 Z)<|A4 1 Z<|Ay ?_
        cases h
        refine Ak Z ⟨b2.ext,Z⟩
       refine Aa ff<|Ah (Az 0 Z Bp.e b2 Z)<|Aa ff<|Ax h fun kl jx h=>A9 b2 (B5 (a0:=a0) _ _ (Al b2) (c.mono  Ai) (a.mono  Ai) (b.mono  Ai) jx) fun q1 n2 ds l9=>Aa b8<|Ah (An ff Z)<|Ah (Aj b8 Z)<|Aw 1 Z<|BU 10 84 (.bool (kl&&((decide ((a0.2.2.2.2.2.2.2.2.2.2.1.length:Int)=0))||(decide (a0.2.1=7))))) (fun g7=>?_) ?_
       ·refine Bl (s:=74) Z (fun bw=>?_) (fun bw=>?_)
        ·refine Aa bw<|Ah (Af Z Zs Z C3.e)<|Aa bw<|Ah (Ag 0 Z ds Z)<|Aa bw<|Ah (AX a)<|Aa bw<|Ah (Ad Z)<|Aa bw<|Ah (Ad Z)<|BU 4 83 (.bool ((decide ((a0.2.2.2.2.2.2.2.2.2.2.1.length:Int)=0))||(decide (a0.2.1=7)))) (fun g8=>?_) ?_
         ·refine Bl (s:=79) Z (fun dj=>?_) (fun dj=>?_)
          ·iterate 3 refine Ac dj ?_
           refine Aa bw<|Ah (Aj dj Z)<|g8.to 3 (Gh dj) Z Z
          refine Aa dj<|Ah (Af Z Zs Z B6.e)<|Aa dj<|Ah (Ag 0 Z ds Z)<|Aa dj<|Ah (Ad Z)<|Aa bw<|Ah (An dj Z)<|g8.to 3 (Gi dj) Z Z
         refine Ah (Aj bw Z)<|g7.to 6 (FH bw) Z Z
        iterate 5 refine Ac bw ?_
        iterate 3 refine Au ?_
        refine Ac bw<|Ah (An bw Z)<|g7.to 9 (FI bw) Z Z
       refine Aw 1 Z<|Bj 85 h ?_ ?_<;>intro b4 h
       ·refine Aa b4<|Ah (Af Z Zs Z D0.e)<|Aa b4<|Ah (Ag 0 Z ds Z)<|Aa b4<|Ah (AX b)<|Aa b4<|Ah (Ad Z)<|Aa b4<|Ah (Ad Z)<|AU 90 h ?_ ?_<;>intro fh h
        ·iterate 2 refine Ac fh ?_
         refine Aa b4<|Ah (Aj fh Z)<|Ah (Aj b4 Z)<|A4 1 Z<|Ay ?_
         cases h
         refine Ak Z ⟨ds.ext,Z⟩
        refine Aa fh<|Ah (Az 0 Z Bp.e ds Z)<|Aa fh<|Ax h fun q2 jy h=>A9 ds (AO _ _ (Al ds) a0 (c.mono  Ai) (a.mono  Ai) (b.mono  Ai) jy) fun q3 n3 jz ma=>Aa b4<|Ah (An fh Z)<|Ah (Aj b4 Z)<|A4 1 Z<|Ay ?_
        cases h
        refine Ak Z ⟨jz.ext,Z⟩
       iterate 5 refine Ac b4 ?_
       iterate 2 refine Au ?_
       refine Ac b4<|Ah (An b4 Z)<|A4 1 Z<|Ay ?_
       cases h
       refine Ak Z ⟨ds.ext,Z⟩
      iterate 4 refine Ac b8 ?_
      iterate 2 refine Au ?_
      refine Ac b8<|Ah (An b8 Z)<|Aw 1 Z ?_
      iterate 5 refine Ac Z ?_
      iterate 3 refine Au ?_
      refine Ac Z<|Ah (An Z Z)<|Aw 1 Z ?_
      iterate 5 refine Ac Z ?_
      iterate 2 refine Au ?_
      refine Ac Z<|Ah (An Z Z)<|A4 1 Z<|Ay ?_
      cases h
      refine Ak Z ⟨b2.ext,Z⟩
     refine Aa fa<|Ah (Az 0 Z Bp.e g Z)<|Aa fa<|Ax h fun q4 j0 h=>A9 g (DO (a0:=a0) _ _ (Al g) (c.mono  Ai) (a.mono  Ai) (b.mono  Ai) j0) fun q5 n4 ag mb=>Aa b7<|Ah (An fa Z)<|Ah (Aj b7 Z)<|Aw 1 Z<|Bj 56 h ?_ ?_<;>intro b9 h
     ·refine Aa b9<|Ah (Af Z Zs Z B6.e)<|Aa b9<|Ah (Ag 0 Z ag Z)<|Aa b9<|Ah (Ad Z)<|Aa b9<|Ah (Ad Z)<|AU 60 h ?_ ?_<;>intro fi h
      ·iterate 2 refine Ac fi ?_
       refine Aa b9<|Ah (Aj fi Z)<|Ah (Aj b9 Z)<|Aw 1 Z<|Aa Z<|Ah (Af Z Zs Z B6.e)<|Aa Z<|Ah (Ag 0 Z ag Z)<|Aa Z<|Ah (Ad Z)<|Aa Z<|Ah (Ad Z)<|AU 69 h ?_ ?_<;>intro fj h
       ·iterate 2 refine Ac fj ?_
        refine Aa Z<|Ah (Aj fj Z)<|Ah (Aj Z Z)<|Aw 1 Z<|Aa Z<|Ah (Af Z Zs Z C3.e)<|Aa Z<|Ah (Ag 0 Z ag Z)<|Aa Z<|Ah (AX a)<|Aa Z<|Ah (Ad Z)<|Aa Z<|Ah (Ad Z)<|BU 4 83 (.bool ((decide ((a0.2.2.2.2.2.2.2.2.2.2.1.length:Int)=0))||(decide (a0.2.1=7)))) (fun g9=>?_) ?_
        ·refine Bl (s:=79) Z (fun dk=>?_) (fun dk=>?_)
         ·iterate 3 refine Ac dk ?_
          refine Aa Z<|Ah (Aj dk Z)<|g9.to 3 (Gh dk) Z Z
         refine Aa dk<|Ah (Af Z Zs Z B6.e)<|Aa dk<|Ah (Ag 0 Z ag Z)<|Aa dk<|Ah (Ad Z)<|Aa Z<|Ah (An dk Z)<|g9.to 3 (Gi dk) Z Z
        refine Ah (Aj Z Z)<|Aw 1 Z<|Bj 85 h ?_ ?_<;>intro b5 h
        ·refine Aa b5<|Ah (Af Z Zs Z D0.e)<|Aa b5<|Ah (Ag 0 Z ag Z)<|Aa b5<|Ah (AX b)<|Aa b5<|Ah (Ad Z)<|Aa b5<|Ah (Ad Z)<|AU 90 h ?_ ?_<;>intro fk h
         ·iterate 2 refine Ac fk ?_
          refine Aa b5<|Ah (Aj fk Z)<|Ah (Aj b5 Z)<|A4 1 Z<|Ay ?_
          cases h
          refine Ak Z ⟨ag.ext,Z⟩
         refine Aa fk<|Ah (Az 0 Z Bp.e ag Z)<|Aa fk<|Ax h fun q6 j1 h=>A9 ag (AO _ _ (Al ag) a0 (c.mono  Ai) (a.mono  Ai) (b.mono  Ai) j1) fun q7 n5 j2 mc=>Aa b5<|Ah (An fk Z)<|Ah (Aj b5 Z)<|A4 1 Z<|Ay ?_
         cases h
         refine Ak Z ⟨j2.ext,Z⟩
        iterate 5 refine Ac b5 ?_
        iterate 2 refine Au ?_
        refine Ac b5<|Ah (An b5 Z)<|A4 1 Z<|Ay ?_
        cases h
        refine Ak Z ⟨ag.ext,Z⟩
       refine Aa fj<|Ah (Az 0 Z Bp.e ag Z)<|Aa fj<|Ax h fun km j3 h=>A9 ag (B5 (a0:=a0) _ _ (Al ag) (c.mono  Ai) (a.mono  Ai) (b.mono  Ai) j3) fun q8 n6 dt md=>Aa Z<|Ah (An fj Z)<|Ah (Aj Z Z)<|Aw 1 Z<|BU 10 84 (.bool (km&&((decide ((a0.2.2.2.2.2.2.2.2.2.2.1.length:Int)=0))||(decide (a0.2.1=7))))) (fun ha=>?_) ?_
       ·refine Bl (s:=74) Z (fun bx=>?_) (fun bx=>?_)
        ·refine Aa bx<|Ah (Af Z Zs Z C3.e)<|Aa bx<|Ah (Ag 0 Z dt Z)<|Aa bx<|Ah (AX a)<|Aa bx<|Ah (Ad Z)<|Aa bx<|Ah (Ad Z)<|BU 4 83 (.bool ((decide ((a0.2.2.2.2.2.2.2.2.2.2.1.length:Int)=0))||(decide (a0.2.1=7)))) (fun hb=>?_) ?_
         ·refine Bl (s:=79) Z (fun dl=>?_) (fun dl=>?_)
          ·iterate 3 refine Ac dl ?_
           refine Aa bx<|Ah (Aj dl Z)<|hb.to 3 (Gh dl) Z Z
          refine Aa dl<|Ah (Af Z Zs Z B6.e)<|Aa dl<|Ah (Ag 0 Z dt Z)<|Aa dl<|Ah (Ad Z)<|Aa bx<|Ah (An dl Z)<|hb.to 3 (Gi dl) Z Z
         refine Ah (Aj bx Z)<|ha.to 6 (FH bx) Z Z
        iterate 5 refine Ac bx ?_
        iterate 3 refine Au ?_
        refine Ac bx<|Ah (An bx Z)<|ha.to 9 (FI bx) Z Z
       refine Aw 1 Z<|Bj 85 h ?_ ?_<;>intro b6 h
       ·refine Aa b6<|Ah (Af Z Zs Z D0.e)<|Aa b6<|Ah (Ag 0 Z dt Z)<|Aa b6<|Ah (AX b)<|Aa b6<|Ah (Ad Z)<|Aa b6<|Ah (Ad Z)<|AU 90 h ?_ ?_<;>intro fl h
        ·iterate 2 refine Ac fl ?_
         refine Aa b6<|Ah (Aj fl Z)<|Ah (Aj b6 Z)<|A4 1 Z<|Ay ?_
         cases h
         refine Ak Z ⟨dt.ext,Z⟩
        refine Aa fl<|Ah (Az 0 Z Bp.e dt Z)<|Aa fl<|Ax h fun q9 j4 h=>A9 dt (AO _ _ (Al dt) a0 (c.mono  Ai) (a.mono  Ai) (b.mono  Ai) j4) fun n7 me hc kn=>Aa b6<|Ah (An fl Z)<|Ah (Aj b6 Z)<|A4 1 Z<|Ay ?_
        cases h
        refine Ak Z ⟨hc.ext,Z⟩
       iterate 5 refine Ac b6 ?_
       iterate 2 refine Au ?_
       refine Ac b6<|Ah (An b6 Z)<|A4 1 Z<|Ay ?_
       cases h
       refine Ak Z ⟨dt.ext,Z⟩
      refine Aa fi<|Ah (Az 0 Z Bp.e ag Z)<|Aa fi<|Ax h fun n8 hd h=>A9 ag (BL (a0:=a0) _ _ (Al ag) (c.mono  Ai) (a.mono  Ai) (b.mono  Ai) hd) fun n9 mf ah ko=>Aa b9<|Ah (An fi Z)<|Ah (Aj b9 Z)<|Aw 1 Z<|Bj 65 h ?_ ?_<;>intro bh h
      ·refine Aa bh<|Ah (Af Z Zs Z B6.e)<|Aa bh<|Ah (Ag 0 Z ah Z)<|Aa bh<|Ah (Ad Z)<|Aa bh<|Ah (Ad Z)<|AU 69 h ?_ ?_<;>intro du h
       ·iterate 2 refine Ac du ?_
        refine Aa bh<|Ah (Aj du Z)<|Ah (Aj bh Z)<|Aw 1 Z<|Aa Z<|Ah (Af Z Zs Z C3.e)<|Aa Z<|Ah (Ag 0 Z ah Z)<|Aa Z<|Ah (AX a)<|Aa Z<|Ah (Ad Z)<|Aa Z<|Ah (Ad Z)<|BU 4 83 (.bool ((decide ((a0.2.2.2.2.2.2.2.2.2.2.1.length:Int)=0))||(decide (a0.2.1=7)))) (fun fr=>?_) ?_
        ·refine Bl (s:=79) Z (fun ca=>?_) (fun ca=>?_)
         ·iterate 3 refine Ac ca ?_
          refine Aa Z<|Ah (Aj ca Z)<|fr.to 3 (Gh ca) Z Z
         refine Aa ca<|Ah (Af Z Zs Z B6.e)<|Aa ca<|Ah (Ag 0 Z ah Z)<|Aa ca<|Ah (Ad Z)<|Aa Z<|Ah (An ca Z)<|fr.to 3 (Gi ca) Z Z
        refine Ah (Aj Z Z)<|Aw 1 Z<|Bj 85 h ?_ ?_<;>intro ai h
        ·refine Aa ai<|Ah (Af Z Zs Z D0.e)<|Aa ai<|Ah (Ag 0 Z ah Z)<|Aa ai<|Ah (AX b)<|Aa ai<|Ah (Ad Z)<|Aa ai<|Ah (Ad Z)<|AU 90 h ?_ ?_<;>intro dv h
         ·iterate 2 refine Ac dv ?_
          refine Aa ai<|Ah (Aj dv Z)<|Ah (Aj ai Z)<|A4 1 Z<|Ay ?_
          cases h
          refine Ak Z ⟨ah.ext,Z⟩
         refine Aa dv<|Ah (Az 0 Z Bp.e ah Z)<|Aa dv<|Ax h fun oa he h=>A9 ah (AO _ _ (Al ah) a0 (c.mono  Ai) (a.mono  Ai) (b.mono  Ai) he) fun ob mg hf kp=>Aa ai<|Ah (An dv Z)<|Ah (Aj ai Z)<|A4 1 Z<|Ay ?_
         cases h
         refine Ak Z ⟨hf.ext,Z⟩
        iterate 5 refine Ac ai ?_
        iterate 2 refine Au ?_
        refine Ac ai<|Ah (An ai Z)<|A4 1 Z<|Ay ?_
        cases h
        refine Ak Z ⟨ah.ext,Z⟩
       refine Aa du<|Ah (Az 0 Z Bp.e ah Z)<|Aa du<|Ax h fun j5 hg h=>A9 ah (B5 (a0:=a0) _ _ (Al ah) (c.mono  Ai) (a.mono  Ai) (b.mono  Ai) hg) fun oc mh c3 kq=>Aa bh<|Ah (An du Z)<|Ah (Aj bh Z)<|Aw 1 Z<|BU 10 84 (.bool (j5&&((decide ((a0.2.2.2.2.2.2.2.2.2.2.1.length:Int)=0))||(decide (a0.2.1=7))))) (fun fs=>?_) ?_
       ·refine Bl (s:=74) Z (fun o=>?_) (fun o=>?_)
        ·refine Aa o<|Ah (Af Z Zs Z C3.e)<|Aa o<|Ah (Ag 0 Z c3 Z)<|Aa o<|Ah (AX a)<|Aa o<|Ah (Ad Z)<|Aa o<|Ah (Ad Z)<|BU 4 83 (.bool ((decide ((a0.2.2.2.2.2.2.2.2.2.2.1.length:Int)=0))||(decide (a0.2.1=7)))) (fun ft=>?_) ?_
         ·refine Bl (s:=79) Z (fun cb=>?_) (fun cb=>?_)
          ·iterate 3 refine Ac cb ?_
           refine Aa o<|Ah (Aj cb Z)<|ft.to 3 (Gh cb) Z Z
          refine Aa cb<|Ah (Af Z Zs Z B6.e)<|Aa cb<|Ah (Ag 0 Z c3 Z)<|Aa cb<|Ah (Ad Z)<|Aa o<|Ah (An cb Z)<|ft.to 3 (Gi cb) Z Z
         refine Ah (Aj o Z)<|fs.to 6 (FH o) Z Z
        iterate 5 refine Ac o ?_
        iterate 3 refine Au ?_
        refine Ac o<|Ah (An o Z)<|fs.to 9 (FI o) Z Z
       refine Aw 1 Z<|Bj 85 h ?_ ?_<;>intro aj h
       ·refine Aa aj<|Ah (Af Z Zs Z D0.e)<|Aa aj<|Ah (Ag 0 Z c3 Z)<|Aa aj<|Ah (AX b)<|Aa aj<|Ah (Ad Z)<|Aa aj<|Ah (Ad Z)<|AU 90 h ?_ ?_<;>intro dw h
        ·iterate 2 refine Ac dw ?_
         refine Aa aj<|Ah (Aj dw Z)<|Ah (Aj aj Z)<|A4 1 Z<|Ay ?_
         cases h
         refine Ak Z ⟨c3.ext,Z⟩
        refine Aa dw<|Ah (Az 0 Z Bp.e c3 Z)<|Aa dw<|Ax h fun od hh h=>A9 c3 (AO _ _ (Al c3) a0 (c.mono  Ai) (a.mono  Ai) (b.mono  Ai) hh) fun oe mi hi kr=>Aa aj<|Ah (An dw Z)<|Ah (Aj aj Z)<|A4 1 Z<|Ay ?_
        cases h
        refine Ak Z ⟨hi.ext,Z⟩
       iterate 5 refine Ac aj ?_
       iterate 2 refine Au ?_
       refine Ac aj<|Ah (An aj Z)<|A4 1 Z<|Ay ?_
       cases h
       refine Ak Z ⟨c3.ext,Z⟩
      iterate 4 refine Ac bh ?_
      iterate 2 refine Au ?_
      refine Ac bh<|Ah (An bh Z)<|Aw 1 Z ?_
      iterate 5 refine Ac Z ?_
      iterate 3 refine Au ?_
      refine Ac Z<|Ah (An Z Z)<|Aw 1 Z ?_
      iterate 5 refine Ac Z ?_
      iterate 2 refine Au ?_
      refine Ac Z<|Ah (An Z Z)<|A4 1 Z<|Ay ?_
      cases h
      refine Ak Z ⟨ah.ext,Z⟩
     iterate 4 refine Ac b9 ?_
     iterate 2 refine Au ?_
     refine Ac b9<|Ah (An b9 Z)<|Aw 1 Z ?_
     iterate 4 refine Ac Z ?_
     iterate 2 refine Au ?_
     refine Ac Z<|Ah (An Z Z)<|Aw 1 Z ?_
     iterate 5 refine Ac Z ?_
     iterate 3 refine Au ?_
     refine Ac Z<|Ah (An Z Z)<|Aw 1 Z ?_
     iterate 5 refine Ac Z ?_
     iterate 2 refine Au ?_
     refine Ac Z<|Ah (An Z Z)<|A4 1 Z<|Ay ?_
     cases h
     refine Ak Z ⟨ag.ext,Z⟩
    iterate 4 refine Ac b7 ?_
    iterate 2 refine Au ?_
    refine Ac b7<|Ah (An b7 Z)<|Aw 1 Z ?_
    iterate 4 refine Ac Z ?_
    iterate 2 refine Au ?_
    refine Ac Z<|Ah (An Z Z)<|Aw 1 Z ?_
    iterate 4 refine Ac Z ?_
    iterate 2 refine Au ?_
    refine Ac Z<|Ah (An Z Z)<|Aw 1 Z ?_
    iterate 5 refine Ac Z ?_
    iterate 3 refine Au ?_
    refine Ac Z<|Ah (An Z Z)<|Aw 1 Z ?_
    iterate 5 refine Ac Z ?_
    iterate 2 refine Au ?_
    refine Ac Z<|Ah (An Z Z)<|A4 1 Z<|Ay ?_
    cases h
    refine Ak Z ⟨g.ext,Z⟩
   refine Aa fn<|Ah (Az 0 Z Bp.e g Z)<|Aa fn<|Ax h fun j6 hj h=>A9 g (Gx (a0:=a0) _ _ (Al g) (c.mono  Ai) (a.mono  Ai) (b.mono  Ai) hj) fun og mj e ks=>Aa Z<|Ah (An fn Z)<|Ah (Aj Z Z)<|Aw 1 Z<|BU 12 46 (.bool (j6&&(((!a0.2.2.2.2.1)&&(decide (a0.2.2.2.2.2.1=0)))||(decide (a0.2.1=2))))) (fun fu=>?_) ?_
   ·refine Bl (s:=34) Z (fun i=>?_) (fun i=>?_)
    ·refine Aa i<|Ah (Af Z Zs Z Fa.e)<|Aa i<|Ah (Ag 0 Z e Z)<|Aa i<|Ah (Ad Z)<|Aa i<|Ah (Ad Z)<|BU 4 42 (.bool ((!a0.2.2.2.2.1)&&(decide (a0.2.2.2.2.2.1=0)))) (fun fv=>?_) ?_
     ·refine Bl (s:=38) Z (fun cc=>?_) (fun cc=>?_)
      ·refine Aa cc<|Ah (Af Z Zs Z B6.e)<|Aa cc<|Ah (Ag 0 Z e Z)<|Aa cc<|Ah (Ad Z)<|Aa i<|Ah (Aj cc Z)<|fv.to 3 (FH cc) Z Z
      iterate 3 refine Ac cc ?_
      refine Aa i<|Ah (An cc Z)<|fv.to 3 (FI cc) Z Z
     refine Aa i<|Ah (Ad Z)<|BU 2 45 (.bool (((!a0.2.2.2.2.1)&&(decide (a0.2.2.2.2.2.1=0)))||(decide (a0.2.1=2)))) (fun fw=>?_) ?_
     ·refine Bl (s:=43) Z (fun dm=>?_) (fun dm=>?_)
      ·refine Ac dm<|Aa i<|Ah (Aj dm Z)<|fw.to 1 (Gh dm) Z Z
      refine Aa dm<|Ah (Ad Z)<|Aa i<|Ah (An dm Z)<|fw.to 1 (Gi dm) Z Z
     refine Ah (Aj i Z)<|fu.to 7 (FH i) Z Z
    iterate 4 refine Ac i ?_
    iterate 3 refine Au ?_
    iterate 2 refine Ac i ?_
    refine Au<|Ac i<|Ah (An i Z)<|fu.to 11 (FI i) Z Z
   refine Aw 1 Z<|Bj 47 h ?_ ?_<;>intro bi h
   ·refine Aa bi<|Ah (Af Z Zs Z B6.e)<|Aa bi<|Ah (Ag 0 Z e Z)<|Aa bi<|Ah (Ad Z)<|Aa bi<|Ah (Ad Z)<|AU 51 h ?_ ?_<;>intro dx h
    ·iterate 2 refine Ac dx ?_
     refine Aa bi<|Ah (Aj dx Z)<|Ah (Aj bi Z)<|Aw 1 Z<|Aa Z<|Ah (Af Z Zs Z B6.e)<|Aa Z<|Ah (Ag 0 Z e Z)<|Aa Z<|Ah (Ad Z)<|Aa Z<|Ah (Ad Z)<|AU 60 h ?_ ?_<;>intro dy h
     ·iterate 2 refine Ac dy ?_
      refine Aa Z<|Ah (Aj dy Z)<|Ah (Aj Z Z)<|Aw 1 Z<|Aa Z<|Ah (Af Z Zs Z B6.e)<|Aa Z<|Ah (Ag 0 Z e Z)<|Aa Z<|Ah (Ad Z)<|Aa Z<|Ah (Ad Z)<|AU 69 h ?_ ?_<;>intro dz h
      ·iterate 2 refine Ac dz ?_
       refine Aa Z<|Ah (Aj dz Z)<|Ah (Aj Z Z)<|Aw 1 Z<|Aa Z<|Ah (Af Z Zs Z C3.e)<|Aa Z<|Ah (Ag 0 Z e Z)<|Aa Z<|Ah (AX a)<|Aa Z<|Ah (Ad Z)<|Aa Z<|Ah (Ad Z)<|BU 4 83 (.bool ((decide ((a0.2.2.2.2.2.2.2.2.2.2.1.length:Int)=0))||(decide (a0.2.1=7)))) (fun fx=>?_) ?_
       ·refine Bl (s:=79) Z (fun cd=>?_) (fun cd=>?_)
        ·iterate 3 refine Ac cd ?_
         refine Aa Z<|Ah (Aj cd Z)<|fx.to 3 (Gh cd) Z Z
        refine Aa cd<|Ah (Af Z Zs Z B6.e)<|Aa cd<|Ah (Ag 0 Z e Z)<|Aa cd<|Ah (Ad Z)<|Aa Z<|Ah (An cd Z)<|fx.to 3 (Gi cd) Z Z
       refine Ah (Aj Z Z)<|Aw 1 Z<|Bj 85 h ?_ ?_<;>intro ak h
       ·refine Aa ak<|Ah (Af Z Zs Z D0.e)<|Aa ak<|Ah (Ag 0 Z e Z)<|Aa ak<|Ah (AX b)<|Aa ak<|Ah (Ad Z)<|Aa ak<|Ah (Ad Z)<|AU 90 h ?_ ?_<;>intro d0 h
        ·iterate 2 refine Ac d0 ?_
         refine Aa ak<|Ah (Aj d0 Z)<|Ah (Aj ak Z)<|A4 1 Z<|Ay ?_
         cases h
         refine Ak Z ⟨e.ext,Z⟩
        refine Aa d0<|Ah (Az 0 Z Bp.e e Z)<|Aa d0<|Ax h fun oh hk h=>A9 e (AO _ _ (Al e) a0 (c.mono  Ai) (a.mono  Ai) (b.mono  Ai) hk) fun oi mk hl kt=>Aa ak<|Ah (An d0 Z)<|Ah (Aj ak Z)<|A4 1 Z<|Ay ?_
        cases h
        refine Ak Z ⟨hl.ext,Z⟩
       iterate 5 refine Ac ak ?_
       iterate 2 refine Au ?_
       refine Ac ak<|Ah (An ak Z)<|A4 1 Z<|Ay ?_
       cases h
       refine Ak Z ⟨e.ext,Z⟩
      refine Aa dz<|Ah (Az 0 Z Bp.e e Z)<|Aa dz<|Ax h fun j7 hm h=>A9 e (B5 (a0:=a0) _ _ (Al e) (c.mono  Ai) (a.mono  Ai) (b.mono  Ai) hm) fun oj ml c4 ku=>Aa Z<|Ah (An dz Z)<|Ah (Aj Z Z)<|Aw 1 Z<|BU 10 84 (.bool (j7&&((decide ((a0.2.2.2.2.2.2.2.2.2.2.1.length:Int)=0))||(decide (a0.2.1=7))))) (fun fy=>?_) ?_
      ·refine Bl (s:=74) Z (fun p=>?_) (fun p=>?_)
       ·refine Aa p<|Ah (Af Z Zs Z C3.e)<|Aa p<|Ah (Ag 0 Z c4 Z)<|Aa p<|Ah (AX a)<|Aa p<|Ah (Ad Z)<|Aa p<|Ah (Ad Z)<|BU 4 83 (.bool ((decide ((a0.2.2.2.2.2.2.2.2.2.2.1.length:Int)=0))||(decide (a0.2.1=7)))) (fun fz=>?_) ?_
        ·refine Bl (s:=79) Z (fun ce=>?_) (fun ce=>?_)
         ·iterate 3 refine Ac ce ?_
          refine Aa p<|Ah (Aj ce Z)<|fz.to 3 (Gh ce) Z Z
         refine Aa ce<|Ah (Af Z Zs Z B6.e)<|Aa ce<|Ah (Ag 0 Z c4 Z)<|Aa ce<|Ah (Ad Z)<|Aa p<|Ah (An ce Z)<|fz.to 3 (Gi ce) Z Z
        refine Ah (Aj p Z)<|fy.to 6 (FH p) Z Z
       iterate 5 refine Ac p ?_
       iterate 3 refine Au ?_
       refine Ac p<|Ah (An p Z)<|fy.to 9 (FI p) Z Z
      refine Aw 1 Z<|Bj 85 h ?_ ?_<;>intro al h
      ·refine Aa al<|Ah (Af Z Zs Z D0.e)<|Aa al<|Ah (Ag 0 Z c4 Z)<|Aa al<|Ah (AX b)<|Aa al<|Ah (Ad Z)<|Aa al<|Ah (Ad Z)<|AU 90 h ?_ ?_<;>intro d1 h
       ·iterate 2 refine Ac d1 ?_
        refine Aa al<|Ah (Aj d1 Z)<|Ah (Aj al Z)<|A4 1 Z<|Ay ?_
        cases h
        refine Ak Z ⟨c4.ext,Z⟩
       refine Aa d1<|Ah (Az 0 Z Bp.e c4 Z)<|Aa d1<|Ax h fun ok hn h=>A9 c4 (AO _ _ (Al c4) a0 (c.mono  Ai) (a.mono  Ai) (b.mono  Ai) hn) fun ol mm ho kv=>Aa al<|Ah (An d1 Z)<|Ah (Aj al Z)<|A4 1 Z<|Ay ?_
       cases h
       refine Ak Z ⟨ho.ext,Z⟩
      iterate 5 refine Ac al ?_
      iterate 2 refine Au ?_
      refine Ac al<|Ah (An al Z)<|A4 1 Z<|Ay ?_
      cases h
      refine Ak Z ⟨c4.ext,Z⟩
     refine Aa dy<|Ah (Az 0 Z Bp.e e Z)<|Aa dy<|Ax h fun om hq h=>A9 e (BL (a0:=a0) _ _ (Al e) (c.mono  Ai) (a.mono  Ai) (b.mono  Ai) hq) fun oo mn am kw=>Aa Z<|Ah (An dy Z)<|Ah (Aj Z Z)<|Aw 1 Z<|Bj 65 h ?_ ?_<;>intro bj h
     ·refine Aa bj<|Ah (Af Z Zs Z B6.e)<|Aa bj<|Ah (Ag 0 Z am Z)<|Aa bj<|Ah (Ad Z)<|Aa bj<|Ah (Ad Z)<|AU 69 h ?_ ?_<;>intro d2 h
      ·iterate 2 refine Ac d2 ?_
       refine Aa bj<|Ah (Aj d2 Z)<|Ah (Aj bj Z)<|Aw 1 Z<|Aa Z<|Ah (Af Z Zs Z C3.e)<|Aa Z<|Ah (Ag 0 Z am Z)<|Aa Z<|Ah (AX a)<|Aa Z<|Ah (Ad Z)<|Aa Z<|Ah (Ad Z)<|BU 4 83 (.bool ((decide ((a0.2.2.2.2.2.2.2.2.2.2.1.length:Int)=0))||(decide (a0.2.1=7)))) (fun f0=>?_) ?_
       ·refine Bl (s:=79) Z (fun cf=>?_) (fun cf=>?_)
        ·iterate 3 refine Ac cf ?_
         refine Aa Z<|Ah (Aj cf Z)<|f0.to 3 (Gh cf) Z Z
        refine Aa cf<|Ah (Af Z Zs Z B6.e)<|Aa cf<|Ah (Ag 0 Z am Z)<|Aa cf<|Ah (Ad Z)<|Aa Z<|Ah (An cf Z)<|f0.to 3 (Gi cf) Z Z
       refine Ah (Aj Z Z)<|Aw 1 Z<|Bj 85 h ?_ ?_<;>intro an h
       ·refine Aa an<|Ah (Af Z Zs Z D0.e)<|Aa an<|Ah (Ag 0 Z am Z)<|Aa an<|Ah (AX b)<|Aa an<|Ah (Ad Z)<|Aa an<|Ah (Ad Z)<|AU 90 h ?_ ?_<;>intro d3 h
        ·iterate 2 refine Ac d3 ?_
         refine Aa an<|Ah (Aj d3 Z)<|Ah (Aj an Z)<|A4 1 Z<|Ay ?_
         cases h
         refine Ak Z ⟨am.ext,Z⟩
        refine Aa d3<|Ah (Az 0 Z Bp.e am Z)<|Aa d3<|Ax h fun op hr h=>A9 am (AO _ _ (Al am) a0 (c.mono  Ai) (a.mono  Ai) (b.mono  Ai) hr) fun oq mo hs kx=>Aa an<|Ah (An d3 Z)<|Ah (Aj an Z)<|A4 1 Z<|Ay ?_
        cases h
        refine Ak Z ⟨hs.ext,Z⟩
       iterate 5 refine Ac an ?_
       iterate 2 refine Au ?_
       refine Ac an<|Ah (An an Z)<|A4 1 Z<|Ay ?_
       cases h
       refine Ak Z ⟨am.ext,Z⟩
      refine Aa d2<|Ah (Az 0 Z Bp.e am Z)<|Aa d2<|Ax h fun j8 ht h=>A9 am (B5 (a0:=a0) _ _ (Al am) (c.mono  Ai) (a.mono  Ai) (b.mono  Ai) ht) fun os mp c5 ky=>Aa bj<|Ah (An d2 Z)<|Ah (Aj bj Z)<|Aw 1 Z<|BU 10 84 (.bool (j8&&((decide ((a0.2.2.2.2.2.2.2.2.2.2.1.length:Int)=0))||(decide (a0.2.1=7))))) (fun f1=>?_) ?_
      ·refine Bl (s:=74) Z (fun q=>?_) (fun q=>?_)
       ·refine Aa q<|Ah (Af Z Zs Z C3.e)<|Aa q<|Ah (Ag 0 Z c5 Z)<|Aa q<|Ah (AX a)<|Aa q<|Ah (Ad Z)<|Aa q<|Ah (Ad Z)<|BU 4 83 (.bool ((decide ((a0.2.2.2.2.2.2.2.2.2.2.1.length:Int)=0))||(decide (a0.2.1=7)))) (fun f2=>?_) ?_
        ·refine Bl (s:=79) Z (fun cg=>?_) (fun cg=>?_)
         ·iterate 3 refine Ac cg ?_
          refine Aa q<|Ah (Aj cg Z)<|f2.to 3 (Gh cg) Z Z
         refine Aa cg<|Ah (Af Z Zs Z B6.e)<|Aa cg<|Ah (Ag 0 Z c5 Z)<|Aa cg<|Ah (Ad Z)<|Aa q<|Ah (An cg Z)<|f2.to 3 (Gi cg) Z Z
        refine Ah (Aj q Z)<|f1.to 6 (FH q) Z Z
       iterate 5 refine Ac q ?_
       iterate 3 refine Au ?_
       refine Ac q<|Ah (An q Z)<|f1.to 9 (FI q) Z Z
      refine Aw 1 Z<|Bj 85 h ?_ ?_<;>intro ao h
      ·refine Aa ao<|Ah (Af Z Zs Z D0.e)<|Aa ao<|Ah (Ag 0 Z c5 Z)<|Aa ao<|Ah (AX b)<|Aa ao<|Ah (Ad Z)<|Aa ao<|Ah (Ad Z)<|AU 90 h ?_ ?_<;>intro d4 h
       ·iterate 2 refine Ac d4 ?_
        refine Aa ao<|Ah (Aj d4 Z)<|Ah (Aj ao Z)<|A4 1 Z<|Ay ?_
        cases h
        refine Ak Z ⟨c5.ext,Z⟩
       refine Aa d4<|Ah (Az 0 Z Bp.e c5 Z)<|Aa d4<|Ax h fun ot hu h=>A9 c5 (AO _ _ (Al c5) a0 (c.mono  Ai) (a.mono  Ai) (b.mono  Ai) hu) fun ou mq hv kz=>Aa ao<|Ah (An d4 Z)<|Ah (Aj ao Z)<|A4 1 Z<|Ay ?_
       cases h
       refine Ak Z ⟨hv.ext,Z⟩
      iterate 5 refine Ac ao ?_
      iterate 2 refine Au ?_
      refine Ac ao<|Ah (An ao Z)<|A4 1 Z<|Ay ?_
      cases h
      refine Ak Z ⟨c5.ext,Z⟩
     iterate 4 refine Ac bj ?_
     iterate 2 refine Au ?_
     refine Ac bj<|Ah (An bj Z)<|Aw 1 Z ?_
     iterate 5 refine Ac Z ?_
     iterate 3 refine Au ?_
     refine Ac Z<|Ah (An Z Z)<|Aw 1 Z ?_
     iterate 5 refine Ac Z ?_
     iterate 2 refine Au ?_
     refine Ac Z<|Ah (An Z Z)<|A4 1 Z<|Ay ?_
     cases h
     refine Ak Z ⟨am.ext,Z⟩
    refine Aa dx<|Ah (Az 0 Z Bp.e e Z)<|Aa dx<|Ax h fun ov hw h=>A9 e (DO (a0:=a0) _ _ (Al e) (c.mono  Ai) (a.mono  Ai) (b.mono  Ai) hw) fun ow mr j k0=>Aa bi<|Ah (An dx Z)<|Ah (Aj bi Z)<|Aw 1 Z<|Bj 56 h ?_ ?_<;>intro bk h
    ·refine Aa bk<|Ah (Af Z Zs Z B6.e)<|Aa bk<|Ah (Ag 0 Z j Z)<|Aa bk<|Ah (Ad Z)<|Aa bk<|Ah (Ad Z)<|AU 60 h ?_ ?_<;>intro d5 h
     ·iterate 2 refine Ac d5 ?_
      refine Aa bk<|Ah (Aj d5 Z)<|Ah (Aj bk Z)<|Aw 1 Z<|Aa Z<|Ah (Af Z Zs Z B6.e)<|Aa Z<|Ah (Ag 0 Z j Z)<|Aa Z<|Ah (Ad Z)<|Aa Z<|Ah (Ad Z)<|AU 69 h ?_ ?_<;>intro d6 h
      ·iterate 2 refine Ac d6 ?_
       refine Aa Z<|Ah (Aj d6 Z)<|Ah (Aj Z Z)<|Aw 1 Z<|Aa Z<|Ah (Af Z Zs Z C3.e)<|Aa Z<|Ah (Ag 0 Z j Z)<|Aa Z<|Ah (AX a)<|Aa Z<|Ah (Ad Z)<|Aa Z<|Ah (Ad Z)<|BU 4 83 (.bool ((decide ((a0.2.2.2.2.2.2.2.2.2.2.1.length:Int)=0))||(decide (a0.2.1=7)))) (fun f3=>?_) ?_
       ·refine Bl (s:=79) Z (fun ch=>?_) (fun ch=>?_)
        ·iterate 3 refine Ac ch ?_
         refine Aa Z<|Ah (Aj ch Z)<|f3.to 3 (Gh ch) Z Z
        refine Aa ch<|Ah (Af Z Zs Z B6.e)<|Aa ch<|Ah (Ag 0 Z j Z)<|Aa ch<|Ah (Ad Z)<|Aa Z<|Ah (An ch Z)<|f3.to 3 (Gi ch) Z Z
       refine Ah (Aj Z Z)<|Aw 1 Z<|Bj 85 h ?_ ?_<;>intro ap h
       ·refine Aa ap<|Ah (Af Z Zs Z D0.e)<|Aa ap<|Ah (Ag 0 Z j Z)<|Aa ap<|Ah (AX b)<|Aa ap<|Ah (Ad Z)<|Aa ap<|Ah (Ad Z)<|AU 90 h ?_ ?_<;>intro d7 h
        ·iterate 2 refine Ac d7 ?_
         refine Aa ap<|Ah (Aj d7 Z)<|Ah (Aj ap Z)<|A4 1 Z<|Ay ?_
         cases h
         refine Ak Z ⟨j.ext,Z⟩
        refine Aa d7<|Ah (Az 0 Z Bp.e j Z)<|Aa d7<|Ax h fun ox hx h=>A9 j (AO _ _ (Al j) a0 (c.mono  Ai) (a.mono  Ai) (b.mono  Ai) hx) fun oy ms hy k1=>Aa ap<|Ah (An d7 Z)<|Ah (Aj ap Z)<|A4 1 Z<|Ay ?_
        cases h
        refine Ak Z ⟨hy.ext,Z⟩
       iterate 5 refine Ac ap ?_
       iterate 2 refine Au ?_
       refine Ac ap<|Ah (An ap Z)<|A4 1 Z<|Ay ?_
       cases h
       refine Ak Z ⟨j.ext,Z⟩
      refine Aa d6<|Ah (Az 0 Z Bp.e j Z)<|Aa d6<|Ax h fun j9 hz h=>A9 j (B5 (a0:=a0) _ _ (Al j) (c.mono  Ai) (a.mono  Ai) (b.mono  Ai) hz) fun oz mt c6 k2=>Aa Z<|Ah (An d6 Z)<|Ah (Aj Z Z)<|Aw 1 Z<|BU 10 84 (.bool (j9&&((decide ((a0.2.2.2.2.2.2.2.2.2.2.1.length:Int)=0))||(decide (a0.2.1=7))))) (fun f4=>?_) ?_
      ·refine Bl (s:=74) Z (fun u=>?_) (fun u=>?_)
       ·refine Aa u<|Ah (Af Z Zs Z C3.e)<|Aa u<|Ah (Ag 0 Z c6 Z)<|Aa u<|Ah (AX a)<|Aa u<|Ah (Ad Z)<|Aa u<|Ah (Ad Z)<|BU 4 83 (.bool ((decide ((a0.2.2.2.2.2.2.2.2.2.2.1.length:Int)=0))||(decide (a0.2.1=7)))) (fun f5=>?_) ?_
        ·refine Bl (s:=79) Z (fun ci=>?_) (fun ci=>?_)
         ·iterate 3 refine Ac ci ?_
          refine Aa u<|Ah (Aj ci Z)<|f5.to 3 (Gh ci) Z Z
         refine Aa ci<|Ah (Af Z Zs Z B6.e)<|Aa ci<|Ah (Ag 0 Z c6 Z)<|Aa ci<|Ah (Ad Z)<|Aa u<|Ah (An ci Z)<|f5.to 3 (Gi ci) Z Z
        refine Ah (Aj u Z)<|f4.to 6 (FH u) Z Z
       iterate 5 refine Ac u ?_
       iterate 3 refine Au ?_
       refine Ac u<|Ah (An u Z)<|f4.to 9 (FI u) Z Z
      refine Aw 1 Z<|Bj 85 h ?_ ?_<;>intro aq h
      ·refine Aa aq<|Ah (Af Z Zs Z D0.e)<|Aa aq<|Ah (Ag 0 Z c6 Z)<|Aa aq<|Ah (AX b)<|Aa aq<|Ah (Ad Z)<|Aa aq<|Ah (Ad Z)<|AU 90 h ?_ ?_<;>intro d8 h
       ·iterate 2 refine Ac d8 ?_
        refine Aa aq<|Ah (Aj d8 Z)<|Ah (Aj aq Z)<|A4 1 Z<|Ay ?_
        cases h
        refine Ak Z ⟨c6.ext,Z⟩
       refine Aa d8<|Ah (Az 0 Z Bp.e c6 Z)<|Aa d8<|Ax h fun o0 h0 h=>A9 c6 (AO _ _ (Al c6) a0 (c.mono  Ai) (a.mono  Ai) (b.mono  Ai) h0) fun o1 mu h1 k3=>Aa aq<|Ah (An d8 Z)<|Ah (Aj aq Z)<|A4 1 Z<|Ay ?_
       cases h
       refine Ak Z ⟨h1.ext,Z⟩
      iterate 5 refine Ac aq ?_
      iterate 2 refine Au ?_
      refine Ac aq<|Ah (An aq Z)<|A4 1 Z<|Ay ?_
      cases h
      refine Ak Z ⟨c6.ext,Z⟩
     refine Aa d5<|Ah (Az 0 Z Bp.e j Z)<|Aa d5<|Ax h fun o2 h2 h=>A9 j (BL (a0:=a0) _ _ (Al j) (c.mono  Ai) (a.mono  Ai) (b.mono  Ai) h2) fun o3 mv ar k4=>Aa bk<|Ah (An d5 Z)<|Ah (Aj bk Z)<|Aw 1 Z<|Bj 65 h ?_ ?_<;>intro bl h
     ·refine Aa bl<|Ah (Af Z Zs Z B6.e)<|Aa bl<|Ah (Ag 0 Z ar Z)<|Aa bl<|Ah (Ad Z)<|Aa bl<|Ah (Ad Z)<|AU 69 h ?_ ?_<;>intro d9 h
      ·iterate 2 refine Ac d9 ?_
       refine Aa bl<|Ah (Aj d9 Z)<|Ah (Aj bl Z)<|Aw 1 Z<|Aa Z<|Ah (Af Z Zs Z C3.e)<|Aa Z<|Ah (Ag 0 Z ar Z)<|Aa Z<|Ah (AX a)<|Aa Z<|Ah (Ad Z)<|Aa Z<|Ah (Ad Z)<|BU 4 83 (.bool ((decide ((a0.2.2.2.2.2.2.2.2.2.2.1.length:Int)=0))||(decide (a0.2.1=7)))) (fun f6=>?_) ?_
       ·refine Bl (s:=79) Z (fun cj=>?_) (fun cj=>?_)
        ·iterate 3 refine Ac cj ?_
         refine Aa Z<|Ah (Aj cj Z)<|f6.to 3 (Gh cj) Z Z
        refine Aa cj<|Ah (Af Z Zs Z B6.e)<|Aa cj<|Ah (Ag 0 Z ar Z)<|Aa cj<|Ah (Ad Z)<|Aa Z<|Ah (An cj Z)<|f6.to 3 (Gi cj) Z Z
       refine Ah (Aj Z Z)<|Aw 1 Z<|Bj 85 h ?_ ?_<;>intro au h
       ·refine Aa au<|Ah (Af Z Zs Z D0.e)<|Aa au<|Ah (Ag 0 Z ar Z)<|Aa au<|Ah (AX b)<|Aa au<|Ah (Ad Z)<|Aa au<|Ah (Ad Z)<|AU 90 h ?_ ?_<;>intro ea h
        ·iterate 2 refine Ac ea ?_
         refine Aa au<|Ah (Aj ea Z)<|Ah (Aj au Z)<|A4 1 Z<|Ay ?_
         cases h
         refine Ak Z ⟨ar.ext,Z⟩
        refine Aa ea<|Ah (Az 0 Z Bp.e ar Z)<|Aa ea<|Ax h fun o4 h3 h=>A9 ar (AO _ _ (Al ar) a0 (c.mono  Ai) (a.mono  Ai) (b.mono  Ai) h3) fun o5 mw h4 k5=>Aa au<|Ah (An ea Z)<|Ah (Aj au Z)<|A4 1 Z<|Ay ?_
        cases h
        refine Ak Z ⟨h4.ext,Z⟩
       iterate 5 refine Ac au ?_
       iterate 2 refine Au ?_
       refine Ac au<|Ah (An au Z)<|A4 1 Z<|Ay ?_
       cases h
       refine Ak Z ⟨ar.ext,Z⟩
      refine Aa d9<|Ah (Az 0 Z Bp.e ar Z)<|Aa d9<|Ax h fun ka h5 h=>A9 ar (B5 (a0:=a0) _ _ (Al ar) (c.mono  Ai) (a.mono  Ai) (b.mono  Ai) h5) fun o6 mx c7 k6=>Aa bl<|Ah (An d9 Z)<|Ah (Aj bl Z)<|Aw 1 Z<|BU 10 84 (.bool (ka&&((decide ((a0.2.2.2.2.2.2.2.2.2.2.1.length:Int)=0))||(decide (a0.2.1=7))))) (fun f7=>?_) ?_
      ·refine Bl (s:=74) Z (fun x=>?_) (fun x=>?_)
       ·refine Aa x<|Ah (Af Z Zs Z C3.e)<|Aa x<|Ah (Ag 0 Z c7 Z)<|Aa x<|Ah (AX a)<|Aa x<|Ah (Ad Z)<|Aa x<|Ah (Ad Z)<|BU 4 83 (.bool ((decide ((a0.2.2.2.2.2.2.2.2.2.2.1.length:Int)=0))||(decide (a0.2.1=7)))) (fun f8=>?_) ?_
        ·refine Bl (s:=79) Z (fun ck=>?_) (fun ck=>?_)
         ·iterate 3 refine Ac ck ?_
          refine Aa x<|Ah (Aj ck Z)<|f8.to 3 (Gh ck) Z Z
         refine Aa ck<|Ah (Af Z Zs Z B6.e)<|Aa ck<|Ah (Ag 0 Z c7 Z)<|Aa ck<|Ah (Ad Z)<|Aa x<|Ah (An ck Z)<|f8.to 3 (Gi ck) Z Z
        refine Ah (Aj x Z)<|f7.to 6 (FH x) Z Z
       iterate 5 refine Ac x ?_
       iterate 3 refine Au ?_
       refine Ac x<|Ah (An x Z)<|f7.to 9 (FI x) Z Z
      refine Aw 1 Z<|Bj 85 h ?_ ?_<;>intro av h
      ·refine Aa av<|Ah (Af Z Zs Z D0.e)<|Aa av<|Ah (Ag 0 Z c7 Z)<|Aa av<|Ah (AX b)<|Aa av<|Ah (Ad Z)<|Aa av<|Ah (Ad Z)<|AU 90 h ?_ ?_<;>intro eb h
       ·iterate 2 refine Ac eb ?_
        refine Aa av<|Ah (Aj eb Z)<|Ah (Aj av Z)<|A4 1 Z<|Ay ?_
        cases h
        refine Ak Z ⟨c7.ext,Z⟩
       refine Aa eb<|Ah (Az 0 Z Bp.e c7 Z)<|Aa eb<|Ax h fun o7 h6 h=>A9 c7 (AO _ _ (Al c7) a0 (c.mono  Ai) (a.mono  Ai) (b.mono  Ai) h6) fun o8 my h7 k7=>Aa av<|Ah (An eb Z)<|Ah (Aj av Z)<|A4 1 Z<|Ay ?_
       cases h
       refine Ak Z ⟨h7.ext,Z⟩
      iterate 5 refine Ac av ?_
      iterate 2 refine Au ?_
      refine Ac av<|Ah (An av Z)<|A4 1 Z<|Ay ?_
      cases h
      refine Ak Z ⟨c7.ext,Z⟩
     iterate 4 refine Ac bl ?_
     iterate 2 refine Au ?_
     refine Ac bl<|Ah (An bl Z)<|Aw 1 Z ?_
     iterate 5 refine Ac Z ?_
     iterate 3 refine Au ?_
     refine Ac Z<|Ah (An Z Z)<|Aw 1 Z ?_
     iterate 5 refine Ac Z ?_
     iterate 2 refine Au ?_
     refine Ac Z<|Ah (An Z Z)<|A4 1 Z<|Ay ?_
     cases h
     refine Ak Z ⟨ar.ext,Z⟩
    iterate 4 refine Ac bk ?_
    iterate 2 refine Au ?_
    refine Ac bk<|Ah (An bk Z)<|Aw 1 Z ?_
    iterate 4 refine Ac Z ?_
    iterate 2 refine Au ?_
    refine Ac Z<|Ah (An Z Z)<|Aw 1 Z ?_
    iterate 5 refine Ac Z ?_
    iterate 3 refine Au ?_
    refine Ac Z<|Ah (An Z Z)<|Aw 1 Z ?_
    iterate 5 refine Ac Z ?_
    iterate 2 refine Au ?_
    refine Ac Z<|Ah (An Z Z)<|A4 1 Z<|Ay ?_
    cases h
    refine Ak Z ⟨j.ext,Z⟩
   iterate 4 refine Ac bi ?_
   iterate 2 refine Au ?_
   refine Ac bi<|Ah (An bi Z)<|Aw 1 Z ?_
   iterate 4 refine Ac Z ?_
   iterate 2 refine Au ?_
   refine Ac Z<|Ah (An Z Z)<|Aw 1 Z ?_
   iterate 4 refine Ac Z ?_
   iterate 2 refine Au ?_
   refine Ac Z<|Ah (An Z Z)<|Aw 1 Z ?_
   iterate 5 refine Ac Z ?_
   iterate 3 refine Au ?_
   refine Ac Z<|Ah (An Z Z)<|Aw 1 Z ?_
   iterate 5 refine Ac Z ?_
   iterate 2 refine Au ?_
   refine Ac Z<|Ah (An Z Z)<|A4 1 Z<|Ay ?_
   cases h
   refine Ak Z ⟨e.ext,Z⟩
  refine Aa fm<|Ah (Az 0 Z Bp.e g Z)<|Aa fm<|Ax h fun o9 h8 h=>A9 g (Gu (a0:=a0) _ _ (Al g) (c.mono  Ai) (a.mono  Ai) (b.mono  Ai) h8) fun pa mz d k8=>Aa dq<|Ah (An fm Z)<|Ah (Aj dq Z)<|Aw 1 Z<|Bj 25 h ?_ ?_<;>intro bm h
  ·refine Aa bm<|Ah (Af Z Zs Z B6.e)<|Aa bm<|Ah (Ag 0 Z d Z)<|Aa bm<|Ah (Ad Z)<|Aa bm<|Ah (Ad Z)<|AU 29 h ?_ ?_<;>intro ec h
   ·iterate 2 refine Ac ec ?_
    refine Aa bm<|Ah (Aj ec Z)<|Ah (Aj bm Z)<|Aw 1 Z<|Aa Z<|Ah (Af Z Zs Z Fa.e)<|Aa Z<|Ah (Ag 0 Z d Z)<|Aa Z<|Ah (Ad Z)<|Aa Z<|Ah (Ad Z)<|BU 4 42 (.bool ((!a0.2.2.2.2.1)&&(decide (a0.2.2.2.2.2.1=0)))) (fun f9=>?_) ?_
    ·refine Bl (s:=38) Z (fun cl=>?_) (fun cl=>?_)
     ·refine Aa cl<|Ah (Af Z Zs Z B6.e)<|Aa cl<|Ah (Ag 0 Z d Z)<|Aa cl<|Ah (Ad Z)<|Aa Z<|Ah (Aj cl Z)<|f9.to 3 (FH cl) Z Z
     iterate 3 refine Ac cl ?_
     refine Aa Z<|Ah (An cl Z)<|f9.to 3 (FI cl) Z Z
    refine Aa Z<|Ah (Ad Z)<|BU 2 45 (.bool (((!a0.2.2.2.2.1)&&(decide (a0.2.2.2.2.2.1=0)))||(decide (a0.2.1=2)))) (fun ga=>?_) ?_
    ·refine Bl (s:=43) Z (fun dn=>?_) (fun dn=>?_)
     ·refine Ac dn<|Aa Z<|Ah (Aj dn Z)<|ga.to 1 (Gh dn) Z Z
     refine Aa dn<|Ah (Ad Z)<|Aa Z<|Ah (An dn Z)<|ga.to 1 (Gi dn) Z Z
    refine Ah (Aj Z Z)<|Aw 1 Z<|Bj 47 h ?_ ?_<;>intro bn h
    ·refine Aa bn<|Ah (Af Z Zs Z B6.e)<|Aa bn<|Ah (Ag 0 Z d Z)<|Aa bn<|Ah (Ad Z)<|Aa bn<|Ah (Ad Z)<|AU 51 h ?_ ?_<;>intro ed h
     ·iterate 2 refine Ac ed ?_
      refine Aa bn<|Ah (Aj ed Z)<|Ah (Aj bn Z)<|Aw 1 Z<|Aa Z<|Ah (Af Z Zs Z B6.e)<|Aa Z<|Ah (Ag 0 Z d Z)<|Aa Z<|Ah (Ad Z)<|Aa Z<|Ah (Ad Z)<|AU 60 h ?_ ?_<;>intro ee h
      ·iterate 2 refine Ac ee ?_
       refine Aa Z<|Ah (Aj ee Z)<|Ah (Aj Z Z)<|Aw 1 Z<|Aa Z<|Ah (Af Z Zs Z B6.e)<|Aa Z<|Ah (Ag 0 Z d Z)<|Aa Z<|Ah (Ad Z)<|Aa Z<|Ah (Ad Z)<|AU 69 h ?_ ?_<;>intro ef h
       ·iterate 2 refine Ac ef ?_
        refine Aa Z<|Ah (Aj ef Z)<|Ah (Aj Z Z)<|Aw 1 Z<|Aa Z<|Ah (Af Z Zs Z C3.e)<|Aa Z<|Ah (Ag 0 Z d Z)<|Aa Z<|Ah (AX a)<|Aa Z<|Ah (Ad Z)<|Aa Z<|Ah (Ad Z)<|BU 4 83 (.bool ((decide ((a0.2.2.2.2.2.2.2.2.2.2.1.length:Int)=0))||(decide (a0.2.1=7)))) (fun gb=>?_) ?_
        ·refine Bl (s:=79) Z (fun cm=>?_) (fun cm=>?_)
         ·iterate 3 refine Ac cm ?_
          refine Aa Z<|Ah (Aj cm Z)<|gb.to 3 (Gh cm) Z Z
         refine Aa cm<|Ah (Af Z Zs Z B6.e)<|Aa cm<|Ah (Ag 0 Z d Z)<|Aa cm<|Ah (Ad Z)<|Aa Z<|Ah (An cm Z)<|gb.to 3 (Gi cm) Z Z
        refine Ah (Aj Z Z)<|Aw 1 Z<|Bj 85 h ?_ ?_<;>intro aw h
        ·refine Aa aw<|Ah (Af Z Zs Z D0.e)<|Aa aw<|Ah (Ag 0 Z d Z)<|Aa aw<|Ah (AX b)<|Aa aw<|Ah (Ad Z)<|Aa aw<|Ah (Ad Z)<|AU 90 h ?_ ?_<;>intro eg h
         ·iterate 2 refine Ac eg ?_
          refine Aa aw<|Ah (Aj eg Z)<|Ah (Aj aw Z)<|A4 1 Z<|Ay ?_
          cases h
          refine Ak Z ⟨d.ext,Z⟩
         refine Aa eg<|Ah (Az 0 Z Bp.e d Z)<|Aa eg<|Ax h fun pb h9 h=>A9 d (AO _ _ (Al d) a0 (c.mono  Ai) (a.mono  Ai) (b.mono  Ai) h9) fun pc m0 ia k9=>Aa aw<|Ah (An eg Z)<|Ah (Aj aw Z)<|A4 1 Z<|Ay ?_
         cases h
         refine Ak Z ⟨ia.ext,Z⟩
        iterate 5 refine Ac aw ?_
        iterate 2 refine Au ?_
        refine Ac aw<|Ah (An aw Z)<|A4 1 Z<|Ay ?_
        cases h
        refine Ak Z ⟨d.ext,Z⟩
       refine Aa ef<|Ah (Az 0 Z Bp.e d Z)<|Aa ef<|Ax h fun kb ib h=>A9 d (B5 (a0:=a0) _ _ (Al d) (c.mono  Ai) (a.mono  Ai) (b.mono  Ai) ib) fun pd m1 c8 la=>Aa Z<|Ah (An ef Z)<|Ah (Aj Z Z)<|Aw 1 Z<|BU 10 84 (.bool (kb&&((decide ((a0.2.2.2.2.2.2.2.2.2.2.1.length:Int)=0))||(decide (a0.2.1=7))))) (fun gc=>?_) ?_
       ·refine Bl (s:=74) Z (fun y=>?_) (fun y=>?_)
        ·refine Aa y<|Ah (Af Z Zs Z C3.e)<|Aa y<|Ah (Ag 0 Z c8 Z)<|Aa y<|Ah (AX a)<|Aa y<|Ah (Ad Z)<|Aa y<|Ah (Ad Z)<|BU 4 83 (.bool ((decide ((a0.2.2.2.2.2.2.2.2.2.2.1.length:Int)=0))||(decide (a0.2.1=7)))) (fun gd=>?_) ?_
         ·refine Bl (s:=79) Z (fun cn=>?_) (fun cn=>?_)
          ·iterate 3 refine Ac cn ?_
           refine Aa y<|Ah (Aj cn Z)<|gd.to 3 (Gh cn) Z Z
          refine Aa cn<|Ah (Af Z Zs Z B6.e)<|Aa cn<|Ah (Ag 0 Z c8 Z)<|Aa cn<|Ah (Ad Z)<|Aa y<|Ah (An cn Z)<|gd.to 3 (Gi cn) Z Z
         refine Ah (Aj y Z)<|gc.to 6 (FH y) Z Z
        iterate 5 refine Ac y ?_
        iterate 3 refine Au ?_
        refine Ac y<|Ah (An y Z)<|gc.to 9 (FI y) Z Z
       refine Aw 1 Z<|Bj 85 h ?_ ?_<;>intro ax h
       ·refine Aa ax<|Ah (Af Z Zs Z D0.e)<|Aa ax<|Ah (Ag 0 Z c8 Z)<|Aa ax<|Ah (AX b)<|Aa ax<|Ah (Ad Z)<|Aa ax<|Ah (Ad Z)<|AU 90 h ?_ ?_<;>intro eh h
        ·iterate 2 refine Ac eh ?_
         refine Aa ax<|Ah (Aj eh Z)<|Ah (Aj ax Z)<|A4 1 Z<|Ay ?_
         cases h
         refine Ak Z ⟨c8.ext,Z⟩
        refine Aa eh<|Ah (Az 0 Z Bp.e c8 Z)<|Aa eh<|Ax h fun pe ic h=>A9 c8 (AO _ _ (Al c8) a0 (c.mono  Ai) (a.mono  Ai) (b.mono  Ai) ic) fun pf m2 ie lb=>Aa ax<|Ah (An eh Z)<|Ah (Aj ax Z)<|A4 1 Z<|Ay ?_
        cases h
        refine Ak Z ⟨ie.ext,Z⟩
       iterate 5 refine Ac ax ?_
       iterate 2 refine Au ?_
       refine Ac ax<|Ah (An ax Z)<|A4 1 Z<|Ay ?_
       cases h
       refine Ak Z ⟨c8.ext,Z⟩
      refine Aa ee<|Ah (Az 0 Z Bp.e d Z)<|Aa ee<|Ax h fun pg ig h=>A9 d (BL (a0:=a0) _ _ (Al d) (c.mono  Ai) (a.mono  Ai) (b.mono  Ai) ig) fun ph m3 ay lc=>Aa Z<|Ah (An ee Z)<|Ah (Aj Z Z)<|Aw 1 Z<|Bj 65 h ?_ ?_<;>intro bo h
      ·refine Aa bo<|Ah (Af Z Zs Z B6.e)<|Aa bo<|Ah (Ag 0 Z ay Z)<|Aa bo<|Ah (Ad Z)<|Aa bo<|Ah (Ad Z)<|AU 69 h ?_ ?_<;>intro ei h
       ·iterate 2 refine Ac ei ?_
        refine Aa bo<|Ah (Aj ei Z)<|Ah (Aj bo Z)<|Aw 1 Z<|Aa Z<|Ah (Af Z Zs Z C3.e)<|Aa Z<|Ah (Ag 0 Z ay Z)<|Aa Z<|Ah (AX a)<|Aa Z<|Ah (Ad Z)<|Aa Z<|Ah (Ad Z)<|BU 4 83 (.bool ((decide ((a0.2.2.2.2.2.2.2.2.2.2.1.length:Int)=0))||(decide (a0.2.1=7)))) (fun ge=>?_) ?_
        ·refine Bl (s:=79) Z (fun co=>?_) (fun co=>?_)
         ·iterate 3 refine Ac co ?_
          refine Aa Z<|Ah (Aj co Z)<|ge.to 3 (Gh co) Z Z
         refine Aa co<|Ah (Af Z Zs Z B6.e)<|Aa co<|Ah (Ag 0 Z ay Z)<|Aa co<|Ah (Ad Z)<|Aa Z<|Ah (An co Z)<|ge.to 3 (Gi co) Z Z
        refine Ah (Aj Z Z)<|Aw 1 Z<|Bj 85 h ?_ ?_<;>intro az h
        ·refine Aa az<|Ah (Af Z Zs Z D0.e)<|Aa az<|Ah (Ag 0 Z ay Z)<|Aa az<|Ah (AX b)<|Aa az<|Ah (Ad Z)<|Aa az<|Ah (Ad Z)<|AU 90 h ?_ ?_<;>intro ej h
         ·iterate 2 refine Ac ej ?_
          refine Aa az<|Ah (Aj ej Z)<|Ah (Aj az Z)<|A4 1 Z<|Ay ?_
          cases h
          refine Ak Z ⟨ay.ext,Z⟩
         refine Aa ej<|Ah (Az 0 Z Bp.e ay Z)<|Aa ej<|Ax h fun pi ih h=>A9 ay (AO _ _ (Al ay) a0 (c.mono  Ai) (a.mono  Ai) (b.mono  Ai) ih) fun pj m4 ii ld=>Aa az<|Ah (An ej Z)<|Ah (Aj az Z)<|A4 1 Z<|Ay ?_
         cases h
         refine Ak Z ⟨ii.ext,Z⟩
        iterate 5 refine Ac az ?_
        iterate 2 refine Au ?_
        refine Ac az<|Ah (An az Z)<|A4 1 Z<|Ay ?_
        cases h
        refine Ak Z ⟨ay.ext,Z⟩
       refine Aa ei<|Ah (Az 0 Z Bp.e ay Z)<|Aa ei<|Ax h fun kc ij h=>A9 ay (B5 (a0:=a0) _ _ (Al ay) (c.mono  Ai) (a.mono  Ai) (b.mono  Ai) ij) fun pk m5 c9 le=>Aa bo<|Ah (An ei Z)<|Ah (Aj bo Z)<|Aw 1 Z<|BU 10 84 (.bool (kc&&((decide ((a0.2.2.2.2.2.2.2.2.2.2.1.length:Int)=0))||(decide (a0.2.1=7))))) (fun gf=>?_) ?_
       ·refine Bl (s:=74) Z (fun z=>?_) (fun z=>?_)
        ·refine Aa z<|Ah (Af Z Zs Z C3.e)<|Aa z<|Ah (Ag 0 Z c9 Z)<|Aa z<|Ah (AX a)<|Aa z<|Ah (Ad Z)<|Aa z<|Ah (Ad Z)<|BU 4 83 (.bool ((decide ((a0.2.2.2.2.2.2.2.2.2.2.1.length:Int)=0))||(decide (a0.2.1=7)))) (fun gg=>?_) ?_
         ·refine Bl (s:=79) Z (fun cp=>?_) (fun cp=>?_)
          ·iterate 3 refine Ac cp ?_
           refine Aa z<|Ah (Aj cp Z)<|gg.to 3 (Gh cp) Z Z
          refine Aa cp<|Ah (Af Z Zs Z B6.e)<|Aa cp<|Ah (Ag 0 Z c9 Z)<|Aa cp<|Ah (Ad Z)<|Aa z<|Ah (An cp Z)<|gg.to 3 (Gi cp) Z Z
         refine Ah (Aj z Z)<|gf.to 6 (FH z) Z Z
        iterate 5 refine Ac z ?_
        iterate 3 refine Au ?_
        refine Ac z<|Ah (An z Z)<|gf.to 9 (FI z) Z Z
       refine Aw 1 Z<|Bj 85 h ?_ ?_<;>intro a1 h
       ·refine Aa a1<|Ah (Af Z Zs Z D0.e)<|Aa a1<|Ah (Ag 0 Z c9 Z)<|Aa a1<|Ah (AX b)<|Aa a1<|Ah (Ad Z)<|Aa a1<|Ah (Ad Z)<|AU 90 h ?_ ?_<;>intro ek h
        ·iterate 2 refine Ac ek ?_
         refine Aa a1<|Ah (Aj ek Z)<|Ah (Aj a1 Z)<|A4 1 Z<|Ay ?_
         cases h
         refine Ak Z ⟨c9.ext,Z⟩
        refine Aa ek<|Ah (Az 0 Z Bp.e c9 Z)<|Aa ek<|Ax h fun pl ik h=>A9 c9 (AO _ _ (Al c9) a0 (c.mono  Ai) (a.mono  Ai) (b.mono  Ai) ik) fun pm m6 il lf=>Aa a1<|Ah (An ek Z)<|Ah (Aj a1 Z)<|A4 1 Z<|Ay ?_
        cases h
        refine Ak Z ⟨il.ext,Z⟩
       iterate 5 refine Ac a1 ?_
       iterate 2 refine Au ?_
       refine Ac a1<|Ah (An a1 Z)<|A4 1 Z<|Ay ?_
       cases h
       refine Ak Z ⟨c9.ext,Z⟩
      iterate 4 refine Ac bo ?_
      iterate 2 refine Au ?_
      refine Ac bo<|Ah (An bo Z)<|Aw 1 Z ?_
      iterate 5 refine Ac Z ?_
      iterate 3 refine Au ?_
      refine Ac Z<|Ah (An Z Z)<|Aw 1 Z ?_
      iterate 5 refine Ac Z ?_
      iterate 2 refine Au ?_
      refine Ac Z<|Ah (An Z Z)<|A4 1 Z<|Ay ?_
      cases h
      refine Ak Z ⟨ay.ext,Z⟩
     refine Aa ed<|Ah (Az 0 Z Bp.e d Z)<|Aa ed<|Ax h fun pn im h=>A9 d (DO (a0:=a0) _ _ (Al d) (c.mono  Ai) (a.mono  Ai) (b.mono  Ai) im) fun po m7 k lg=>Aa bn<|Ah (An ed Z)<|Ah (Aj bn Z)<|Aw 1 Z<|Bj 56 h ?_ ?_<;>intro bp h
     ·refine Aa bp<|Ah (Af Z Zs Z B6.e)<|Aa bp<|Ah (Ag 0 Z k Z)<|Aa bp<|Ah (Ad Z)<|Aa bp<|Ah (Ad Z)<|AU 60 h ?_ ?_<;>intro el h
      ·iterate 2 refine Ac el ?_
       refine Aa bp<|Ah (Aj el Z)<|Ah (Aj bp Z)<|Aw 1 Z<|Aa Z<|Ah (Af Z Zs Z B6.e)<|Aa Z<|Ah (Ag 0 Z k Z)<|Aa Z<|Ah (Ad Z)<|Aa Z<|Ah (Ad Z)<|AU 69 h ?_ ?_<;>intro em h
       ·iterate 2 refine Ac em ?_
        refine Aa Z<|Ah (Aj em Z)<|Ah (Aj Z Z)<|Aw 1 Z<|Aa Z<|Ah (Af Z Zs Z C3.e)<|Aa Z<|Ah (Ag 0 Z k Z)<|Aa Z<|Ah (AX a)<|Aa Z<|Ah (Ad Z)<|Aa Z<|Ah (Ad Z)<|BU 4 83 (.bool ((decide ((a0.2.2.2.2.2.2.2.2.2.2.1.length:Int)=0))||(decide (a0.2.1=7)))) (fun gh=>?_) ?_
        ·refine Bl (s:=79) Z (fun cq=>?_) (fun cq=>?_)
         ·iterate 3 refine Ac cq ?_
          refine Aa Z<|Ah (Aj cq Z)<|gh.to 3 (Gh cq) Z Z
         refine Aa cq<|Ah (Af Z Zs Z B6.e)<|Aa cq<|Ah (Ag 0 Z k Z)<|Aa cq<|Ah (Ad Z)<|Aa Z<|Ah (An cq Z)<|gh.to 3 (Gi cq) Z Z
        refine Ah (Aj Z Z)<|Aw 1 Z<|Bj 85 h ?_ ?_<;>intro a2 h
        ·refine Aa a2<|Ah (Af Z Zs Z D0.e)<|Aa a2<|Ah (Ag 0 Z k Z)<|Aa a2<|Ah (AX b)<|Aa a2<|Ah (Ad Z)<|Aa a2<|Ah (Ad Z)<|AU 90 h ?_ ?_<;>intro en h
         ·iterate 2 refine Ac en ?_
          refine Aa a2<|Ah (Aj en Z)<|Ah (Aj a2 Z)<|A4 1 Z<|Ay ?_
          cases h
          refine Ak Z ⟨k.ext,Z⟩
         refine Aa en<|Ah (Az 0 Z Bp.e k Z)<|Aa en<|Ax h fun pp io h=>A9 k (AO _ _ (Al k) a0 (c.mono  Ai) (a.mono  Ai) (b.mono  Ai) io) fun pq m8 ip lh=>Aa a2<|Ah (An en Z)<|Ah (Aj a2 Z)<|A4 1 Z<|Ay ?_
         cases h
         refine Ak Z ⟨ip.ext,Z⟩
        iterate 5 refine Ac a2 ?_
        iterate 2 refine Au ?_
        refine Ac a2<|Ah (An a2 Z)<|A4 1 Z<|Ay ?_
        cases h
        refine Ak Z ⟨k.ext,Z⟩
       refine Aa em<|Ah (Az 0 Z Bp.e k Z)<|Aa em<|Ax h fun kd iq h=>A9 k (B5 (a0:=a0) _ _ (Al k) (c.mono  Ai) (a.mono  Ai) (b.mono  Ai) iq) fun pr m9 da li=>Aa Z<|Ah (An em Z)<|Ah (Aj Z Z)<|Aw 1 Z<|BU 10 84 (.bool (kd&&((decide ((a0.2.2.2.2.2.2.2.2.2.2.1.length:Int)=0))||(decide (a0.2.1=7))))) (fun gi=>?_) ?_
       ·refine Bl (s:=74) Z (fun aa=>?_) (fun aa=>?_)
        ·refine Aa aa<|Ah (Af Z Zs Z C3.e)<|Aa aa<|Ah (Ag 0 Z da Z)<|Aa aa<|Ah (AX a)<|Aa aa<|Ah (Ad Z)<|Aa aa<|Ah (Ad Z)<|BU 4 83 (.bool ((decide ((a0.2.2.2.2.2.2.2.2.2.2.1.length:Int)=0))||(decide (a0.2.1=7)))) (fun gj=>?_) ?_
         ·refine Bl (s:=79) Z (fun cr=>?_) (fun cr=>?_)
          ·iterate 3 refine Ac cr ?_
           refine Aa aa<|Ah (Aj cr Z)<|gj.to 3 (Gh cr) Z Z
          refine Aa cr<|Ah (Af Z Zs Z B6.e)<|Aa cr<|Ah (Ag 0 Z da Z)<|Aa cr<|Ah (Ad Z)<|Aa aa<|Ah (An cr Z)<|gj.to 3 (Gi cr) Z Z
         refine Ah (Aj aa Z)<|gi.to 6 (FH aa) Z Z
        iterate 5 refine Ac aa ?_
        iterate 3 refine Au ?_
        refine Ac aa<|Ah (An aa Z)<|gi.to 9 (FI aa) Z Z
       refine Aw 1 Z<|Bj 85 h ?_ ?_<;>intro a3 h
       ·refine Aa a3<|Ah (Af Z Zs Z D0.e)<|Aa a3<|Ah (Ag 0 Z da Z)<|Aa a3<|Ah (AX b)<|Aa a3<|Ah (Ad Z)<|Aa a3<|Ah (Ad Z)<|AU 90 h ?_ ?_<;>intro eo h
        ·iterate 2 refine Ac eo ?_
         refine Aa a3<|Ah (Aj eo Z)<|Ah (Aj a3 Z)<|A4 1 Z<|Ay ?_
         cases h
         refine Ak Z ⟨da.ext,Z⟩
        refine Aa eo<|Ah (Az 0 Z Bp.e da Z)<|Aa eo<|Ax h fun ps ir h=>A9 da (AO _ _ (Al da) a0 (c.mono  Ai) (a.mono  Ai) (b.mono  Ai) ir) fun pt na is lj=>Aa a3<|Ah (An eo Z)<|Ah (Aj a3 Z)<|A4 1 Z<|Ay ?_
        cases h
        refine Ak Z ⟨is.ext,Z⟩
       iterate 5 refine Ac a3 ?_
       iterate 2 refine Au ?_
       refine Ac a3<|Ah (An a3 Z)<|A4 1 Z<|Ay ?_
       cases h
       refine Ak Z ⟨da.ext,Z⟩
      refine Aa el<|Ah (Az 0 Z Bp.e k Z)<|Aa el<|Ax h fun pu it h=>A9 k (BL (a0:=a0) _ _ (Al k) (c.mono  Ai) (a.mono  Ai) (b.mono  Ai) it) fun pv nb a4 lk=>Aa bp<|Ah (An el Z)<|Ah (Aj bp Z)<|Aw 1 Z<|Bj 65 h ?_ ?_<;>intro bq h
      ·refine Aa bq<|Ah (Af Z Zs Z B6.e)<|Aa bq<|Ah (Ag 0 Z a4 Z)<|Aa bq<|Ah (Ad Z)<|Aa bq<|Ah (Ad Z)<|AU 69 h ?_ ?_<;>intro ep h
       ·iterate 2 refine Ac ep ?_
        refine Aa bq<|Ah (Aj ep Z)<|Ah (Aj bq Z)<|Aw 1 Z<|Aa Z<|Ah (Af Z Zs Z C3.e)<|Aa Z<|Ah (Ag 0 Z a4 Z)<|Aa Z<|Ah (AX a)<|Aa Z<|Ah (Ad Z)<|Aa Z<|Ah (Ad Z)<|BU 4 83 (.bool ((decide ((a0.2.2.2.2.2.2.2.2.2.2.1.length:Int)=0))||(decide (a0.2.1=7)))) (fun gk=>?_) ?_
        ·refine Bl (s:=79) Z (fun cs=>?_) (fun cs=>?_)
         ·iterate 3 refine Ac cs ?_
          refine Aa Z<|Ah (Aj cs Z)<|gk.to 3 (Gh cs) Z Z
         refine Aa cs<|Ah (Af Z Zs Z B6.e)<|Aa cs<|Ah (Ag 0 Z a4 Z)<|Aa cs<|Ah (Ad Z)<|Aa Z<|Ah (An cs Z)<|gk.to 3 (Gi cs) Z Z
        refine Ah (Aj Z Z)<|Aw 1 Z<|Bj 85 h ?_ ?_<;>intro a5 h
        ·refine Aa a5<|Ah (Af Z Zs Z D0.e)<|Aa a5<|Ah (Ag 0 Z a4 Z)<|Aa a5<|Ah (AX b)<|Aa a5<|Ah (Ad Z)<|Aa a5<|Ah (Ad Z)<|AU 90 h ?_ ?_<;>intro eq h
         ·iterate 2 refine Ac eq ?_
          refine Aa a5<|Ah (Aj eq Z)<|Ah (Aj a5 Z)<|A4 1 Z<|Ay ?_
          cases h
          refine Ak Z ⟨a4.ext,Z⟩
         refine Aa eq<|Ah (Az 0 Z Bp.e a4 Z)<|Aa eq<|Ax h fun pw iu h=>A9 a4 (AO _ _ (Al a4) a0 (c.mono  Ai) (a.mono  Ai) (b.mono  Ai) iu) fun px nc iv ll=>Aa a5<|Ah (An eq Z)<|Ah (Aj a5 Z)<|A4 1 Z<|Ay ?_
         cases h
         refine Ak Z ⟨iv.ext,Z⟩
        iterate 5 refine Ac a5 ?_
        iterate 2 refine Au ?_
        refine Ac a5<|Ah (An a5 Z)<|A4 1 Z<|Ay ?_
        cases h
        refine Ak Z ⟨a4.ext,Z⟩
       refine Aa ep<|Ah (Az 0 Z Bp.e a4 Z)<|Aa ep<|Ax h fun ke iw h=>A9 a4 (B5 (a0:=a0) _ _ (Al a4) (c.mono  Ai) (a.mono  Ai) (b.mono  Ai) iw) fun py nd db lm=>Aa bq<|Ah (An ep Z)<|Ah (Aj bq Z)<|Aw 1 Z<|BU 10 84 (.bool (ke&&((decide ((a0.2.2.2.2.2.2.2.2.2.2.1.length:Int)=0))||(decide (a0.2.1=7))))) (fun gl=>?_) ?_
       ·refine Bl (s:=74) Z (fun ab=>?_) (fun ab=>?_)
        ·refine Aa ab<|Ah (Af Z Zs Z C3.e)<|Aa ab<|Ah (Ag 0 Z db Z)<|Aa ab<|Ah (AX a)<|Aa ab<|Ah (Ad Z)<|Aa ab<|Ah (Ad Z)<|BU 4 83 (.bool ((decide ((a0.2.2.2.2.2.2.2.2.2.2.1.length:Int)=0))||(decide (a0.2.1=7)))) (fun gm=>?_) ?_
         ·refine Bl (s:=79) Z (fun ct=>?_) (fun ct=>?_)
          ·iterate 3 refine Ac ct ?_
           refine Aa ab<|Ah (Aj ct Z)<|gm.to 3 (Gh ct) Z Z
          refine Aa ct<|Ah (Af Z Zs Z B6.e)<|Aa ct<|Ah (Ag 0 Z db Z)<|Aa ct<|Ah (Ad Z)<|Aa ab<|Ah (An ct Z)<|gm.to 3 (Gi ct) Z Z
         refine Ah (Aj ab Z)<|gl.to 6 (FH ab) Z Z
        iterate 5 refine Ac ab ?_
        iterate 3 refine Au ?_
        refine Ac ab<|Ah (An ab Z)<|gl.to 9 (FI ab) Z Z
       refine Aw 1 Z<|Bj 85 h ?_ ?_<;>intro a6 h
       ·refine Aa a6<|Ah (Af Z Zs Z D0.e)<|Aa a6<|Ah (Ag 0 Z db Z)<|Aa a6<|Ah (AX b)<|Aa a6<|Ah (Ad Z)<|Aa a6<|Ah (Ad Z)<|AU 90 h ?_ ?_<;>intro er h
        ·iterate 2 refine Ac er ?_
         refine Aa a6<|Ah (Aj er Z)<|Ah (Aj a6 Z)<|A4 1 Z<|Ay ?_
         cases h
         refine Ak Z ⟨db.ext,Z⟩
        refine Aa er<|Ah (Az 0 Z Bp.e db Z)<|Aa er<|Ax h fun pz ix h=>A9 db (AO _ _ (Al db) a0 (c.mono  Ai) (a.mono  Ai) (b.mono  Ai) ix) fun p0 nf iy ln=>Aa a6<|Ah (An er Z)<|Ah (Aj a6 Z)<|A4 1 Z<|Ay ?_
        cases h
        refine Ak Z ⟨iy.ext,Z⟩
       iterate 5 refine Ac a6 ?_
       iterate 2 refine Au ?_
       refine Ac a6<|Ah (An a6 Z)<|A4 1 Z<|Ay ?_
       cases h
       refine Ak Z ⟨db.ext,Z⟩
      iterate 4 refine Ac bq ?_
      iterate 2 refine Au ?_
      refine Ac bq<|Ah (An bq Z)<|Aw 1 Z ?_
      iterate 5 refine Ac Z ?_
      iterate 3 refine Au ?_
      refine Ac Z<|Ah (An Z Z)<|Aw 1 Z ?_
      iterate 5 refine Ac Z ?_
      iterate 2 refine Au ?_
      refine Ac Z<|Ah (An Z Z)<|A4 1 Z<|Ay ?_
      cases h
      refine Ak Z ⟨a4.ext,Z⟩
     iterate 4 refine Ac bp ?_
     iterate 2 refine Au ?_
     refine Ac bp<|Ah (An bp Z)<|Aw 1 Z ?_
     iterate 4 refine Ac Z ?_
     iterate 2 refine Au ?_
     refine Ac Z<|Ah (An Z Z)<|Aw 1 Z ?_
     iterate 5 refine Ac Z ?_
     iterate 3 refine Au ?_
     refine Ac Z<|Ah (An Z Z)<|Aw 1 Z ?_
     iterate 5 refine Ac Z ?_
     iterate 2 refine Au ?_
     refine Ac Z<|Ah (An Z Z)<|A4 1 Z<|Ay ?_
     cases h
     refine Ak Z ⟨k.ext,Z⟩
    iterate 4 refine Ac bn ?_
    iterate 2 refine Au ?_
    refine Ac bn<|Ah (An bn Z)<|Aw 1 Z ?_
    iterate 4 refine Ac Z ?_
    iterate 2 refine Au ?_
    refine Ac Z<|Ah (An Z Z)<|Aw 1 Z ?_
    iterate 4 refine Ac Z ?_
    iterate 2 refine Au ?_
    refine Ac Z<|Ah (An Z Z)<|Aw 1 Z ?_
    iterate 5 refine Ac Z ?_
    iterate 3 refine Au ?_
    refine Ac Z<|Ah (An Z Z)<|Aw 1 Z ?_
    iterate 5 refine Ac Z ?_
    iterate 2 refine Au ?_
    refine Ac Z<|Ah (An Z Z)<|A4 1 Z<|Ay ?_
    cases h
    refine Ak Z ⟨d.ext,Z⟩
   refine Aa ec<|Ah (Az 0 Z Bp.e d Z)<|Aa ec<|Ax h fun kf iz h=>A9 d (Gx (a0:=a0) _ _ (Al d) (c.mono  Ai) (a.mono  Ai) (b.mono  Ai) iz) fun p1 ng f lo=>Aa bm<|Ah (An ec Z)<|Ah (Aj bm Z)<|Aw 1 Z<|BU 12 46 (.bool (kf&&(((!a0.2.2.2.2.1)&&(decide (a0.2.2.2.2.2.1=0)))||(decide (a0.2.1=2))))) (fun gn=>?_) ?_
   ·refine Bl (s:=34) Z (fun l=>?_) (fun l=>?_)
    ·refine Aa l<|Ah (Af Z Zs Z Fa.e)<|Aa l<|Ah (Ag 0 Z f Z)<|Aa l<|Ah (Ad Z)<|Aa l<|Ah (Ad Z)<|BU 4 42 (.bool ((!a0.2.2.2.2.1)&&(decide (a0.2.2.2.2.2.1=0)))) (fun go=>?_) ?_
     ·refine Bl (s:=38) Z (fun cu=>?_) (fun cu=>?_)
      ·refine Aa cu<|Ah (Af Z Zs Z B6.e)<|Aa cu<|Ah (Ag 0 Z f Z)<|Aa cu<|Ah (Ad Z)<|Aa l<|Ah (Aj cu Z)<|go.to 3 (FH cu) Z Z
      iterate 3 refine Ac cu ?_
      refine Aa l<|Ah (An cu Z)<|go.to 3 (FI cu) Z Z
     refine Aa l<|Ah (Ad Z)<|BU 2 45 (.bool (((!a0.2.2.2.2.1)&&(decide (a0.2.2.2.2.2.1=0)))||(decide (a0.2.1=2)))) (fun gp=>?_) ?_
     ·refine Bl (s:=43) Z (fun dp=>?_) (fun dp=>?_)
      ·refine Ac dp<|Aa l<|Ah (Aj dp Z)<|gp.to 1 (Gh dp) Z Z
      refine Aa dp<|Ah (Ad Z)<|Aa l<|Ah (An dp Z)<|gp.to 1 (Gi dp) Z Z
     refine Ah (Aj l Z)<|gn.to 7 (FH l) Z Z
    iterate 4 refine Ac l ?_
    iterate 3 refine Au ?_
    iterate 2 refine Ac l ?_
    refine Au<|Ac l<|Ah (An l Z)<|gn.to 11 (FI l) Z Z
   refine Aw 1 Z<|Bj 47 h ?_ ?_<;>intro br h
   ·refine Aa br<|Ah (Af Z Zs Z B6.e)<|Aa br<|Ah (Ag 0 Z f Z)<|Aa br<|Ah (Ad Z)<|Aa br<|Ah (Ad Z)<|AU 51 h ?_ ?_<;>intro es h
    ·iterate 2 refine Ac es ?_
     refine Aa br<|Ah (Aj es Z)<|Ah (Aj br Z)<|Aw 1 Z<|Aa Z<|Ah (Af Z Zs Z B6.e)<|Aa Z<|Ah (Ag 0 Z f Z)<|Aa Z<|Ah (Ad Z)<|Aa Z<|Ah (Ad Z)<|AU 60 h ?_ ?_<;>intro et h
     ·iterate 2 refine Ac et ?_
      refine Aa Z<|Ah (Aj et Z)<|Ah (Aj Z Z)<|Aw 1 Z<|Aa Z<|Ah (Af Z Zs Z B6.e)<|Aa Z<|Ah (Ag 0 Z f Z)<|Aa Z<|Ah (Ad Z)<|Aa Z<|Ah (Ad Z)<|AU 69 h ?_ ?_<;>intro eu h
      ·iterate 2 refine Ac eu ?_
       refine Aa Z<|Ah (Aj eu Z)<|Ah (Aj Z Z)<|Aw 1 Z<|Aa Z<|Ah (Af Z Zs Z C3.e)<|Aa Z<|Ah (Ag 0 Z f Z)<|Aa Z<|Ah (AX a)<|Aa Z<|Ah (Ad Z)<|Aa Z<|Ah (Ad Z)<|BU 4 83 (.bool ((decide ((a0.2.2.2.2.2.2.2.2.2.2.1.length:Int)=0))||(decide (a0.2.1=7)))) (fun gq=>?_) ?_
       ·refine Bl (s:=79) Z (fun cv=>?_) (fun cv=>?_)
        ·iterate 3 refine Ac cv ?_
         refine Aa Z<|Ah (Aj cv Z)<|gq.to 3 (Gh cv) Z Z
        refine Aa cv<|Ah (Af Z Zs Z B6.e)<|Aa cv<|Ah (Ag 0 Z f Z)<|Aa cv<|Ah (Ad Z)<|Aa Z<|Ah (An cv Z)<|gq.to 3 (Gi cv) Z Z
       refine Ah (Aj Z Z)<|Aw 1 Z<|Bj 85 h ?_ ?_<;>intro a7 h
       ·refine Aa a7<|Ah (Af Z Zs Z D0.e)<|Aa a7<|Ah (Ag 0 Z f Z)<|Aa a7<|Ah (AX b)<|Aa a7<|Ah (Ad Z)<|Aa a7<|Ah (Ad Z)<|AU 90 h ?_ ?_<;>intro ev h
        ·iterate 2 refine Ac ev ?_
         refine Aa a7<|Ah (Aj ev Z)<|Ah (Aj a7 Z)<|A4 1 Z<|Ay ?_
         cases h
         refine Ak Z ⟨f.ext,Z⟩
        refine Aa ev<|Ah (Az 0 Z Bp.e f Z)<|Aa ev<|Ax h fun p2 i0 h=>A9 f (AO _ _ (Al f) a0 (c.mono  Ai) (a.mono  Ai) (b.mono  Ai) i0) fun p3 nh i1 lp=>Aa a7<|Ah (An ev Z)<|Ah (Aj a7 Z)<|A4 1 Z<|Ay ?_
        cases h
        refine Ak Z ⟨i1.ext,Z⟩
       iterate 5 refine Ac a7 ?_
       iterate 2 refine Au ?_
       refine Ac a7<|Ah (An a7 Z)<|A4 1 Z<|Ay ?_
       cases h
       refine Ak Z ⟨f.ext,Z⟩
      refine Aa eu<|Ah (Az 0 Z Bp.e f Z)<|Aa eu<|Ax h fun kg i2 h=>A9 f (B5 (a0:=a0) _ _ (Al f) (c.mono  Ai) (a.mono  Ai) (b.mono  Ai) i2) fun p4 ni dc lq=>Aa Z<|Ah (An eu Z)<|Ah (Aj Z Z)<|Aw 1 Z<|BU 10 84 (.bool (kg&&((decide ((a0.2.2.2.2.2.2.2.2.2.2.1.length:Int)=0))||(decide (a0.2.1=7))))) (fun gr=>?_) ?_
      ·refine Bl (s:=74) Z (fun ac=>?_) (fun ac=>?_)
       ·refine Aa ac<|Ah (Af Z Zs Z C3.e)<|Aa ac<|Ah (Ag 0 Z dc Z)<|Aa ac<|Ah (AX a)<|Aa ac<|Ah (Ad Z)<|Aa ac<|Ah (Ad Z)<|BU 4 83 (.bool ((decide ((a0.2.2.2.2.2.2.2.2.2.2.1.length:Int)=0))||(decide (a0.2.1=7)))) (fun gs=>?_) ?_
        ·refine Bl (s:=79) Z (fun cw=>?_) (fun cw=>?_)
         ·iterate 3 refine Ac cw ?_
          refine Aa ac<|Ah (Aj cw Z)<|gs.to 3 (Gh cw) Z Z
         refine Aa cw<|Ah (Af Z Zs Z B6.e)<|Aa cw<|Ah (Ag 0 Z dc Z)<|Aa cw<|Ah (Ad Z)<|Aa ac<|Ah (An cw Z)<|gs.to 3 (Gi cw) Z Z
        refine Ah (Aj ac Z)<|gr.to 6 (FH ac) Z Z
       iterate 5 refine Ac ac ?_
       iterate 3 refine Au ?_
       refine Ac ac<|Ah (An ac Z)<|gr.to 9 (FI ac) Z Z
      refine Aw 1 Z<|Bj 85 h ?_ ?_<;>intro a8 h
      ·refine Aa a8<|Ah (Af Z Zs Z D0.e)<|Aa a8<|Ah (Ag 0 Z dc Z)<|Aa a8<|Ah (AX b)<|Aa a8<|Ah (Ad Z)<|Aa a8<|Ah (Ad Z)<|AU 90 h ?_ ?_<;>intro ew h
       ·iterate 2 refine Ac ew ?_
        refine Aa a8<|Ah (Aj ew Z)<|Ah (Aj a8 Z)<|A4 1 Z<|Ay ?_
        cases h
        refine Ak Z ⟨dc.ext,Z⟩
       refine Aa ew<|Ah (Az 0 Z Bp.e dc Z)<|Aa ew<|Ax h fun p5 i3 h=>A9 dc (AO _ _ (Al dc) a0 (c.mono  Ai) (a.mono  Ai) (b.mono  Ai) i3) fun p6 nj i4 lr=>Aa a8<|Ah (An ew Z)<|Ah (Aj a8 Z)<|A4 1 Z<|Ay ?_
       cases h
       refine Ak Z ⟨i4.ext,Z⟩
      iterate 5 refine Ac a8 ?_
      iterate 2 refine Au ?_
      refine Ac a8<|Ah (An a8 Z)<|A4 1 Z<|Ay ?_
      cases h
      refine Ak Z ⟨dc.ext,Z⟩
     refine Aa et<|Ah (Az 0 Z Bp.e f Z)<|Aa et<|Ax h fun p7 i5 h=>A9 f (BL (a0:=a0) _ _ (Al f) (c.mono  Ai) (a.mono  Ai) (b.mono  Ai) i5) fun p8 nk a9 ls=>Aa Z<|Ah (An et Z)<|Ah (Aj Z Z)<|Aw 1 Z<|Bj 65 h ?_ ?_<;>intro bs h
     ·refine Aa bs<|Ah (Af Z Zs Z B6.e)<|Aa bs<|Ah (Ag 0 Z a9 Z)<|Aa bs<|Ah (Ad Z)<|Aa bs<|Ah (Ad Z)<|AU 69 h ?_ ?_<;>intro ex h
      ·iterate 2 refine Ac ex ?_
       refine Aa bs<|Ah (Aj ex Z)<|Ah (Aj bs Z)<|Aw 1 Z<|Aa Z<|Ah (Af Z Zs Z C3.e)<|Aa Z<|Ah (Ag 0 Z a9 Z)<|Aa Z<|Ah (AX a)<|Aa Z<|Ah (Ad Z)<|Aa Z<|Ah (Ad Z)<|BU 4 83 (.bool ((decide ((a0.2.2.2.2.2.2.2.2.2.2.1.length:Int)=0))||(decide (a0.2.1=7)))) (fun gt=>?_) ?_
       ·refine Bl (s:=79) Z (fun cx=>?_) (fun cx=>?_)
        ·iterate 3 refine Ac cx ?_
         refine Aa Z<|Ah (Aj cx Z)<|gt.to 3 (Gh cx) Z Z
        refine Aa cx<|Ah (Af Z Zs Z B6.e)<|Aa cx<|Ah (Ag 0 Z a9 Z)<|Aa cx<|Ah (Ad Z)<|Aa Z<|Ah (An cx Z)<|gt.to 3 (Gi cx) Z Z
       refine Ah (Aj Z Z)<|Aw 1 Z<|Bj 85 h ?_ ?_<;>intro ba h
       ·refine Aa ba<|Ah (Af Z Zs Z D0.e)<|Aa ba<|Ah (Ag 0 Z a9 Z)<|Aa ba<|Ah (AX b)<|Aa ba<|Ah (Ad Z)<|Aa ba<|Ah (Ad Z)<|AU 90 h ?_ ?_<;>intro ey h
        ·iterate 2 refine Ac ey ?_
         refine Aa ba<|Ah (Aj ey Z)<|Ah (Aj ba Z)<|A4 1 Z<|Ay ?_
         cases h
         refine Ak Z ⟨a9.ext,Z⟩
        refine Aa ey<|Ah (Az 0 Z Bp.e a9 Z)<|Aa ey<|Ax h fun p9 i6 h=>A9 a9 (AO _ _ (Al a9) a0 (c.mono  Ai) (a.mono  Ai) (b.mono  Ai) i6) fun qa nl i7 lt=>Aa ba<|Ah (An ey Z)<|Ah (Aj ba Z)<|A4 1 Z<|Ay ?_
        cases h
        refine Ak Z ⟨i7.ext,Z⟩
       iterate 5 refine Ac ba ?_
       iterate 2 refine Au ?_
       refine Ac ba<|Ah (An ba Z)<|A4 1 Z<|Ay ?_
       cases h
       refine Ak Z ⟨a9.ext,Z⟩
      refine Aa ex<|Ah (Az 0 Z Bp.e a9 Z)<|Aa ex<|Ax h fun kh i8 h=>A9 a9 (B5 (a0:=a0) _ _ (Al a9) (c.mono  Ai) (a.mono  Ai) (b.mono  Ai) i8) fun qb nm dd lu=>Aa bs<|Ah (An ex Z)<|Ah (Aj bs Z)<|Aw 1 Z<|BU 10 84 (.bool (kh&&((decide ((a0.2.2.2.2.2.2.2.2.2.2.1.length:Int)=0))||(decide (a0.2.1=7))))) (fun gu=>?_) ?_
      ·refine Bl (s:=74) Z (fun ad=>?_) (fun ad=>?_)
       ·refine Aa ad<|Ah (Af Z Zs Z C3.e)<|Aa ad<|Ah (Ag 0 Z dd Z)<|Aa ad<|Ah (AX a)<|Aa ad<|Ah (Ad Z)<|Aa ad<|Ah (Ad Z)<|BU 4 83 (.bool ((decide ((a0.2.2.2.2.2.2.2.2.2.2.1.length:Int)=0))||(decide (a0.2.1=7)))) (fun gv=>?_) ?_
        ·refine Bl (s:=79) Z (fun cy=>?_) (fun cy=>?_)
         ·iterate 3 refine Ac cy ?_
          refine Aa ad<|Ah (Aj cy Z)<|gv.to 3 (Gh cy) Z Z
         refine Aa cy<|Ah (Af Z Zs Z B6.e)<|Aa cy<|Ah (Ag 0 Z dd Z)<|Aa cy<|Ah (Ad Z)<|Aa ad<|Ah (An cy Z)<|gv.to 3 (Gi cy) Z Z
        refine Ah (Aj ad Z)<|gu.to 6 (FH ad) Z Z
       iterate 5 refine Ac ad ?_
       iterate 3 refine Au ?_
       refine Ac ad<|Ah (An ad Z)<|gu.to 9 (FI ad) Z Z
      refine Aw 1 Z<|Bj 85 h ?_ ?_<;>intro bb h
      ·refine Aa bb<|Ah (Af Z Zs Z D0.e)<|Aa bb<|Ah (Ag 0 Z dd Z)<|Aa bb<|Ah (AX b)<|Aa bb<|Ah (Ad Z)<|Aa bb<|Ah (Ad Z)<|AU 90 h ?_ ?_<;>intro ez h
       ·iterate 2 refine Ac ez ?_
        refine Aa bb<|Ah (Aj ez Z)<|Ah (Aj bb Z)<|A4 1 Z<|Ay ?_
        cases h
        refine Ak Z ⟨dd.ext,Z⟩
       refine Aa ez<|Ah (Az 0 Z Bp.e dd Z)<|Aa ez<|Ax h fun qc i9 h=>A9 dd (AO _ _ (Al dd) a0 (c.mono  Ai) (a.mono  Ai) (b.mono  Ai) i9) fun qd nn ja lv=>Aa bb<|Ah (An ez Z)<|Ah (Aj bb Z)<|A4 1 Z<|Ay ?_
       cases h
       refine Ak Z ⟨ja.ext,Z⟩
      iterate 5 refine Ac bb ?_
      iterate 2 refine Au ?_
      refine Ac bb<|Ah (An bb Z)<|A4 1 Z<|Ay ?_
      cases h
      refine Ak Z ⟨dd.ext,Z⟩
     iterate 4 refine Ac bs ?_
     iterate 2 refine Au ?_
     refine Ac bs<|Ah (An bs Z)<|Aw 1 Z ?_
     iterate 5 refine Ac Z ?_
     iterate 3 refine Au ?_
     refine Ac Z<|Ah (An Z Z)<|Aw 1 Z ?_
     iterate 5 refine Ac Z ?_
     iterate 2 refine Au ?_
     refine Ac Z<|Ah (An Z Z)<|A4 1 Z<|Ay ?_
     cases h
     refine Ak Z ⟨a9.ext,Z⟩
    refine Aa es<|Ah (Az 0 Z Bp.e f Z)<|Aa es<|Ax h fun qe jb h=>A9 f (DO (a0:=a0) _ _ (Al f) (c.mono  Ai) (a.mono  Ai) (b.mono  Ai) jb) fun qf no m lw=>Aa br<|Ah (An es Z)<|Ah (Aj br Z)<|Aw 1 Z<|Bj 56 h ?_ ?_<;>intro bt h
    ·refine Aa bt<|Ah (Af Z Zs Z B6.e)<|Aa bt<|Ah (Ag 0 Z m Z)<|Aa bt<|Ah (Ad Z)<|Aa bt<|Ah (Ad Z)<|AU 60 h ?_ ?_<;>intro e0 h
     ·iterate 2 refine Ac e0 ?_
      refine Aa bt<|Ah (Aj e0 Z)<|Ah (Aj bt Z)<|Aw 1 Z<|Aa Z<|Ah (Af Z Zs Z B6.e)<|Aa Z<|Ah (Ag 0 Z m Z)<|Aa Z<|Ah (Ad Z)<|Aa Z<|Ah (Ad Z)<|AU 69 h ?_ ?_<;>intro e1 h
      ·iterate 2 refine Ac e1 ?_
       refine Aa Z<|Ah (Aj e1 Z)<|Ah (Aj Z Z)<|Aw 1 Z<|Aa Z<|Ah (Af Z Zs Z C3.e)<|Aa Z<|Ah (Ag 0 Z m Z)<|Aa Z<|Ah (AX a)<|Aa Z<|Ah (Ad Z)<|Aa Z<|Ah (Ad Z)<|BU 4 83 (.bool ((decide ((a0.2.2.2.2.2.2.2.2.2.2.1.length:Int)=0))||(decide (a0.2.1=7)))) (fun gw=>?_) ?_
       ·refine Bl (s:=79) Z (fun cz=>?_) (fun cz=>?_)
        ·iterate 3 refine Ac cz ?_
         refine Aa Z<|Ah (Aj cz Z)<|gw.to 3 (Gh cz) Z Z
        refine Aa cz<|Ah (Af Z Zs Z B6.e)<|Aa cz<|Ah (Ag 0 Z m Z)<|Aa cz<|Ah (Ad Z)<|Aa Z<|Ah (An cz Z)<|gw.to 3 (Gi cz) Z Z
       refine Ah (Aj Z Z)<|Aw 1 Z<|Bj 85 h ?_ ?_<;>intro bc h
       ·refine Aa bc<|Ah (Af Z Zs Z D0.e)<|Aa bc<|Ah (Ag 0 Z m Z)<|Aa bc<|Ah (AX b)<|Aa bc<|Ah (Ad Z)<|Aa bc<|Ah (Ad Z)<|AU 90 h ?_ ?_<;>intro e2 h
        ·iterate 2 refine Ac e2 ?_
         refine Aa bc<|Ah (Aj e2 Z)<|Ah (Aj bc Z)<|A4 1 Z<|Ay ?_
         cases h
         refine Ak Z ⟨m.ext,Z⟩
        refine Aa e2<|Ah (Az 0 Z Bp.e m Z)<|Aa e2<|Ax h fun qg jc h=>A9 m (AO _ _ (Al m) a0 (c.mono  Ai) (a.mono  Ai) (b.mono  Ai) jc) fun qh np jd lx=>Aa bc<|Ah (An e2 Z)<|Ah (Aj bc Z)<|A4 1 Z<|Ay ?_
        cases h
        refine Ak Z ⟨jd.ext,Z⟩
       iterate 5 refine Ac bc ?_
       iterate 2 refine Au ?_
       refine Ac bc<|Ah (An bc Z)<|A4 1 Z<|Ay ?_
       cases h
       refine Ak Z ⟨m.ext,Z⟩
      refine Aa e1<|Ah (Az 0 Z Bp.e m Z)<|Aa e1<|Ax h fun ki je h=>A9 m (B5 (a0:=a0) _ _ (Al m) (c.mono  Ai) (a.mono  Ai) (b.mono  Ai) je) fun qi nq de ly=>Aa Z<|Ah (An e1 Z)<|Ah (Aj Z Z)<|Aw 1 Z<|BU 10 84 (.bool (ki&&((decide ((a0.2.2.2.2.2.2.2.2.2.2.1.length:Int)=0))||(decide (a0.2.1=7))))) (fun gx=>?_) ?_
      ·refine Bl (s:=74) Z (fun ae=>?_) (fun ae=>?_)
       ·refine Aa ae<|Ah (Af Z Zs Z C3.e)<|Aa ae<|Ah (Ag 0 Z de Z)<|Aa ae<|Ah (AX a)<|Aa ae<|Ah (Ad Z)<|Aa ae<|Ah (Ad Z)<|BU 4 83 (.bool ((decide ((a0.2.2.2.2.2.2.2.2.2.2.1.length:Int)=0))||(decide (a0.2.1=7)))) (fun gy=>?_) ?_
        ·refine Bl (s:=79) Z (fun c0=>?_) (fun c0=>?_)
         ·iterate 3 refine Ac c0 ?_
          refine Aa ae<|Ah (Aj c0 Z)<|gy.to 3 (Gh c0) Z Z
         refine Aa c0<|Ah (Af Z Zs Z B6.e)<|Aa c0<|Ah (Ag 0 Z de Z)<|Aa c0<|Ah (Ad Z)<|Aa ae<|Ah (An c0 Z)<|gy.to 3 (Gi c0) Z Z
        refine Ah (Aj ae Z)<|gx.to 6 (FH ae) Z Z
       iterate 5 refine Ac ae ?_
       iterate 3 refine Au ?_
       refine Ac ae<|Ah (An ae Z)<|gx.to 9 (FI ae) Z Z
      refine Aw 1 Z<|Bj 85 h ?_ ?_<;>intro bd h
      ·refine Aa bd<|Ah (Af Z Zs Z D0.e)<|Aa bd<|Ah (Ag 0 Z de Z)<|Aa bd<|Ah (AX b)<|Aa bd<|Ah (Ad Z)<|Aa bd<|Ah (Ad Z)<|AU 90 h ?_ ?_<;>intro e3 h
       ·iterate 2 refine Ac e3 ?_
        refine Aa bd<|Ah (Aj e3 Z)<|Ah (Aj bd Z)<|A4 1 Z<|Ay ?_
        cases h
        refine Ak Z ⟨de.ext,Z⟩
       refine Aa e3<|Ah (Az 0 Z Bp.e de Z)<|Aa e3<|Ax h fun qj jf h=>A9 de (AO _ _ (Al de) a0 (c.mono  Ai) (a.mono  Ai) (b.mono  Ai) jf) fun qk nr jg lz=>Aa bd<|Ah (An e3 Z)<|Ah (Aj bd Z)<|A4 1 Z<|Ay ?_
       cases h
       refine Ak Z ⟨jg.ext,Z⟩
      iterate 5 refine Ac bd ?_
      iterate 2 refine Au ?_
      refine Ac bd<|Ah (An bd Z)<|A4 1 Z<|Ay ?_
      cases h
      refine Ak Z ⟨de.ext,Z⟩
     refine Aa e0<|Ah (Az 0 Z Bp.e m Z)<|Aa e0<|Ax h fun ql jh h=>A9 m (BL (a0:=a0) _ _ (Al m) (c.mono  Ai) (a.mono  Ai) (b.mono  Ai) jh) fun qm ns be l0=>Aa bt<|Ah (An e0 Z)<|Ah (Aj bt Z)<|Aw 1 Z<|Bj 65 h ?_ ?_<;>intro bu h
     ·refine Aa bu<|Ah (Af Z Zs Z B6.e)<|Aa bu<|Ah (Ag 0 Z be Z)<|Aa bu<|Ah (Ad Z)<|Aa bu<|Ah (Ad Z)<|AU 69 h ?_ ?_<;>intro e4 h
      ·iterate 2 refine Ac e4 ?_
       refine Aa bu<|Ah (Aj e4 Z)<|Ah (Aj bu Z)<|Aw 1 Z<|Aa Z<|Ah (Af Z Zs Z C3.e)<|Aa Z<|Ah (Ag 0 Z be Z)<|Aa Z<|Ah (AX a)<|Aa Z<|Ah (Ad Z)<|Aa Z<|Ah (Ad Z)<|BU 4 83 (.bool ((decide ((a0.2.2.2.2.2.2.2.2.2.2.1.length:Int)=0))||(decide (a0.2.1=7)))) (fun gz=>?_) ?_
       ·refine Bl (s:=79) Z (fun c1=>?_) (fun c1=>?_)
        ·iterate 3 refine Ac c1 ?_
         refine Aa Z<|Ah (Aj c1 Z)<|gz.to 3 (Gh c1) Z Z
        refine Aa c1<|Ah (Af Z Zs Z B6.e)<|Aa c1<|Ah (Ag 0 Z be Z)<|Aa c1<|Ah (Ad Z)<|Aa Z<|Ah (An c1 Z)<|gz.to 3 (Gi c1) Z Z
       refine Ah (Aj Z Z)<|Aw 1 Z<|Bj 85 h ?_ ?_<;>intro bf h
       ·refine Aa bf<|Ah (Af Z Zs Z D0.e)<|Aa bf<|Ah (Ag 0 Z be Z)<|Aa bf<|Ah (AX b)<|Aa bf<|Ah (Ad Z)<|Aa bf<|Ah (Ad Z)<|AU 90 h ?_ ?_<;>intro e5 h
        ·iterate 2 refine Ac e5 ?_
         refine Aa bf<|Ah (Aj e5 Z)<|Ah (Aj bf Z)<|A4 1 Z<|Ay ?_
         cases h
         refine Ak Z ⟨be.ext,Z⟩
        refine Aa e5<|Ah (Az 0 Z Bp.e be Z)<|Aa e5<|Ax h fun qn ji h=>A9 be (AO _ _ (Al be) a0 (c.mono  Ai) (a.mono  Ai) (b.mono  Ai) ji) fun qo nt jj l1=>Aa bf<|Ah (An e5 Z)<|Ah (Aj bf Z)<|A4 1 Z<|Ay ?_
        cases h
        refine Ak Z ⟨jj.ext,Z⟩
       iterate 5 refine Ac bf ?_
       iterate 2 refine Au ?_
       refine Ac bf<|Ah (An bf Z)<|A4 1 Z<|Ay ?_
       cases h
       refine Ak Z ⟨be.ext,Z⟩
      refine Aa e4<|Ah (Az 0 Z Bp.e be Z)<|Aa e4<|Ax h fun kj jk h=>A9 be (B5 (a0:=a0) _ _ (Al be) (c.mono  Ai) (a.mono  Ai) (b.mono  Ai) jk) fun qp nu df l2=>Aa bu<|Ah (An e4 Z)<|Ah (Aj bu Z)<|Aw 1 Z<|BU 10 84 (.bool (kj&&((decide ((a0.2.2.2.2.2.2.2.2.2.2.1.length:Int)=0))||(decide (a0.2.1=7))))) (fun g0=>?_) ?_
      ·refine Bl (s:=74) Z (fun af=>?_) (fun af=>?_)
       ·refine Aa af<|Ah (Af Z Zs Z C3.e)<|Aa af<|Ah (Ag 0 Z df Z)<|Aa af<|Ah (AX a)<|Aa af<|Ah (Ad Z)<|Aa af<|Ah (Ad Z)<|BU 4 83 (.bool ((decide ((a0.2.2.2.2.2.2.2.2.2.2.1.length:Int)=0))||(decide (a0.2.1=7)))) (fun g1=>?_) ?_
        ·refine Bl (s:=79) Z (fun c2=>?_) (fun c2=>?_)
         ·iterate 3 refine Ac c2 ?_
          refine Aa af<|Ah (Aj c2 Z)<|g1.to 3 (Gh c2) Z Z
         refine Aa c2<|Ah (Af Z Zs Z B6.e)<|Aa c2<|Ah (Ag 0 Z df Z)<|Aa c2<|Ah (Ad Z)<|Aa af<|Ah (An c2 Z)<|g1.to 3 (Gi c2) Z Z
        refine Ah (Aj af Z)<|g0.to 6 (FH af) Z Z
       iterate 5 refine Ac af ?_
       iterate 3 refine Au ?_
       refine Ac af<|Ah (An af Z)<|g0.to 9 (FI af) Z Z
      refine Aw 1 Z<|Bj 85 h ?_ ?_<;>intro bg h
      ·refine Aa bg<|Ah (Af Z Zs Z D0.e)<|Aa bg<|Ah (Ag 0 Z df Z)<|Aa bg<|Ah (AX b)<|Aa bg<|Ah (Ad Z)<|Aa bg<|Ah (Ad Z)<|AU 90 h ?_ ?_<;>intro e6 h
       ·iterate 2 refine Ac e6 ?_
        refine Aa bg<|Ah (Aj e6 Z)<|Ah (Aj bg Z)<|A4 1 Z<|Ay ?_
        cases h
        refine Ak Z ⟨df.ext,Z⟩
       refine Aa e6<|Ah (Az 0 Z Bp.e df Z)<|Aa e6<|Ax h fun qq jl h=>A9 df (AO _ _ (Al df) a0 (c.mono  Ai) (a.mono  Ai) (b.mono  Ai) jl) fun qr nv jm l3=>Aa bg<|Ah (An e6 Z)<|Ah (Aj bg Z)<|A4 1 Z<|Ay ?_
       cases h
       refine Ak Z ⟨jm.ext,Z⟩
      iterate 5 refine Ac bg ?_
      iterate 2 refine Au ?_
      refine Ac bg<|Ah (An bg Z)<|A4 1 Z<|Ay ?_
      cases h
      refine Ak Z ⟨df.ext,Z⟩
     iterate 4 refine Ac bu ?_
     iterate 2 refine Au ?_
     refine Ac bu<|Ah (An bu Z)<|Aw 1 Z ?_
     iterate 5 refine Ac Z ?_
     iterate 3 refine Au ?_
     refine Ac Z<|Ah (An Z Z)<|Aw 1 Z ?_
     iterate 5 refine Ac Z ?_
     iterate 2 refine Au ?_
     refine Ac Z<|Ah (An Z Z)<|A4 1 Z<|Ay ?_
     cases h
     refine Ak Z ⟨be.ext,Z⟩
    iterate 4 refine Ac bt ?_
    iterate 2 refine Au ?_
    refine Ac bt<|Ah (An bt Z)<|Aw 1 Z ?_
    iterate 4 refine Ac Z ?_
    iterate 2 refine Au ?_
    refine Ac Z<|Ah (An Z Z)<|Aw 1 Z ?_
    iterate 5 refine Ac Z ?_
    iterate 3 refine Au ?_
    refine Ac Z<|Ah (An Z Z)<|Aw 1 Z ?_
    iterate 5 refine Ac Z ?_
    iterate 2 refine Au ?_
    refine Ac Z<|Ah (An Z Z)<|A4 1 Z<|Ay ?_
    cases h
    refine Ak Z ⟨m.ext,Z⟩
   iterate 4 refine Ac br ?_
   iterate 2 refine Au ?_
   refine Ac br<|Ah (An br Z)<|Aw 1 Z ?_
   iterate 4 refine Ac Z ?_
   iterate 2 refine Au ?_
   refine Ac Z<|Ah (An Z Z)<|Aw 1 Z ?_
   iterate 4 refine Ac Z ?_
   iterate 2 refine Au ?_
   refine Ac Z<|Ah (An Z Z)<|Aw 1 Z ?_
   iterate 5 refine Ac Z ?_
   iterate 3 refine Au ?_
   refine Ac Z<|Ah (An Z Z)<|Aw 1 Z ?_
   iterate 5 refine Ac Z ?_
   iterate 2 refine Au ?_
   refine Ac Z<|Ah (An Z Z)<|A4 1 Z<|Ay ?_
   cases h
   refine Ak Z ⟨f.ext,Z⟩
  iterate 4 refine Ac bm ?_
  iterate 2 refine Au ?_
  refine Ac bm<|Ah (An bm Z)<|Aw 1 Z ?_
  iterate 4 refine Ac Z ?_
  iterate 3 refine Au ?_
  iterate 2 refine Ac Z ?_
  refine Au<|Ac Z<|Ah (An Z Z)<|Aw 1 Z ?_
  iterate 4 refine Ac Z ?_
  iterate 2 refine Au ?_
  refine Ac Z<|Ah (An Z Z)<|Aw 1 Z ?_
  iterate 4 refine Ac Z ?_
  iterate 2 refine Au ?_
  refine Ac Z<|Ah (An Z Z)<|Aw 1 Z ?_
  iterate 4 refine Ac Z ?_
  iterate 2 refine Au ?_
  refine Ac Z<|Ah (An Z Z)<|Aw 1 Z ?_
  iterate 5 refine Ac Z ?_
  iterate 3 refine Au ?_
  refine Ac Z<|Ah (An Z Z)<|Aw 1 Z ?_
  iterate 5 refine Ac Z ?_
  iterate 2 refine Au ?_
  refine Ac Z<|Ah (An Z Z)<|A4 1 Z<|Ay ?_
  cases h
  refine Ak Z ⟨d.ext,Z⟩
 iterate 4 refine Ac dq ?_
 iterate 2 refine Au ?_
 refine Ac dq<|Ah (An dq Z)<|Aw 1 Z ?_
 iterate 4 refine Ac Z ?_
 iterate 2 refine Au ?_
 refine Ac Z<|Ah (An Z Z)<|Aw 1 Z ?_
 iterate 4 refine Ac Z ?_
 iterate 3 refine Au ?_
 iterate 2 refine Ac Z ?_
 refine Au<|Ac Z<|Ah (An Z Z)<|Aw 1 Z ?_
 iterate 4 refine Ac Z ?_
 iterate 2 refine Au ?_
 refine Ac Z<|Ah (An Z Z)<|Aw 1 Z ?_
 iterate 4 refine Ac Z ?_
 iterate 2 refine Au ?_
 refine Ac Z<|Ah (An Z Z)<|Aw 1 Z ?_
 iterate 4 refine Ac Z ?_
 iterate 2 refine Au ?_
 refine Ac Z<|Ah (An Z Z)<|Aw 1 Z ?_
 iterate 5 refine Ac Z ?_
 iterate 3 refine Au ?_
 refine Ac Z<|Ah (An Z Z)<|Aw 1 Z ?_
 iterate 5 refine Ac Z ?_
 iterate 2 refine Au ?_
 refine Ac Z<|Ah (An Z Z)<|A4 1 Z<|Ay ?_
 cases h
 refine Ak Z ⟨g.ext,Z⟩
end
def FB(a0 a1:Int):Option Bool:=
 Bi (BX (a1 - 1)) (QqB (GB a0 (0:Int) (a1 - 1)) (fun a=>some a))
theorem I5{a w:World}{H:PH}(hH:Le H (hp a)){O:List BS}{a0 a1:Int}{ba1:Nat}(hL:AZ a (Ha [.box ba1 [No a1] 3] O) w){r:Bool}(h:FB a0 a1=some r):
  Ok prog 179 [No a0,Ze ba1] w (fun v w'=>v=.bool r/\AZ a (Ha [.box ba1 [No a1] 3] O) w'/\Le (fz w (Ha [.box ba1 [No a1] 3] O)) (fz w' (Ha [.box ba1 [No a1] 3] O))):=by
 refine BF (n:=8) [(0,No a0),(1,(Ze ba1))] func179 Z Z Z Z ?_;have hT:=Le.refl (fz w (Ha [.box ba1 [No a1] 3] O));refine AI 1 Z<|BN 1 Z<|Ah (Ag 0 Z hL Z)<|A8 h fun c h=>Ah (AH c)<|Ax h fun g d h=>A9 hL (Hx _ _ (Al hL) d) fun i f e b=>A4 1 Z<|Ay ?_
 cases h
 refine Ak Z ?_;have hT:=hT.trans b;exact⟨Z,e,hT⟩
def Ik(a0 a1_0_c0:Int):Option Bool:=
 QqB (FB a0 a1_0_c0) (fun a=>some (!a))
theorem Ns{a w:World}{H:PH}(hH:Le H (hp a)){O:List BS}{a0 a1_0_c0:Int}{ba1 ba1_0_c0:Nat}(hL:AZ a (Ha [.box ba1 [.func (.func 179) #[] #[Ze ba1_0_c0]] 113,.box ba1_0_c0 [No a1_0_c0] 3] O) w){r:Bool}(h:Ik a0 a1_0_c0=some r):
  Ok prog 180 [No a0,Ze ba1] w (fun v w'=>v=.bool r/\AZ a (Ha [.box ba1 [.func (.func 179) #[] #[Ze ba1_0_c0]] 113,.box ba1_0_c0 [No a1_0_c0] 3] O) w'/\Le (fz w (Ha [.box ba1 [.func (.func 179) #[] #[Ze ba1_0_c0]] 113,.box ba1_0_c0 [No a1_0_c0] 3] O)) (fz w' (Ha [.box ba1 [.func (.func 179) #[] #[Ze ba1_0_c0]] 113,.box ba1_0_c0 [No a1_0_c0] 3] O))):=by
 refine BF (n:=8) [(0,No a0),(1,(Ze ba1))] func180 Z Z Z Z ?_;have hT:=Le.refl (fz w (Ha [.box ba1 [.func (.func 179) #[] #[Ze ba1_0_c0]] 113,.box ba1_0_c0 [No a1_0_c0] 3] O));refine AI 1 Z<|Av<|Ah (Ag 0 Z hL Z)<|Aw 1 Z ?_;have b:AZ a (Ha [.box ba1_0_c0 [No a1_0_c0] 3,.box ba1 [.func (.func 179) #[] #[Ze ba1_0_c0]] 113] O) w:=hL.Bo [1] Z;have e:=AF [1] hL b Z;refine Ax h fun k i h=>BD Z Z (I5 (a0:=a0) (a1:=a1_0_c0) (O:=(Ha [.box ba1 [.func (.func 179) #[] #[Ze ba1_0_c0]] 113] O)) hH b i) ?_;rintro _ j ⟨rfl,c,f⟩;refine A4 2 Z<|Ay ?_
 cases h
 refine Ak Z ?_;have d:AZ a (Ha [.box ba1 [.func (.func 179) #[] #[Ze ba1_0_c0]] 113,.box ba1_0_c0 [No a1_0_c0] 3] O) j:=c.Bo [1] Z;have g:=AF [1] c d Z;have hT:=hT.trans (e.trans (f.trans g));exact⟨Z,d,hT⟩
def DE:Option Int:=
 some ((-1))
def Dx(a0:QqX)(a1_c0_0_c0:Int):Int->Option ((Int)⊕(Int)):=fun a=>
 if a<(a0.length:Int)then Bi (0<=a/\a<(a0.length:Int)) (QqB (Ik (a0.getD a.toNat Qqf) a1_c0_0_c0) (fun b=>if b then QqD Sum.inr (some a)else Bi (BX (a+1)) (some (Sum.inl (a+1)))))else QqD Sum.inr DE
def ET(a0:QqX)(a1_c0_0_c0 s:Int):Option Int:=Go.L.run (Dx a0 a1_c0_0_c0) s
def Ep(a0:QqX)(a1_c0_0_c0:Int):Option Int:=
 (ET a0 a1_c0_0_c0) (0:Int)
theorem Ks{d w:World}{H:PH}(hH:Le H (hp d)){O:List BS}{a0:QqX}{a1_c0_0_c0:Int}{va0:Value}{ba1_c0 ba1_c0_0_c0:Nat}(hL:AZ d (Ha [.box ba1_c0 [.func (.func 179) #[] #[Ze ba1_c0_0_c0]] 113,.box ba1_c0_0_c0 [No a1_c0_0_c0] 3] O) w)(k:AD (.int .i64) (gz H d w (Ha [.box ba1_c0 [.func (.func 179) #[] #[Ze ba1_c0_0_c0]] 113,.box ba1_c0_0_c0 [No a1_c0_0_c0] 3] O)) va0 a0){r:Int}(h:Ep a0 a1_c0_0_c0=some r):
  Ok prog 61 [va0,.func (.func 180) #[] #[Ze ba1_c0]] w (fun v w'=>v=No r/\AZ d (Ha [.box ba1_c0 [.func (.func 179) #[] #[Ze ba1_c0_0_c0]] 113,.box ba1_c0_0_c0 [No a1_c0_0_c0] 3] O) w'/\Le (fz w (Ha [.box ba1_c0 [.func (.func 179) #[] #[Ze ba1_c0_0_c0]] 113,.box ba1_c0_0_c0 [No a1_c0_0_c0] 3] O)) (fz w' (Ha [.box ba1_c0 [.func (.func 179) #[] #[Ze ba1_c0_0_c0]] 113,.box ba1_c0_0_c0 [No a1_c0_0_c0] 3] O))):=by
 refine BF (n:=19) [(0,va0),(1,.func (.func 180) #[] #[Ze ba1_c0])] func61 Z Z Z Z ?_;have hT:=Le.refl (fz w (Ha [.box ba1_c0 [.func (.func 179) #[] #[Ze ba1_c0_0_c0]] 113,.box ba1_c0_0_c0 [No a1_c0_0_c0] 3] O));refine AI 1 Z<|Bs Unit (fun(_:Unit)=>[]) (fun(_:Unit) wr=>DK d (Ha [.box ba1_c0 [.func (.func 179) #[] #[Ze ba1_c0_0_c0]] 113,.box ba1_c0_0_c0 [No a1_c0_0_c0] 3] O) wr fun Oz=>Le (fz w (Ha [.box ba1_c0 [.func (.func 179) #[] #[Ze ba1_c0_0_c0]] 113,.box ba1_c0_0_c0 [No a1_c0_0_c0] 3] O)) (fz wr Oz)/\DE=some r) ?_ ?_
 ·refine BN 1 Z<|Ah (AX k)<|A4 1 Z<|AA ?_;obtain⟨g,h⟩:=Bf h;refine BB (Int×Nat) (fun⟨a,n⟩=>[(0,va0),(1,.func (.func 180) #[] #[Ze ba1_c0]),(7,No (a0.length:Int)),(8,No a)]) (fun⟨a,n⟩ wr=>DK d (Ha [.box ba1_c0 [.func (.func 179) #[] #[Ze ba1_c0_0_c0]] 113,.box ba1_c0_0_c0 [No a1_c0_0_c0] 3] O) wr fun Oz=>AD (.int .i64) (gz H d wr Oz) va0 a0/\Le (fz w (Ha [.box ba1_c0 [.func (.func 179) #[] #[Ze ba1_c0_0_c0]] 113,.box ba1_c0_0_c0 [No a1_c0_0_c0] 3] O)) (fz wr Oz)/\FX (Dx a0 a1_c0_0_c0) n a=some r) (fun⟨a,n⟩=>n) (0,g) Z ⟨hL,k,hT,h⟩ ?_;rintro⟨a,nn42⟩ t ⟨e,b,hT,h⟩;obtain⟨g,x,rfl,h,f⟩:=Bd h;refine AI 1 Z<|AN<|AY h ?_ ?_<;>intro l h
  ·refine A5<|A3<|AN<|AA<|AI 2 Z<|BN 3 Z<|A8 h fun i h=>Bb b a.toNat (Dw i) (AK i) ?_;rintro y _ rfl m;refine Ah (AV m (Al e))<|Ax h fun z o h=>BD Z Z (Ns (a0:=(a0.getD a.toNat Qqf)) (a1_0_c0:=a1_c0_0_c0) (O:=(Ha [] O)) hH e o) ?_;rintro _ aa ⟨rfl,j,c⟩;refine Am<|Bm h ?_ ?_<;>intro p h
   ·refine AI 2 Z<|Ay<|A1<|AE<|BQ ?_;have h:=Ct.out h f;refine A1<|BC ?_
    cases h
    refine Ak Z ?_;have hT:=hT.trans c;exact⟨Z,j,hT⟩
   refine A5<|AB<|A3<|A2<|A8 h fun q h=>Ah (AH q)<|Aw 1 Z<|AQ ?_;have h:=Ct.again h f;have b:=b.mono (Ab c);have hT:=hT.trans c;refine AS (_,_) ⟨j,b,hT,h⟩
  refine BA<|AP<|AJ ?_;have h:=Ct.out h f;refine Bu<|A7 () ⟨e,hT,h⟩
 rintro _ u ⟨s,hT,h⟩;refine AI 1 Z<|Ay ?_
 cases h
 refine Ak Z ⟨Z,s,hT⟩
def DF(a0:QqX)(a1_c0_0_c0:Int):Option Bool:=
 QqB (Ep a0 a1_c0_0_c0) (fun a=>some (decide (0<=a)))
theorem Jx{a w:World}{H:PH}(hH:Le H (hp a)){O:List BS}{a0:QqX}{a1_c0_0_c0:Int}{va0:Value}{ba1_c0 ba1_c0_0_c0:Nat}(hL:AZ a (Ha [.box ba1_c0 [.func (.func 179) #[] #[Ze ba1_c0_0_c0]] 113,.box ba1_c0_0_c0 [No a1_c0_0_c0] 3] O) w)(c:AD (.int .i64) (gz H a w (Ha [.box ba1_c0 [.func (.func 179) #[] #[Ze ba1_c0_0_c0]] 113,.box ba1_c0_0_c0 [No a1_c0_0_c0] 3] O)) va0 a0){r:Bool}(h:DF a0 a1_c0_0_c0=some r):
  Ok prog 161 [va0,.func (.func 180) #[] #[Ze ba1_c0]] w (fun v w'=>v=.bool r/\AZ a (Ha [.box ba1_c0 [.func (.func 179) #[] #[Ze ba1_c0_0_c0]] 113,.box ba1_c0_0_c0 [No a1_c0_0_c0] 3] O) w'/\Le (fz w (Ha [.box ba1_c0 [.func (.func 179) #[] #[Ze ba1_c0_0_c0]] 113,.box ba1_c0_0_c0 [No a1_c0_0_c0] 3] O)) (fz w' (Ha [.box ba1_c0 [.func (.func 179) #[] #[Ze ba1_c0_0_c0]] 113,.box ba1_c0_0_c0 [No a1_c0_0_c0] 3] O))):=by
 refine BF (n:=9) [(0,va0),(1,.func (.func 180) #[] #[Ze ba1_c0])] func161 Z Z Z Z ?_;have hT:=Le.refl (fz w (Ha [.box ba1_c0 [.func (.func 179) #[] #[Ze ba1_c0_0_c0]] 113,.box ba1_c0_0_c0 [No a1_c0_0_c0] 3] O));refine AI 1 Z<|BN 2 Z<|Ax h fun f d h=>BR (Ks (a0:=a0) (a1_c0_0_c0:=a1_c0_0_c0) (O:=(Ha [] O)) hH hL c d) ?_;rintro _ g ⟨rfl,e,b⟩;refine A4 2 Z<|Ay ?_
 cases h
 refine Ak Z ?_;have hT:=hT.trans b;exact⟨Z,e,hT⟩
def JB(a0:ZJ)(a1:Int):Option Bool:=
 if a0.2.1=2 then QqB (GB a0.2.2.2.1 (1:Int) (4:Int)) (fun f=>if f then QqB (GB a0.2.2.2.2.2.1 (0:Int) a0.2.2.2.2.2.2.1) (fun a=>if a then Bi (BX (8 * a0.2.2.2.1)) (Bi ((0<=(8 * a0.2.2.2.1)/\(8 * a0.2.2.2.1)<=63)/\BX (1 * 2 ^ (8 * a0.2.2.2.1).toNat)) (some (decide (a0.2.2.2.2.2.2.1<(1 * 2 ^ (8 * a0.2.2.2.1).toNat)))))else some false)else some false)else(if a0.2.1=3 then none else(if a0.2.1=4 then none else(if a0.2.1=5 then none else(if a0.2.1=9 then QqB (GB a0.2.2.2.2.2.2.2.1 (0:Int) (255:Int)) (fun b=>if b then QqB (FB a0.2.2.2.2.2.2.2.2.2.1 a1) (fun c=>some c)else some false)else(if a0.2.1=6 then none else(if a0.2.1=10 then QqB (FB a0.2.2.2.2.2.2.2.2.1 a1) (fun d=>some d)else QqB (DF a0.2.2.2.2.2.2.2.2.2.2.2 a1) (fun e=>some (!e))))))))
section
variable(w:World)(H:PH)(hH:Le H (hp w)) include hH
theorem Of{a0:ZJ}{a1:Int}{c d e:Value}(_h0_0:AD .byte H c (a0.2.2.1))(_h0_1:AD .st H d (a0.2.2.2.2.2.2.2.2.2.2.1))(o:AD (.int .i64) H e (a0.2.2.2.2.2.2.2.2.2.2.2)){r:Bool}(h:JB a0 a1=some r):
  Zy 156 [.agg #[Zf a0.1,No a0.2.1,c,No a0.2.2.2.1,.bool a0.2.2.2.2.1,No a0.2.2.2.2.2.1,No a0.2.2.2.2.2.2.1,No a0.2.2.2.2.2.2.2.1,No a0.2.2.2.2.2.2.2.2.1,No a0.2.2.2.2.2.2.2.2.2.1,d,e],No a1] w (fun v w'=>v=.bool r):=by
 refine AL 95 [(0,.agg #[Zf a0.1,No a0.2.1,c,No a0.2.2.2.1,.bool a0.2.2.2.2.1,No a0.2.2.2.2.2.1,No a0.2.2.2.2.2.2.1,No a0.2.2.2.2.2.2.2.1,No a0.2.2.2.2.2.2.2.2.1,No a0.2.2.2.2.2.2.2.2.2.1,d,e]),(1,No a1)] func156 Z fun hL=>Av<|C1 (t:=53) Z Z hL fun w1 l av a8 _=>Pk (t:=3) Z Z av fun w2 k aw a9 _=>A4 1 Z<|BN 1 Z<|AG SI.e Z aw fun w3 m ax ba _=>Bc 0 Z Z Z ax Z Z fun w4 g bc=>Am<|AN<|Av<|Ah (Af Z Zs Z B6.e)<|Ah (Ag 2 Z g Z)<|Am<|AA<|AI 2 Z<|AY h ?_ ?_<;>intro ay h
 ·refine Dq (ZX 0 20 (.tail 20)) mixed V (fun w7 az=>?_);have i:=g.call az;refine B9 Z (Af Z Zs Z B6.e) Z<|B9 Z (Ag 2 Z i Z) Z<|Ax h fun x9 a2 h=>HP Z Z Z (fun bg bd=>Hx _ _ (Le.refl _) a2)<|BW 1 Z<|IP 14 Z (fun b=>?_) (fun b=>?_)
  ·have h:=Lo b h;refine D4 Z (Af Z Zs Z B6.e) Z Z Z b Z<|D4 Z (Ag 2 Z i Z) Z Z Z b Z<|D4 Z (Af Z Zs Z B6.e) Z Z Z b Z<|D4 Z (Ag 2 Z i Z) Z Z Z b Z<|Ax h fun bh p h=>S3 Z Z Z Z b Z Z (fun bi be=>Hx _ _ (Le.refl _) p)<|B9 Z (Aj b Z) Z<|BW 1 Z<|IP 21 Z (fun a=>?_) (fun a=>?_)
   ·have h:=Lo a h;refine D4 Z (Af Z Zs Z B6.e) Z Z Z a Z<|D4 Z (Ag 2 Z i Z) Z Z Z a Z<|D4 Z (Af Z Zs Z B6.e) Z Z Z a Z<|D4 Z (Ag 2 Z i Z) Z Z Z a Z<|A8 h fun u h=>D4 Z (AH u) Z Z Z a Z<|A8 h fun x h=>D4 Z (Uc x) Z Z Z a Z<|D4 Z (Ad Z) Z Z Z a Z<|B9 Z (Aj a Z) Z<|BW 1 Z<|BM (fun bj y=>?_);have z:=i.call y;refine Am<|Ay<|A1<|AE ?_
    cases h
    refine Ak Z ⟨z.ext,Z⟩
   have h:=Lp a h
   iterate 7 refine MG Z Z Z Z a Z ?_
   refine B9 Z (An a Z) Z<|BW 1 Z<|BM (fun bk aa=>?_);have ab:=i.call aa;refine Am<|Ay<|A1<|AE ?_
   cases h
   refine Ak Z ⟨ab.ext,Z⟩
  have h:=Lp b h
  iterate 5 refine MG Z Z Z Z b Z ?_
  refine B9 Z (An b Z) Z<|BW 1 Z ?_
  iterate 7 refine MG Z Z Z Z Z Z ?_
  refine B9 Z (An Z Z) Z<|BW 1 Z<|BM (fun bl ac=>?_);have ad:=i.call ac;refine Am<|Ay<|A1<|AE ?_
  cases h
  refine Ak Z ⟨ad.ext,Z⟩
 refine AI 2 Z<|AY h ?_ ?_<;>intro ae h
 ·cases h
 refine AI 2 Z<|AY h ?_ ?_<;>intro af h
 ·cases h
 refine AI 2 Z<|AY h ?_ ?_<;>intro ag h
 ·cases h
 refine AI 2 Z<|AY h ?_ ?_<;>intro ah h
 ·refine Av<|Ah (Af Z Zs Z B6.e)<|Ah (Ag 2 Z g Z)<|Ax h fun bm ai h=>A9 g (Hx _ _ (Al g) ai) fun a3 bf j a4=>Aw 1 Z<|Bj 66 h ?_ ?_<;>intro f h
  ·refine Aa f<|Ah (Ag 0 Z j Z)<|Aa f<|Ah (Af Z Zs Z B6.e)<|Aa f<|Ah (Ag 2 Z j Z)<|Aa f ?_;have aj:AZ w [.box k [No a1] 3,.box m [.func (.func 179) #[] #[Ze k]] 113,.box l [Zf a0.1,No a0.2.1,c,No a0.2.2.2.1,.bool a0.2.2.2.2.1,No a0.2.2.2.2.2.1,No a0.2.2.2.2.2.2.1,No a0.2.2.2.2.2.2.2.1,No a0.2.2.2.2.2.2.2.2.1,No a0.2.2.2.2.2.2.2.2.2.1,d,e] 53] a3:=j.Bo [1] Z;refine Ax h fun bn ak h=>BD Z Z (I5 (a0:=a0.2.2.2.2.2.2.2.2.2.1) (a1:=a1) (O:=[.box m [.func (.func 179) #[] #[Ze k]] 113,.box l [Zf a0.1,No a0.2.1,c,No a0.2.2.2.1,.bool a0.2.2.2.2.1,No a0.2.2.2.2.2.1,No a0.2.2.2.2.2.2.1,No a0.2.2.2.2.2.2.2.1,No a0.2.2.2.2.2.2.2.2.1,No a0.2.2.2.2.2.2.2.2.2.1,d,e] 53]) hH aj ak) ?_;rintro _ bo ⟨rfl,al,a5⟩;refine Ah (Aj f Z)<|A4 1 Z<|Ay<|A1<|AE ?_
   cases h
   refine Ak Z ⟨al.ext,Z⟩
  iterate 4 refine Ac f ?_
  refine Ah (An f Z)<|A4 1 Z<|Ay<|A1<|AE ?_
  cases h
  refine Ak Z ⟨j.ext,Z⟩
 refine AI 2 Z<|AY h ?_ ?_<;>intro am h
 ·cases h
 refine AI 2 Z<|AY h ?_ ?_<;>intro an h
 ·refine Av<|Ah (Ag 0 Z g Z)<|Ah (Af Z Zs Z B6.e)<|Ah (Ag 2 Z g Z) ?_;have ao:AZ w [.box k [No a1] 3,.box m [.func (.func 179) #[] #[Ze k]] 113,.box l [Zf a0.1,No a0.2.1,c,No a0.2.2.2.1,.bool a0.2.2.2.2.1,No a0.2.2.2.2.2.1,No a0.2.2.2.2.2.2.1,No a0.2.2.2.2.2.2.2.1,No a0.2.2.2.2.2.2.2.2.1,No a0.2.2.2.2.2.2.2.2.2.1,d,e] 53] w4:=g.Bo [1] Z;refine Ax h fun bp ap h=>BD Z Z (I5 (a0:=a0.2.2.2.2.2.2.2.2.1) (a1:=a1) (O:=[.box m [.func (.func 179) #[] #[Ze k]] 113,.box l [Zf a0.1,No a0.2.1,c,No a0.2.2.2.1,.bool a0.2.2.2.2.1,No a0.2.2.2.2.2.1,No a0.2.2.2.2.2.2.1,No a0.2.2.2.2.2.2.2.1,No a0.2.2.2.2.2.2.2.2.1,No a0.2.2.2.2.2.2.2.2.2.1,d,e] 53]) hH ao ap) ?_;rintro _ bq ⟨rfl,aq,a6⟩;refine A4 1 Z<|Ay<|A1<|AE ?_
  cases h
  refine Ak Z ⟨aq.ext,Z⟩
 refine A5<|AB<|A3<|Av<|Ah (Af Z Zs Z D0.e)<|Ah (Ag 2 Z g Z)<|Aw 1 Z<|Ax h fun br ar h=>BR (Jx (a0:=a0.2.2.2.2.2.2.2.2.2.2.2) (a1_c0_0_c0:=a1) (O:=[.box l [Zf a0.1,No a0.2.1,c,No a0.2.2.2.1,.bool a0.2.2.2.2.1,No a0.2.2.2.2.2.1,No a0.2.2.2.2.2.2.1,No a0.2.2.2.2.2.2.2.1,No a0.2.2.2.2.2.2.2.2.1,No a0.2.2.2.2.2.2.2.2.2.1,d,e] 53]) hH g (o.mono  Ai) ar) ?_;rintro _ bs ⟨rfl,au,a7⟩;refine A4 2 Z<|Ay ?_
 cases h
 refine Ak Z ⟨au.ext,Z⟩
end
def FC(a0:Int)(a1:List Bool):Option Bool:=
 Bi (0<=a0/\a0<(a1.length:Int)) (some (a1.getD a0.toNat Qqf))
theorem I6{b w:World}{H:PH}(hH:Le H (hp b)){O:List BS}{a0:Int}{a1:List Bool}{ba1:Nat}{va1_0:Value}{xsa1_0:QqK}(hL:AZ b (Ha [.box ba1 [va1_0] 186,.row va1_0 4 1 (a1).length xsa1_0] O) w)(a:A6 .bool (gz H b w (Ha [.box ba1 [va1_0] 186,.row va1_0 4 1 (a1).length xsa1_0] O)) a1 xsa1_0){r:Bool}(h:FC a0 a1=some r):
  Ok prog 158 [No a0,Ze ba1] w (fun v w'=>v=.bool r/\AZ b (Ha [.box ba1 [va1_0] 186,.row va1_0 4 1 (a1).length xsa1_0] O) w'/\Le (fz w (Ha [.box ba1 [va1_0] 186,.row va1_0 4 1 (a1).length xsa1_0] O)) (fz w' (Ha [.box ba1 [va1_0] 186,.row va1_0 4 1 (a1).length xsa1_0] O))):=by
 refine BF (n:=8) [(0,No a0),(1,(Ze ba1))] func158 Z Z Z Z ?_;have hT:=Le.refl (fz w (Ha [.box ba1 [va1_0] 186,.row va1_0 4 1 (a1).length xsa1_0] O));refine AI 1 Z<|Av<|Ah (Ag 0 Z hL Z)<|Aw 1 Z<|A8 h fun c h=>Bb (hL.KM hH (i:=1) Z a) a0.toNat (Dw c) (AK c) ?_;rintro e _ rfl d;refine Ah (AV d (Le.refl _))<|A4 1 Z<|Ay ?_
 cases h
 refine Ak Z ⟨Z,hL,hT⟩
def GP(a0:Int)(a1_0_c0:List Bool):Option Bool:=
 QqB (FC a0 a1_0_c0) (fun a=>some (!a))
theorem Mq{a w:World}{H:PH}(hH:Le H (hp a)){O:List BS}{a0:Int}{a1_0_c0:List Bool}{ba1 ba1_0_c0:Nat}{va1_0_c0_0:Value}{xsa1_0_c0_0:QqK}(hL:AZ a (Ha [.box ba1 [.func (.func 158) #[] #[Ze ba1_0_c0]] 113,.box ba1_0_c0 [va1_0_c0_0] 186,.row va1_0_c0_0 4 1 (a1_0_c0).length xsa1_0_c0_0] O) w)(hea1_0_c0_0:A6 .bool (gz H a w (Ha [.box ba1 [.func (.func 158) #[] #[Ze ba1_0_c0]] 113,.box ba1_0_c0 [va1_0_c0_0] 186,.row va1_0_c0_0 4 1 (a1_0_c0).length xsa1_0_c0_0] O)) a1_0_c0 xsa1_0_c0_0){r:Bool}(h:GP a0 a1_0_c0=some r):
  Ok prog 162 [No a0,Ze ba1] w (fun v w'=>v=.bool r/\AZ a (Ha [.box ba1 [.func (.func 158) #[] #[Ze ba1_0_c0]] 113,.box ba1_0_c0 [va1_0_c0_0] 186,.row va1_0_c0_0 4 1 (a1_0_c0).length xsa1_0_c0_0] O) w'/\Le (fz w (Ha [.box ba1 [.func (.func 158) #[] #[Ze ba1_0_c0]] 113,.box ba1_0_c0 [va1_0_c0_0] 186,.row va1_0_c0_0 4 1 (a1_0_c0).length xsa1_0_c0_0] O)) (fz w' (Ha [.box ba1 [.func (.func 158) #[] #[Ze ba1_0_c0]] 113,.box ba1_0_c0 [va1_0_c0_0] 186,.row va1_0_c0_0 4 1 (a1_0_c0).length xsa1_0_c0_0] O))):=by
 refine BF (n:=8) [(0,No a0),(1,(Ze ba1))] func162 Z Z Z Z ?_;have hT:=Le.refl (fz w (Ha [.box ba1 [.func (.func 158) #[] #[Ze ba1_0_c0]] 113,.box ba1_0_c0 [va1_0_c0_0] 186,.row va1_0_c0_0 4 1 (a1_0_c0).length xsa1_0_c0_0] O));refine AI 1 Z<|Av<|Ah (Ag 0 Z hL Z)<|Aw 1 Z ?_;have c:AZ a (Ha [.box ba1_0_c0 [va1_0_c0_0] 186,.row va1_0_c0_0 4 1 (a1_0_c0).length xsa1_0_c0_0,.box ba1 [.func (.func 158) #[] #[Ze ba1_0_c0]] 113] O) w:=hL.Bo [2,2] Z;have b:=AF [2,2] hL c Z;refine Ax h fun k i h=>?_;have hea1_0_c0_0:=hea1_0_c0_0.mono (Ab b);refine BD Z Z (I6 (a0:=a0) (a1:=a1_0_c0) (O:=(Ha [.box ba1 [.func (.func 158) #[] #[Ze ba1_0_c0]] 113] O)) hH c hea1_0_c0_0 i) ?_;rintro _ j ⟨rfl,d,f⟩;refine A4 2 Z<|Ay ?_
 cases h
 refine Ak Z ?_;have e:AZ a (Ha [.box ba1 [.func (.func 158) #[] #[Ze ba1_0_c0]] 113,.box ba1_0_c0 [va1_0_c0_0] 186,.row va1_0_c0_0 4 1 (a1_0_c0).length xsa1_0_c0_0] O) j:=d.Bo [2] Z;have g:=AF [2] d e Z;have hT:=hT.trans (b.trans (f.trans g));exact⟨Z,e,hT⟩
def CY:Option Int:=
 some ((-1))
def CL(a0:QqX)(a1_c0_0_c0:List Bool):Int->Option ((Int)⊕(Int)):=fun a=>
 if a<(a0.length:Int)then Bi (0<=a/\a<(a0.length:Int)) (QqB (GP (a0.getD a.toNat Qqf) a1_c0_0_c0) (fun b=>if b then QqD Sum.inr (some a)else Bi (BX (a+1)) (some (Sum.inl (a+1)))))else QqD Sum.inr CY
def Eh(a0:QqX)(a1_c0_0_c0:List Bool)(s:Int):Option Int:=Go.L.run (CL a0 a1_c0_0_c0) s
def DG(a0:QqX)(a1_c0_0_c0:List Bool):Option Int:=
 (Eh a0 a1_c0_0_c0) (0:Int)
theorem Jy{d w:World}{H:PH}(hH:Le H (hp d)){O:List BS}{a0:QqX}{a1_c0_0_c0:List Bool}{va0:Value}{ba1_c0 ba1_c0_0_c0:Nat}{va1_c0_0_c0_0:Value}{xsa1_c0_0_c0_0:QqK}(hL:AZ d (Ha [.box ba1_c0 [.func (.func 158) #[] #[Ze ba1_c0_0_c0]] 113,.box ba1_c0_0_c0 [va1_c0_0_c0_0] 186,.row va1_c0_0_c0_0 4 1 (a1_c0_0_c0).length xsa1_c0_0_c0_0] O) w)(k:AD (.int .i64) (gz H d w (Ha [.box ba1_c0 [.func (.func 158) #[] #[Ze ba1_c0_0_c0]] 113,.box ba1_c0_0_c0 [va1_c0_0_c0_0] 186,.row va1_c0_0_c0_0 4 1 (a1_c0_0_c0).length xsa1_c0_0_c0_0] O)) va0 a0)(hea1_c0_0_c0_0:A6 .bool (gz H d w (Ha [.box ba1_c0 [.func (.func 158) #[] #[Ze ba1_c0_0_c0]] 113,.box ba1_c0_0_c0 [va1_c0_0_c0_0] 186,.row va1_c0_0_c0_0 4 1 (a1_c0_0_c0).length xsa1_c0_0_c0_0] O)) a1_c0_0_c0 xsa1_c0_0_c0_0){r:Int}(h:DG a0 a1_c0_0_c0=some r):
  Ok prog 61 [va0,.func (.func 162) #[] #[Ze ba1_c0]] w (fun v w'=>v=No r/\AZ d (Ha [.box ba1_c0 [.func (.func 158) #[] #[Ze ba1_c0_0_c0]] 113,.box ba1_c0_0_c0 [va1_c0_0_c0_0] 186,.row va1_c0_0_c0_0 4 1 (a1_c0_0_c0).length xsa1_c0_0_c0_0] O) w'/\Le (fz w (Ha [.box ba1_c0 [.func (.func 158) #[] #[Ze ba1_c0_0_c0]] 113,.box ba1_c0_0_c0 [va1_c0_0_c0_0] 186,.row va1_c0_0_c0_0 4 1 (a1_c0_0_c0).length xsa1_c0_0_c0_0] O)) (fz w' (Ha [.box ba1_c0 [.func (.func 158) #[] #[Ze ba1_c0_0_c0]] 113,.box ba1_c0_0_c0 [va1_c0_0_c0_0] 186,.row va1_c0_0_c0_0 4 1 (a1_c0_0_c0).length xsa1_c0_0_c0_0] O))):=by
 refine BF (n:=19) [(0,va0),(1,.func (.func 162) #[] #[Ze ba1_c0])] func61 Z Z Z Z ?_;have hT:=Le.refl (fz w (Ha [.box ba1_c0 [.func (.func 158) #[] #[Ze ba1_c0_0_c0]] 113,.box ba1_c0_0_c0 [va1_c0_0_c0_0] 186,.row va1_c0_0_c0_0 4 1 (a1_c0_0_c0).length xsa1_c0_0_c0_0] O));refine AI 1 Z<|Bs Unit (fun(_:Unit)=>[]) (fun(_:Unit) wr=>DK d (Ha [.box ba1_c0 [.func (.func 158) #[] #[Ze ba1_c0_0_c0]] 113,.box ba1_c0_0_c0 [va1_c0_0_c0_0] 186,.row va1_c0_0_c0_0 4 1 (a1_c0_0_c0).length xsa1_c0_0_c0_0] O) wr fun Oz=>A6 .bool (gz H d wr Oz) a1_c0_0_c0 xsa1_c0_0_c0_0/\Le (fz w (Ha [.box ba1_c0 [.func (.func 158) #[] #[Ze ba1_c0_0_c0]] 113,.box ba1_c0_0_c0 [va1_c0_0_c0_0] 186,.row va1_c0_0_c0_0 4 1 (a1_c0_0_c0).length xsa1_c0_0_c0_0] O)) (fz wr Oz)/\CY=some r) ?_ ?_
 ·refine BN 1 Z<|Ah (AX k)<|A4 1 Z<|AA ?_;obtain⟨g,h⟩:=Bf h;refine BB (Int×Nat) (fun⟨a,n⟩=>[(0,va0),(1,.func (.func 162) #[] #[Ze ba1_c0]),(7,No (a0.length:Int)),(8,No a)]) (fun⟨a,n⟩ wr=>DK d (Ha [.box ba1_c0 [.func (.func 158) #[] #[Ze ba1_c0_0_c0]] 113,.box ba1_c0_0_c0 [va1_c0_0_c0_0] 186,.row va1_c0_0_c0_0 4 1 (a1_c0_0_c0).length xsa1_c0_0_c0_0] O) wr fun Oz=>AD (.int .i64) (gz H d wr Oz) va0 a0/\A6 .bool (gz H d wr Oz) a1_c0_0_c0 xsa1_c0_0_c0_0/\Le (fz w (Ha [.box ba1_c0 [.func (.func 158) #[] #[Ze ba1_c0_0_c0]] 113,.box ba1_c0_0_c0 [va1_c0_0_c0_0] 186,.row va1_c0_0_c0_0 4 1 (a1_c0_0_c0).length xsa1_c0_0_c0_0] O)) (fz wr Oz)/\FX (CL a0 a1_c0_0_c0) n a=some r) (fun⟨a,n⟩=>n) (0,g) Z ⟨hL,k,hea1_c0_0_c0_0,hT,h⟩ ?_;rintro⟨a,nn42⟩ t ⟨e,b,he42_Ra1_c0_0_c0_0,hT,h⟩;obtain⟨g,x,rfl,h,f⟩:=Bd h;refine AI 1 Z<|AN<|AY h ?_ ?_<;>intro l h
  ·refine A5<|A3<|AN<|AA<|AI 2 Z<|BN 3 Z<|A8 h fun i h=>Bb b a.toNat (Dw i) (AK i) ?_;rintro y _ rfl m;refine Ah (AV m (Al e))<|Ax h fun z o h=>BD Z Z (Mq (a0:=(a0.getD a.toNat Qqf)) (a1_0_c0:=a1_c0_0_c0) (O:=(Ha [] O)) hH e he42_Ra1_c0_0_c0_0 o) ?_;rintro _ aa ⟨rfl,j,c⟩;refine Am<|Bm h ?_ ?_<;>intro p h
   ·refine AI 2 Z<|Ay<|A1<|AE<|BQ ?_;have h:=Ct.out h f;refine A1<|BC ?_
    cases h
    refine Ak Z ?_;have hT:=hT.trans c;exact⟨Z,j,hT⟩
   refine A5<|AB<|A3<|A2<|A8 h fun q h=>Ah (AH q)<|Aw 1 Z<|AQ ?_;have h:=Ct.again h f;have b:=b.mono (Ab c);have he42_Ra1_c0_0_c0_0:=he42_Ra1_c0_0_c0_0.mono (Ab c);have hT:=hT.trans c;refine AS (_,_) ⟨j,b,he42_Ra1_c0_0_c0_0,hT,h⟩
  refine BA<|AP<|AJ ?_;have h:=Ct.out h f;refine Bu<|A7 () ⟨e,he42_Ra1_c0_0_c0_0,hT,h⟩
 rintro _ u ⟨s,he27_Ra1_c0_0_c0_0,hT,h⟩;refine AI 1 Z<|Ay ?_
 cases h
 refine Ak Z ⟨Z,s,hT⟩
def CZ(a0:QqX)(a1_c0_0_c0:List Bool):Option Bool:=
 QqB (DG a0 a1_c0_0_c0) (fun a=>some (decide (0<=a)))
theorem IM{a w:World}{H:PH}(hH:Le H (hp a)){O:List BS}{a0:QqX}{a1_c0_0_c0:List Bool}{va0:Value}{ba1_c0 ba1_c0_0_c0:Nat}{va1_c0_0_c0_0:Value}{xsa1_c0_0_c0_0:QqK}(hL:AZ a (Ha [.box ba1_c0 [.func (.func 158) #[] #[Ze ba1_c0_0_c0]] 113,.box ba1_c0_0_c0 [va1_c0_0_c0_0] 186,.row va1_c0_0_c0_0 4 1 (a1_c0_0_c0).length xsa1_c0_0_c0_0] O) w)(c:AD (.int .i64) (gz H a w (Ha [.box ba1_c0 [.func (.func 158) #[] #[Ze ba1_c0_0_c0]] 113,.box ba1_c0_0_c0 [va1_c0_0_c0_0] 186,.row va1_c0_0_c0_0 4 1 (a1_c0_0_c0).length xsa1_c0_0_c0_0] O)) va0 a0)(hea1_c0_0_c0_0:A6 .bool (gz H a w (Ha [.box ba1_c0 [.func (.func 158) #[] #[Ze ba1_c0_0_c0]] 113,.box ba1_c0_0_c0 [va1_c0_0_c0_0] 186,.row va1_c0_0_c0_0 4 1 (a1_c0_0_c0).length xsa1_c0_0_c0_0] O)) a1_c0_0_c0 xsa1_c0_0_c0_0){r:Bool}(h:CZ a0 a1_c0_0_c0=some r):
  Ok prog 161 [va0,.func (.func 162) #[] #[Ze ba1_c0]] w (fun v w'=>v=.bool r/\AZ a (Ha [.box ba1_c0 [.func (.func 158) #[] #[Ze ba1_c0_0_c0]] 113,.box ba1_c0_0_c0 [va1_c0_0_c0_0] 186,.row va1_c0_0_c0_0 4 1 (a1_c0_0_c0).length xsa1_c0_0_c0_0] O) w'/\Le (fz w (Ha [.box ba1_c0 [.func (.func 158) #[] #[Ze ba1_c0_0_c0]] 113,.box ba1_c0_0_c0 [va1_c0_0_c0_0] 186,.row va1_c0_0_c0_0 4 1 (a1_c0_0_c0).length xsa1_c0_0_c0_0] O)) (fz w' (Ha [.box ba1_c0 [.func (.func 158) #[] #[Ze ba1_c0_0_c0]] 113,.box ba1_c0_0_c0 [va1_c0_0_c0_0] 186,.row va1_c0_0_c0_0 4 1 (a1_c0_0_c0).length xsa1_c0_0_c0_0] O))):=by
 refine BF (n:=9) [(0,va0),(1,.func (.func 162) #[] #[Ze ba1_c0])] func161 Z Z Z Z ?_;have hT:=Le.refl (fz w (Ha [.box ba1_c0 [.func (.func 158) #[] #[Ze ba1_c0_0_c0]] 113,.box ba1_c0_0_c0 [va1_c0_0_c0_0] 186,.row va1_c0_0_c0_0 4 1 (a1_c0_0_c0).length xsa1_c0_0_c0_0] O));refine AI 1 Z<|BN 2 Z<|Ax h fun f d h=>BR (Jy (a0:=a0) (a1_c0_0_c0:=a1_c0_0_c0) (O:=(Ha [] O)) hH hL c hea1_c0_0_c0_0 d) ?_;rintro _ g ⟨rfl,e,b⟩;refine A4 2 Z<|Ay ?_
 cases h
 refine Ak Z ?_;have hT:=hT.trans b;exact⟨Z,e,hT⟩
def Da:Option Int:=
 some ((-1))
def CM(a0:QqX)(a1_c0:List Bool):Int->Option ((Int)⊕(Int)):=fun a=>
 if a<(a0.length:Int)then Bi (0<=a/\a<(a0.length:Int)) (QqB (FC (a0.getD a.toNat Qqf) a1_c0) (fun b=>if b then QqD Sum.inr (some a)else Bi (BX (a+1)) (some (Sum.inl (a+1)))))else QqD Sum.inr Da
def Ei(a0:QqX)(a1_c0:List Bool)(s:Int):Option Int:=Go.L.run (CM a0 a1_c0) s
def DH(a0:QqX)(a1_c0:List Bool):Option Int:=
 (Ei a0 a1_c0) (0:Int)
theorem Jz{d w:World}{H:PH}(hH:Le H (hp d)){O:List BS}{a0:QqX}{a1_c0:List Bool}{va0:Value}{ba1_c0:Nat}{va1_c0_0:Value}{xsa1_c0_0:QqK}(hL:AZ d (Ha [.box ba1_c0 [va1_c0_0] 186,.row va1_c0_0 4 1 (a1_c0).length xsa1_c0_0] O) w)(k:AD (.int .i64) (gz H d w (Ha [.box ba1_c0 [va1_c0_0] 186,.row va1_c0_0 4 1 (a1_c0).length xsa1_c0_0] O)) va0 a0)(hea1_c0_0:A6 .bool (gz H d w (Ha [.box ba1_c0 [va1_c0_0] 186,.row va1_c0_0 4 1 (a1_c0).length xsa1_c0_0] O)) a1_c0 xsa1_c0_0){r:Int}(h:DH a0 a1_c0=some r):
  Ok prog 61 [va0,.func (.func 158) #[] #[Ze ba1_c0]] w (fun v w'=>v=No r/\AZ d (Ha [.box ba1_c0 [va1_c0_0] 186,.row va1_c0_0 4 1 (a1_c0).length xsa1_c0_0] O) w'/\Le (fz w (Ha [.box ba1_c0 [va1_c0_0] 186,.row va1_c0_0 4 1 (a1_c0).length xsa1_c0_0] O)) (fz w' (Ha [.box ba1_c0 [va1_c0_0] 186,.row va1_c0_0 4 1 (a1_c0).length xsa1_c0_0] O))):=by
 refine BF (n:=19) [(0,va0),(1,.func (.func 158) #[] #[Ze ba1_c0])] func61 Z Z Z Z ?_;have hT:=Le.refl (fz w (Ha [.box ba1_c0 [va1_c0_0] 186,.row va1_c0_0 4 1 (a1_c0).length xsa1_c0_0] O));refine AI 1 Z<|Bs Unit (fun(_:Unit)=>[]) (fun(_:Unit) wr=>DK d (Ha [.box ba1_c0 [va1_c0_0] 186,.row va1_c0_0 4 1 (a1_c0).length xsa1_c0_0] O) wr fun Oz=>A6 .bool (gz H d wr Oz) a1_c0 xsa1_c0_0/\Le (fz w (Ha [.box ba1_c0 [va1_c0_0] 186,.row va1_c0_0 4 1 (a1_c0).length xsa1_c0_0] O)) (fz wr Oz)/\Da=some r) ?_ ?_
 ·refine BN 1 Z<|Ah (AX k)<|A4 1 Z<|AA ?_;obtain⟨g,h⟩:=Bf h;refine BB (Int×Nat) (fun⟨a,n⟩=>[(0,va0),(1,.func (.func 158) #[] #[Ze ba1_c0]),(7,No (a0.length:Int)),(8,No a)]) (fun⟨a,n⟩ wr=>DK d (Ha [.box ba1_c0 [va1_c0_0] 186,.row va1_c0_0 4 1 (a1_c0).length xsa1_c0_0] O) wr fun Oz=>AD (.int .i64) (gz H d wr Oz) va0 a0/\A6 .bool (gz H d wr Oz) a1_c0 xsa1_c0_0/\Le (fz w (Ha [.box ba1_c0 [va1_c0_0] 186,.row va1_c0_0 4 1 (a1_c0).length xsa1_c0_0] O)) (fz wr Oz)/\FX (CM a0 a1_c0) n a=some r) (fun⟨a,n⟩=>n) (0,g) Z ⟨hL,k,hea1_c0_0,hT,h⟩ ?_;rintro⟨a,nn42⟩ t ⟨e,b,he42_Ra1_c0_0,hT,h⟩;obtain⟨g,x,rfl,h,f⟩:=Bd h;refine AI 1 Z<|AN<|AY h ?_ ?_<;>intro l h
  ·refine A5<|A3<|AN<|AA<|AI 2 Z<|BN 3 Z<|A8 h fun i h=>Bb b a.toNat (Dw i) (AK i) ?_;rintro y _ rfl m;refine Ah (AV m (Al e))<|Ax h fun z o h=>BD Z Z (I6 (a0:=(a0.getD a.toNat Qqf)) (a1:=a1_c0) (O:=(Ha [] O)) hH e he42_Ra1_c0_0 o) ?_;rintro _ aa ⟨rfl,j,c⟩;refine Am<|Bm h ?_ ?_<;>intro p h
   ·refine AI 2 Z<|Ay<|A1<|AE<|BQ ?_;have h:=Ct.out h f;refine A1<|BC ?_
    cases h
    refine Ak Z ?_;have hT:=hT.trans c;exact⟨Z,j,hT⟩
   refine A5<|AB<|A3<|A2<|A8 h fun q h=>Ah (AH q)<|Aw 1 Z<|AQ ?_;have h:=Ct.again h f;have b:=b.mono (Ab c);have he42_Ra1_c0_0:=he42_Ra1_c0_0.mono (Ab c);have hT:=hT.trans c;refine AS (_,_) ⟨j,b,he42_Ra1_c0_0,hT,h⟩
  refine BA<|AP<|AJ ?_;have h:=Ct.out h f;refine Bu<|A7 () ⟨e,he42_Ra1_c0_0,hT,h⟩
 rintro _ u ⟨s,he27_Ra1_c0_0,hT,h⟩;refine AI 1 Z<|Ay ?_
 cases h
 refine Ak Z ⟨Z,s,hT⟩
def Db(a0:QqX)(a1_c0:List Bool):Option Bool:=
 QqB (DH a0 a1_c0) (fun a=>some (decide (0<=a)))
theorem IN{a w:World}{H:PH}(hH:Le H (hp a)){O:List BS}{a0:QqX}{a1_c0:List Bool}{va0:Value}{ba1_c0:Nat}{va1_c0_0:Value}{xsa1_c0_0:QqK}(hL:AZ a (Ha [.box ba1_c0 [va1_c0_0] 186,.row va1_c0_0 4 1 (a1_c0).length xsa1_c0_0] O) w)(c:AD (.int .i64) (gz H a w (Ha [.box ba1_c0 [va1_c0_0] 186,.row va1_c0_0 4 1 (a1_c0).length xsa1_c0_0] O)) va0 a0)(hea1_c0_0:A6 .bool (gz H a w (Ha [.box ba1_c0 [va1_c0_0] 186,.row va1_c0_0 4 1 (a1_c0).length xsa1_c0_0] O)) a1_c0 xsa1_c0_0){r:Bool}(h:Db a0 a1_c0=some r):
  Ok prog 161 [va0,.func (.func 158) #[] #[Ze ba1_c0]] w (fun v w'=>v=.bool r/\AZ a (Ha [.box ba1_c0 [va1_c0_0] 186,.row va1_c0_0 4 1 (a1_c0).length xsa1_c0_0] O) w'/\Le (fz w (Ha [.box ba1_c0 [va1_c0_0] 186,.row va1_c0_0 4 1 (a1_c0).length xsa1_c0_0] O)) (fz w' (Ha [.box ba1_c0 [va1_c0_0] 186,.row va1_c0_0 4 1 (a1_c0).length xsa1_c0_0] O))):=by
 refine BF (n:=9) [(0,va0),(1,.func (.func 158) #[] #[Ze ba1_c0])] func161 Z Z Z Z ?_;have hT:=Le.refl (fz w (Ha [.box ba1_c0 [va1_c0_0] 186,.row va1_c0_0 4 1 (a1_c0).length xsa1_c0_0] O));refine AI 1 Z<|BN 2 Z<|Ax h fun f d h=>BR (Jz (a0:=a0) (a1_c0:=a1_c0) (O:=(Ha [] O)) hH hL c hea1_c0_0 d) ?_;rintro _ g ⟨rfl,e,b⟩;refine A4 2 Z<|Ay ?_
 cases h
 refine Ak Z ?_;have hT:=hT.trans b;exact⟨Z,e,hT⟩
def Il(a0:ZJ)(a1_0_c0:List Bool)(_a2:(List ZJ)):Option Bool:=
 if a0.2.1=10 then QqB (FC a0.2.2.2.2.2.2.2.2.1 a1_0_c0) (fun c=>some c)else(if a0.2.1=6 then none else(if a0.2.1=7 then QqB (CZ a0.2.2.2.2.2.2.2.2.2.2.2 a1_0_c0) (fun a=>some (!a))else(if a0.2.1=8 then QqB (Db a0.2.2.2.2.2.2.2.2.2.2.2 a1_0_c0) (fun b=>some b)else some true)))
theorem Fg{d w:World}{H:PH}(hH:Le H (hp d))(O:List BS)(a0:ZJ)(a1_0_c0:List Bool)(a2:(List ZJ)){va0_2 va0_10 va0_11:Value}{ba1 ba1_0_c0:Nat}{va1_0_c0_0:Value}{xsa1_0_c0_0:QqK}{ba2:Nat}{va2_0:Value}(hL:AZ d (Ha [.box ba1 [.func (.func 158) #[] #[Ze ba1_0_c0]] 113,.box ba1_0_c0 [va1_0_c0_0] 186,.row va1_0_c0_0 4 1 (a1_0_c0).length xsa1_0_c0_0,.box ba2 [va2_0] 25] O) w)(_ha0_2:AD .byte (gz H d w (Ha [.box ba1 [.func (.func 158) #[] #[Ze ba1_0_c0]] 113,.box ba1_0_c0 [va1_0_c0_0] 186,.row va1_0_c0_0 4 1 (a1_0_c0).length xsa1_0_c0_0,.box ba2 [va2_0] 25] O)) va0_2 (a0.2.2.1))(_ha0_10:AD .st (gz H d w (Ha [.box ba1 [.func (.func 158) #[] #[Ze ba1_0_c0]] 113,.box ba1_0_c0 [va1_0_c0_0] 186,.row va1_0_c0_0 4 1 (a1_0_c0).length xsa1_0_c0_0,.box ba2 [va2_0] 25] O)) va0_10 (a0.2.2.2.2.2.2.2.2.2.2.1))(e:AD (.int .i64) (gz H d w (Ha [.box ba1 [.func (.func 158) #[] #[Ze ba1_0_c0]] 113,.box ba1_0_c0 [va1_0_c0_0] 186,.row va1_0_c0_0 4 1 (a1_0_c0).length xsa1_0_c0_0,.box ba2 [va2_0] 25] O)) va0_11 (a0.2.2.2.2.2.2.2.2.2.2.2))(hea1_0_c0_0:A6 .bool (gz H d w (Ha [.box ba1 [.func (.func 158) #[] #[Ze ba1_0_c0]] 113,.box ba1_0_c0 [va1_0_c0_0] 186,.row va1_0_c0_0 4 1 (a1_0_c0).length xsa1_0_c0_0,.box ba2 [va2_0] 25] O)) a1_0_c0 xsa1_0_c0_0)(_ha2_0:AD ZR (gz H d w (Ha [.box ba1 [.func (.func 158) #[] #[Ze ba1_0_c0]] 113,.box ba1_0_c0 [va1_0_c0_0] 186,.row va1_0_c0_0 4 1 (a1_0_c0).length xsa1_0_c0_0,.box ba2 [va2_0] 25] O)) va2_0 a2){r:Bool}(h:Il a0 a1_0_c0 a2=some r):
  Ok prog 159 [.agg #[Zf a0.1,No a0.2.1,va0_2,No a0.2.2.2.1,.bool a0.2.2.2.2.1,No a0.2.2.2.2.2.1,No a0.2.2.2.2.2.2.1,No a0.2.2.2.2.2.2.2.1,No a0.2.2.2.2.2.2.2.2.1,No a0.2.2.2.2.2.2.2.2.2.1,va0_10,va0_11],Ze ba1,Ze ba2] w (fun v w'=>v=.bool r/\AZ d (Ha [.box ba1 [.func (.func 158) #[] #[Ze ba1_0_c0]] 113,.box ba1_0_c0 [va1_0_c0_0] 186,.row va1_0_c0_0 4 1 (a1_0_c0).length xsa1_0_c0_0,.box ba2 [va2_0] 25] O) w'/\Le (fz w (Ha [.box ba1 [.func (.func 158) #[] #[Ze ba1_0_c0]] 113,.box ba1_0_c0 [va1_0_c0_0] 186,.row va1_0_c0_0 4 1 (a1_0_c0).length xsa1_0_c0_0,.box ba2 [va2_0] 25] O)) (fz w' (Ha [.box ba1 [.func (.func 158) #[] #[Ze ba1_0_c0]] 113,.box ba1_0_c0 [va1_0_c0_0] 186,.row va1_0_c0_0 4 1 (a1_0_c0).length xsa1_0_c0_0,.box ba2 [va2_0] 25] O))):=by
 refine BF (n:=48) [(0,.agg #[Zf a0.1,No a0.2.1,va0_2,No a0.2.2.2.1,.bool a0.2.2.2.2.1,No a0.2.2.2.2.2.1,No a0.2.2.2.2.2.2.1,No a0.2.2.2.2.2.2.2.1,No a0.2.2.2.2.2.2.2.2.1,No a0.2.2.2.2.2.2.2.2.2.1,va0_10,va0_11]),(1,(Ze ba1)),(2,(Ze ba2))] func159 Z Z Z Z ?_;have hT:=Le.refl (fz w (Ha [.box ba1 [.func (.func 158) #[] #[Ze ba1_0_c0]] 113,.box ba1_0_c0 [va1_0_c0_0] 186,.row va1_0_c0_0 4 1 (a1_0_c0).length xsa1_0_c0_0,.box ba2 [va2_0] 25] O));have b:=hL.rG H;refine Av<|C1 (t:=53) Z Z hL fun u f a c _=>A4 1 Z<|AN<|Av<|Ah (Af Z Zs Z B6.e)<|Ah (Ag 0 Z a Z)<|Am<|AA<|AI 2 Z<|AY h ?_ ?_<;>intro ao h
 ·refine Av<|Ah (Ag 1 Z a Z)<|Ah (Af Z Zs Z B6.e)<|Ah (Ag 0 Z a Z) ?_;have aa:AZ d (Ha [.box ba1_0_c0 [va1_0_c0_0] 186,.row va1_0_c0_0 4 1 (a1_0_c0).length xsa1_0_c0_0,.box f [Zf a0.1,No a0.2.1,va0_2,No a0.2.2.2.1,.bool a0.2.2.2.2.1,No a0.2.2.2.2.2.1,No a0.2.2.2.2.2.2.1,No a0.2.2.2.2.2.2.2.1,No a0.2.2.2.2.2.2.2.2.1,No a0.2.2.2.2.2.2.2.2.2.1,va0_10,va0_11] 53,.box ba1 [.func (.func 158) #[] #[Ze ba1_0_c0]] 113,.box ba2 [va2_0] 25] O) u:=a.Bo [3,3] Z;have m:=AF [3,3] a aa Z;refine Ax h fun x6 ap h=>?_;have b:=b.trans (Ab (c.trans m));refine BD Z Z (I6 (a0:=a0.2.2.2.2.2.2.2.2.1) (a1:=a1_0_c0) (O:=(Ha [.box f [Zf a0.1,No a0.2.1,va0_2,No a0.2.2.2.1,.bool a0.2.2.2.2.1,No a0.2.2.2.2.2.1,No a0.2.2.2.2.2.2.1,No a0.2.2.2.2.2.2.2.1,No a0.2.2.2.2.2.2.2.2.1,No a0.2.2.2.2.2.2.2.2.2.1,va0_10,va0_11] 53,.box ba1 [.func (.func 158) #[] #[Ze ba1_0_c0]] 113,.box ba2 [va2_0] 25] O)) hH aa (hea1_0_c0_0.mono b) ap) ?_;rintro _ w7 ⟨rfl,aq,ad⟩;refine A4 1 Z<|Ay<|A1<|AE ?_
  cases h
  refine Ak Z ?_;have ab:=aq.AM (i:=2) Z;have ac:AZ d (Ha [.box ba1 [.func (.func 158) #[] #[Ze ba1_0_c0]] 113,.box ba1_0_c0 [va1_0_c0_0] 186,.row va1_0_c0_0 4 1 (a1_0_c0).length xsa1_0_c0_0,.box ba2 [va2_0] 25] O) w7:=ab.Bo [2] Z;have ae:=AF [2] ab ac Z;have hT:=hT.trans (c.trans (m.trans (ad.trans ((Ae (i:=2) Z).trans ae))));exact⟨Z,ac,hT⟩
 refine AI 2 Z<|AY h ?_ ?_<;>intro af h
 ·cases h
 refine AI 2 Z<|AY h ?_ ?_<;>intro ag h
 ·refine Av<|Ah (Af Z Zs Z D0.e)<|Ah (Ag 0 Z a Z)<|Aw 1 Z ?_;have g:AZ d (Ha [.box ba1_0_c0 [va1_0_c0_0] 186,.row va1_0_c0_0 4 1 (a1_0_c0).length xsa1_0_c0_0,.box f [Zf a0.1,No a0.2.1,va0_2,No a0.2.2.2.1,.bool a0.2.2.2.2.1,No a0.2.2.2.2.2.1,No a0.2.2.2.2.2.2.1,No a0.2.2.2.2.2.2.2.1,No a0.2.2.2.2.2.2.2.2.1,No a0.2.2.2.2.2.2.2.2.2.1,va0_10,va0_11] 53,.box ba1 [.func (.func 158) #[] #[Ze ba1_0_c0]] 113,.box ba2 [va2_0] 25] O) u:=a.Bo [3,3] Z;have j:=AF [3,3] a g Z;have o:AZ d (Ha [.box ba1 [.func (.func 158) #[] #[Ze ba1_0_c0]] 113,.box ba1_0_c0 [va1_0_c0_0] 186,.row va1_0_c0_0 4 1 (a1_0_c0).length xsa1_0_c0_0,.box f [Zf a0.1,No a0.2.1,va0_2,No a0.2.2.2.1,.bool a0.2.2.2.2.1,No a0.2.2.2.2.2.1,No a0.2.2.2.2.2.2.1,No a0.2.2.2.2.2.2.2.1,No a0.2.2.2.2.2.2.2.2.1,No a0.2.2.2.2.2.2.2.2.2.1,va0_10,va0_11] 53,.box ba2 [va2_0] 25] O) u:=g.Bo [3] Z;have k:=AF [3] g o Z;refine Ax h fun av ah h=>?_;have b:=b.trans (Ab (c.trans (j.trans k)))
  refine BR (IM (a0:=a0.2.2.2.2.2.2.2.2.2.2.2) (a1_c0_0_c0:=a1_0_c0) (O:=(Ha [.box f [Zf a0.1,No a0.2.1,va0_2,No a0.2.2.2.1,.bool a0.2.2.2.2.1,No a0.2.2.2.2.2.1,No a0.2.2.2.2.2.2.1,No a0.2.2.2.2.2.2.2.1,No a0.2.2.2.2.2.2.2.2.1,No a0.2.2.2.2.2.2.2.2.2.1,va0_10,va0_11] 53,.box ba2 [va2_0] 25] O)) hH o (e.mono b) (hea1_0_c0_0.mono b) ah) ?_;rintro _ aw ⟨rfl,ai,x⟩;refine A4 2 Z<|Ay<|A1<|AE ?_
  cases h
  refine Ak Z ?_;have aj:=ai.AM (i:=3) Z;have hT:=hT.trans (c.trans (j.trans (k.trans (x.trans (Ae (i:=3) Z)))));exact⟨Z,aj,hT⟩
 refine AI 2 Z<|AY h ?_ ?_<;>intro ak h
 ·refine Av<|Ah (Af Z Zs Z D0.e)<|Ah (Ag 0 Z a Z)<|Ah (Ag 1 Z a Z) ?_;have p:AZ d (Ha [.box ba1_0_c0 [va1_0_c0_0] 186,.row va1_0_c0_0 4 1 (a1_0_c0).length xsa1_0_c0_0,.box f [Zf a0.1,No a0.2.1,va0_2,No a0.2.2.2.1,.bool a0.2.2.2.2.1,No a0.2.2.2.2.2.1,No a0.2.2.2.2.2.2.1,No a0.2.2.2.2.2.2.2.1,No a0.2.2.2.2.2.2.2.2.1,No a0.2.2.2.2.2.2.2.2.2.1,va0_10,va0_11] 53,.box ba1 [.func (.func 158) #[] #[Ze ba1_0_c0]] 113,.box ba2 [va2_0] 25] O) u:=a.Bo [3,3] Z;have l:=AF [3,3] a p Z;refine Ax h fun ax al h=>?_;have b:=b.trans (Ab (c.trans l));refine BR (IN (a0:=a0.2.2.2.2.2.2.2.2.2.2.2) (a1_c0:=a1_0_c0) (O:=(Ha [.box f [Zf a0.1,No a0.2.1,va0_2,No a0.2.2.2.1,.bool a0.2.2.2.2.1,No a0.2.2.2.2.2.1,No a0.2.2.2.2.2.2.1,No a0.2.2.2.2.2.2.2.1,No a0.2.2.2.2.2.2.2.2.1,No a0.2.2.2.2.2.2.2.2.2.1,va0_10,va0_11] 53,.box ba1 [.func (.func 158) #[] #[Ze ba1_0_c0]] 113,.box ba2 [va2_0] 25] O)) hH p (e.mono b) (hea1_0_c0_0.mono b) al) ?_;rintro _ ar ⟨rfl,am,y⟩;refine A4 1 Z<|Ay<|A1 ?_
  refine AE ?_
  cases h
  refine Ak Z ?_;have q:=am.AM (i:=2) Z;have s:AZ d (Ha [.box ba1 [.func (.func 158) #[] #[Ze ba1_0_c0]] 113,.box ba1_0_c0 [va1_0_c0_0] 186,.row va1_0_c0_0 4 1 (a1_0_c0).length xsa1_0_c0_0,.box ba2 [va2_0] 25] O) ar:=q.Bo [2] Z;have z:=AF [2] q s Z;have hT:=hT.trans (c.trans (l.trans (y.trans ((Ae (i:=2) Z).trans z))));exact⟨Z,s,hT⟩
 refine A5<|AB<|A3<|AI 1 Z<|Ay ?_
 cases h
 refine Ak Z ?_;have an:=a.AM (i:=0) Z;have hT:=hT.trans (c.trans (Ae (i:=0) Z));exact⟨Z,an,hT⟩
def H6(a:Int)(b:List Bool):Option (((List Bool)×Int)⊕((List Bool))):=
 Bi (BX (a+1)) (some (Sum.inl (b,(a+1))))
def GQ(a0:(List ZJ))(c:Int):(List Bool)×Int->Option (((List Bool)×Int)⊕(((List Bool)×Int)⊕((List Bool)))):=fun⟨b,a⟩=>
 if a<(a0.length:Int)then Bi (0<=a/\a<(a0.length:Int)) (Bi (0<=a/\a<(b.length:Int)) (if b.getD a.toNat Qqf then Bi (0<=a/\a<(b.length:Int)) (Bi (BX (a+1)) (some (Sum.inl ((b.set a.toNat true),(a+1)))))else QqB (Il (a0.getD a.toNat Qqf) b a0) (fun d=>Bi (0<=a/\a<(b.length:Int)) (Bi (BX (a+1)) (some (Sum.inl ((b.set a.toNat d),(a+1))))))))else QqD Sum.inr ((H6 c) b)
def J0(a0:(List ZJ))(a:Int)(s:(List Bool)×Int):Option (((List Bool)×Int)⊕((List Bool))):=Go.L.run (GQ a0 a) s
def H7(a:List Bool):Option ((List Bool)):=
 some a
def GR(a0:(List ZJ)):(List Bool)×Int->Option (((List Bool)×Int)⊕((List Bool))):=fun⟨b,a⟩=>
 if a<(a0.length:Int)then(J0 a0 a) (b,0)else QqD Sum.inr (H7 b)
def J1(a0:(List ZJ))(s:(List Bool)×Int):Option ((List Bool)):=Go.L.run (GR a0) s
def Ia(a0:(List ZJ)):Option ((List Bool)):=
 Bi (0<=(a0.length:Int)/\((1:Nat):Int) * (a0.length:Int)<=281474976710656/\(a0.length:Int)<=9223372036854775807) ((J1 a0) ((Qq3 (a0.length:Int).toNat (false:Bool)),0))
section
variable(w:World)(H:PH)(hH:Le H (hp w)) include hH
theorem Og{a0:(List ZJ)}{m:Value}(am:AD ZR H m a0){r:(List Bool)}(h:Ia a0=some r):
  Zy 129 [.agg #[m]] w (fun v w'=>∃u0,v=u0/\CE 4 .bool H w w' u0 r):=by
 refine AL 42 [(0,.agg #[m])] func129 Z fun hL=>Av<|C1 (t:=25) Z Z hL fun w1 b1 ec fw _=>A4 1 Z<|Av<|Ah (Af Z Zv Z Hg.e)<|Ah (Ag 0 Z ec Z)<|Ah (AX am)<|A8 h fun et h=>S9 (r:=.bool) (z:=(false:Bool)) Zp (fun _=>Z) hH ec et fun v2 w2 eu ev fx cp=>AG W5.e Z ev fun w4 x ed ef _=>Bc 0 Z Z (row_one (ed.at (i:=1) Z)) ed Z Z fun w5 ew eg=>Am<|BN 1 Z<|AG SI.e Z ew fun w6 b6 ex eh _=>Bc 0 Z Z Z ex Z Z fun w7 ee ei=>Am<|AI 2 Z<|Bs ((List Bool)×QqK) (fun⟨ay,aq⟩=>[(3,(Ze x))]) (fun⟨ay,aq⟩ wr=>DK w [.box b6 [.func (.func 158) #[] #[Ze x]] 113,.box x [v2] 186,.row v2 4 1 (ay).length aq,.box b1 [m] 25] wr fun Oz=>A6 .bool (gz H w wr Oz) ay aq/\H7 ay=some r) ?_ ?_
 ·refine Av<|Ah (Af Z Zv Z Hg.e)<|Ah (Ag 3 Z ee Z)<|Ah (AX am)<|A4 1 Z<|AA ?_;obtain⟨b3,h⟩:=Bf h;have cp:=cp.mono (Ab (ef.trans (eg.trans (eh.trans ei))));refine BB ((List Bool)×Int×QqK×Nat) (fun⟨ao,o,ae,n⟩=>[(1,(Ze b1)),(3,(Ze x)),(5,.func (.func 159) #[] #[Ze b6,Ze b1]),(16,No (a0.length:Int)),(17,No o)]) (fun⟨ao,o,ae,n⟩ wr=>DK w [.box b6 [.func (.func 158) #[] #[Ze x]] 113,.box x [v2] 186,.row v2 4 1 (ao).length ae,.box b1 [m] 25] wr fun Oz=>A6 .bool (gz H w wr Oz) ao ae/\FX (GR a0) n (ao,o)=some r) (fun⟨ao,o,ae,n⟩=>n) ((Qq3 (a0.length:Int).toNat (false:Bool)),0,eu,b3) Z ⟨ee,cp,h⟩ ?_;rintro⟨ao,o,ae,nn703⟩ ez ⟨bp,br,h⟩;obtain⟨b3,cq,rfl,h,b5⟩:=Bd h;refine AI 1 Z<|AN<|AY h ?_ ?_<;>intro ea h
  ·refine A5<|A3<|Bs ((List Bool)×QqK) (fun⟨au,ap⟩=>[(1,(Ze b1)),(3,(Ze x)),(5,.func (.func 159) #[] #[Ze b6,Ze b1]),(16,No (a0.length:Int)),(17,No o)]) (fun⟨au,ap⟩ wr=>DK w [.box b6 [.func (.func 158) #[] #[Ze x]] 113,.box x [v2] 186,.row v2 4 1 (au).length ap,.box b1 [m] 25] wr fun Oz=>A6 .bool (gz H w wr Oz) au ap/\(H6 o) au=some cq) ?_ ?_
   ·refine AA<|Av<|Ah (Af Z Zv Z Hg.e)<|Ah (Ag 3 Z bp Z)<|Ah (AX am)<|A4 1 Z<|AA ?_;obtain⟨ab,h⟩:=Bf h;refine BB ((List Bool)×Int×QqK×Nat) (fun⟨f,a,g,n⟩=>[(1,(Ze b1)),(3,(Ze x)),(5,.func (.func 159) #[] #[Ze b6,Ze b1]),(16,No (a0.length:Int)),(17,No o),(20,m),(21,No (a0.length:Int)),(22,No a)]) (fun⟨f,a,g,n⟩ wr=>DK w [.box b6 [.func (.func 158) #[] #[Ze x]] 113,.box x [v2] 186,.row v2 4 1 (f).length g,.box b1 [m] 25] wr fun Oz=>A6 .bool (gz H w wr Oz) f g/\FX (GQ a0 o) n (f,a)=some cq) (fun⟨f,a,g,n⟩=>n) (ao,0,ae,ab) Z ⟨bp,br,h⟩ ?_;rintro⟨f,a,g,nn1045⟩ ey ⟨az,e,h⟩;obtain⟨ab,e0,rfl,h,y⟩:=Bd h;refine AI 1 Z<|AN<|AY h ?_ ?_<;>intro cr h
    ·refine A5<|A3<|AN<|AA<|BN 1 Z<|A8 h fun bs h=>Bb am a.toNat (Dw bs) (AK bs) ?_;rintro e1 _ ⟨_,_,rfl,rfl,⟨_,_,rfl,rfl,⟨_,_,rfl,⟨e1049v2,rfl,e1049h2⟩,⟨_,_,rfl,rfl,⟨_,_,rfl,rfl,⟨_,_,rfl,rfl,⟨_,_,rfl,rfl,⟨_,_,rfl,rfl,⟨_,_,rfl,rfl,⟨_,_,rfl,rfl,⟨_,_,rfl,⟨e1049v10,rfl,e1049h10⟩,⟨e1049v11,rfl,e1049h11⟩⟩⟩⟩⟩⟩⟩⟩⟩⟩⟩⟩ cs;refine Ah (Cq cs (hH.trans az.arg))<|AG Bp.e Z az fun e2 k ct av _=>Aw 1 Z<|Ar 0 Z ct Z (a:=(Be Z (Be Z (Be e1049h2.one (TL 7 Z (Be e1049h10.one (Be e1049h11.one Gr))))))) fun e3 bt aw=>Am ?_
     refine Eg (Ec (K5 (LA (Ec (Ec (FP (LA (Ec (FP ER))))))))) (fun z0 z=>Le (gz H w z0 [.box k [.string ⟨((a0.getD a.toNat Qqf).1).toArray⟩,No ((a0.getD a.toNat Qqf).2.1),e1049v2,No ((a0.getD a.toNat Qqf).2.2.2.1),.bool ((a0.getD a.toNat Qqf).2.2.2.2.1),No ((a0.getD a.toNat Qqf).2.2.2.2.2.1),No ((a0.getD a.toNat Qqf).2.2.2.2.2.2.1),No ((a0.getD a.toNat Qqf).2.2.2.2.2.2.2.1),No ((a0.getD a.toNat Qqf).2.2.2.2.2.2.2.2.1),No ((a0.getD a.toNat Qqf).2.2.2.2.2.2.2.2.2.1),e1049v10,e1049v11] 53,.box b6 [.func (.func 158) #[] #[Ze x]] 113,.box x [v2] 186,.row v2 4 1 (f).length g,.box b1 [m] 25]) (hp z)/\z.heap[k]? = some (.cells [.string ⟨((a0.getD a.toNat Qqf).1).toArray⟩,No ((a0.getD a.toNat Qqf).2.1),e1049v2,No ((a0.getD a.toNat Qqf).2.2.2.1),.bool ((a0.getD a.toNat Qqf).2.2.2.2.1),No ((a0.getD a.toNat Qqf).2.2.2.2.2.1),No ((a0.getD a.toNat Qqf).2.2.2.2.2.2.1),No ((a0.getD a.toNat Qqf).2.2.2.2.2.2.2.1),No ((a0.getD a.toNat Qqf).2.2.2.2.2.2.2.2.1),No ((a0.getD a.toNat Qqf).2.2.2.2.2.2.2.2.2.1),e1049v10,e1049v11].toArray 53 (0,0))) mixed Z (fun d ad bu=>?_)
     have b:=bt.call bu;have ax:=Ba bt bu;have c:=b.rG H;refine Gt ⟨c.trans (Al b),b.at (i:=0) Z⟩ fun kI1056=>Aq 1 d kI1056 Z (fun _ _=>Ad Z) Z<|Aq 3 d kI1056 Z (fun _ _=>Ad Z) Z<|Ls 0 2 Z Z ?_ ?_
     ·refine Ah (Ag 2 Z b Z)<|As ⟨c.trans (Al b),b.at (i:=0) Z⟩ fun kI1057=>BP 2 Z<|Ah (Ag 2 Z b Z)<|As ⟨c.trans (Al b),b.at (i:=0) Z⟩ fun kI1058=>BP 4 Z<|A8 h fun af h=>?_;have e:=e.mono (Ab (av.trans (aw.trans ax)));refine Bb (b.KM hH (i:=3) Z (e.mono c)) a.toNat (Dw af) (AK af) ?_;rintro e4 _ rfl cu;refine As ⟨c.trans (Al b),b.at (i:=0) Z⟩ fun kI1061=>BP 5 Z<|Ah (AV cu (Le.refl _))<|As ⟨c.trans (Al b),b.at (i:=0) Z⟩ fun kI1062=>Aq 6 d kI1062 Z (fun _ _=>Ad Z) Z<|Mh 33 Z (fun p=>?_) (fun p=>?_)
      ·have h:=Lo p h;refine Jj 7 d kI1062 Z Z Z Z p Z<|Jj 8 d kI1062 Z Z Z Z p Z<|Jj 9 d kI1062 Z Z Z Z p Z<|Aq 10 d kI1062 Z (fun _ _=>Aj p Z) Z<|BP 11 Z<|A8 h fun a1 h=>Hb 3 Z Zp Fa.e b Z a.toNat (Dw a1) (AK a1) fun e5 cv=>As ⟨c.trans (Al b),b.at (i:=0) Z⟩ fun kI1067=>BP 12 Z<|He 3 a.toNat true Z Z hH b Z (e.mono c) cv (AK a1) Z fun e6 cw cx ej a3=>B4<|Bz<|AB<|A3<|A2<|A8 h fun cy h=>Ah (AH cy)<|Aw 1 Z<|AQ ?_;have cz:=cx.AM (i:=0) Z;have h:=Ct.again h y;have a3:=a3.mono (Ab (Ae (i:=0) Z));refine AS (_,_,_,_) ⟨cz,a3,h⟩
      have h:=Lp p h;refine E6 7 d kI1062 Z Z Z Z p (fun _ _=>Ad Z) Z<|E6 8 d kI1062 Z Z Z Z p (fun _ hI=>IV hI.2) Z<|BP 9 Z<|Aa p ?_;have a4:AZ w [.row v2 4 1 (f).length g,.box b1 [m] 25,.box k [.string ⟨((a0.getD a.toNat Qqf).1).toArray⟩,No ((a0.getD a.toNat Qqf).2.1),e1049v2,No ((a0.getD a.toNat Qqf).2.2.2.1),.bool ((a0.getD a.toNat Qqf).2.2.2.2.1),No ((a0.getD a.toNat Qqf).2.2.2.2.2.1),No ((a0.getD a.toNat Qqf).2.2.2.2.2.2.1),No ((a0.getD a.toNat Qqf).2.2.2.2.2.2.2.1),No ((a0.getD a.toNat Qqf).2.2.2.2.2.2.2.2.1),No ((a0.getD a.toNat Qqf).2.2.2.2.2.2.2.2.2.1),e1049v10,e1049v11] 53,.box b6 [.func (.func 158) #[] #[Ze x]] 113,.box x [v2] 186] ad:=b.Bo [4,4] Z;have ca:=AF [4,4] b a4 Z
      have bv:AZ w [.box b6 [.func (.func 158) #[] #[Ze x]] 113,.box x [v2] 186,.row v2 4 1 (f).length g,.box b1 [m] 25,.box k [.string ⟨((a0.getD a.toNat Qqf).1).toArray⟩,No ((a0.getD a.toNat Qqf).2.1),e1049v2,No ((a0.getD a.toNat Qqf).2.2.2.1),.bool ((a0.getD a.toNat Qqf).2.2.2.2.1),No ((a0.getD a.toNat Qqf).2.2.2.2.2.1),No ((a0.getD a.toNat Qqf).2.2.2.2.2.2.1),No ((a0.getD a.toNat Qqf).2.2.2.2.2.2.2.1),No ((a0.getD a.toNat Qqf).2.2.2.2.2.2.2.2.1),No ((a0.getD a.toNat Qqf).2.2.2.2.2.2.2.2.2.1),e1049v10,e1049v11] 53] ad:=a4.Bo [4,4] Z;have cb:=AF [4,4] a4 bv Z;refine Ax h fun b7 c0 h=>?_;have c:=c.trans (Ab (ca.trans cb))
      refine BD Z Z (Fg hH ([.box k [.string ⟨((a0.getD a.toNat Qqf).1).toArray⟩,No ((a0.getD a.toNat Qqf).2.1),e1049v2,No ((a0.getD a.toNat Qqf).2.2.2.1),.bool ((a0.getD a.toNat Qqf).2.2.2.2.1),No ((a0.getD a.toNat Qqf).2.2.2.2.2.1),No ((a0.getD a.toNat Qqf).2.2.2.2.2.2.1),No ((a0.getD a.toNat Qqf).2.2.2.2.2.2.2.1),No ((a0.getD a.toNat Qqf).2.2.2.2.2.2.2.2.1),No ((a0.getD a.toNat Qqf).2.2.2.2.2.2.2.2.2.1),e1049v10,e1049v11] 53]) (a0.getD a.toNat Qqf) f a0 bv (e1049h2.mono  Ai) (e1049h10.mono  Ai) (e1049h11.mono  Ai) (e.mono c) (am.mono  Ai) c0) ?_;rintro _ e7 ⟨rfl,ai,cc⟩;have c:=c.trans (Ab cc);refine As ⟨c.trans (Al ai),ai.at (i:=4) Z⟩ fun kI1076=>Aq 10 d kI1076 Z (fun _ _=>An p Z) Z<|BP 11 Z<|A8 h fun a5 h=>Hb 2 Z Zp Fa.e ai Z a.toNat (Dw a5) (AK a5) fun e8 c1=>As ⟨c.trans (Al ai),ai.at (i:=4) Z⟩ fun kI1079=>BP 12 Z ?_
      refine He 2 a.toNat b7 Z Z hH ai Z (e.mono c) c1 (AK a5) Z fun e9 c2 c3 ek a6=>B4<|Bz<|AB<|A3<|A2<|A8 h fun c4 h=>Ah (AH c4)<|Aw 1 Z<|AQ ?_;have c5:=c3.AM (i:=4) Z;have h:=Ct.again h y;have a6:=a6.mono (Ab (Ae (i:=4) Z));refine AS (_,_,_,_) ⟨c5,a6,h⟩
     refine A8 h fun af h=>Ah (Ag 2 Z b Z)<|As ⟨c.trans (Al b),b.at (i:=0) Z⟩ fun kI1083=>Ls 0 4 Z Z ?_ ?_
     ·refine Ah (Ag 2 Z b Z)<|As ⟨c.trans (Al b),b.at (i:=0) Z⟩ fun kI1084=>BP 4 Z ?_;have e:=e.mono (Ab (av.trans (aw.trans ax)));refine Bb (b.KM hH (i:=3) Z (e.mono c)) a.toNat (Dw af) (AK af) ?_;rintro fa _ rfl c6;refine As ⟨c.trans (Al b),b.at (i:=0) Z⟩ fun kI1086=>BP 5 Z<|Ah (AV c6 (Le.refl _))<|As ⟨c.trans (Al b),b.at (i:=0) Z⟩ fun kI1087=>Aq 6 d kI1087 Z (fun _ _=>Ad Z) Z<|Mh 33 Z (fun q=>?_) (fun q=>?_)
      ·have h:=Lo q h;refine Jj 7 d kI1087 Z Z Z Z q Z<|Jj 8 d kI1087 Z Z Z Z q Z<|Jj 9 d kI1087 Z Z Z Z q Z<|Aq 10 d kI1087 Z (fun _ _=>Aj q Z) Z<|BP 11 Z<|A8 h fun a7 h=>Hb 3 Z Zp Fa.e b Z a.toNat (Dw a7) (AK a7) fun fb c7=>As ⟨c.trans (Al b),b.at (i:=0) Z⟩ fun kI1092=>BP 12 Z<|He 3 a.toNat true Z Z hH b Z (e.mono c) c7 (AK a7) Z fun fc c8 c9 el a8=>B4<|Bz<|AB<|A3<|A2<|A8 h fun da h=>Ah (AH da)<|Aw 1 Z<|AQ ?_;have db:=c9.AM (i:=0) Z;have h:=Ct.again h y;have a8:=a8.mono (Ab (Ae (i:=0) Z));refine AS (_,_,_,_) ⟨db,a8,h⟩
      have h:=Lp q h;refine E6 7 d kI1087 Z Z Z Z q (fun _ _=>Ad Z) Z<|E6 8 d kI1087 Z Z Z Z q (fun _ hI=>IV hI.2) Z<|BP 9 Z<|Aa q ?_;have a9:AZ w [.row v2 4 1 (f).length g,.box b1 [m] 25,.box k [.string ⟨((a0.getD a.toNat Qqf).1).toArray⟩,No ((a0.getD a.toNat Qqf).2.1),e1049v2,No ((a0.getD a.toNat Qqf).2.2.2.1),.bool ((a0.getD a.toNat Qqf).2.2.2.2.1),No ((a0.getD a.toNat Qqf).2.2.2.2.2.1),No ((a0.getD a.toNat Qqf).2.2.2.2.2.2.1),No ((a0.getD a.toNat Qqf).2.2.2.2.2.2.2.1),No ((a0.getD a.toNat Qqf).2.2.2.2.2.2.2.2.1),No ((a0.getD a.toNat Qqf).2.2.2.2.2.2.2.2.2.1),e1049v10,e1049v11] 53,.box b6 [.func (.func 158) #[] #[Ze x]] 113,.box x [v2] 186] ad:=b.Bo [4,4] Z;have cd:=AF [4,4] b a9 Z
      have bw:AZ w [.box b6 [.func (.func 158) #[] #[Ze x]] 113,.box x [v2] 186,.row v2 4 1 (f).length g,.box b1 [m] 25,.box k [.string ⟨((a0.getD a.toNat Qqf).1).toArray⟩,No ((a0.getD a.toNat Qqf).2.1),e1049v2,No ((a0.getD a.toNat Qqf).2.2.2.1),.bool ((a0.getD a.toNat Qqf).2.2.2.2.1),No ((a0.getD a.toNat Qqf).2.2.2.2.2.1),No ((a0.getD a.toNat Qqf).2.2.2.2.2.2.1),No ((a0.getD a.toNat Qqf).2.2.2.2.2.2.2.1),No ((a0.getD a.toNat Qqf).2.2.2.2.2.2.2.2.1),No ((a0.getD a.toNat Qqf).2.2.2.2.2.2.2.2.2.1),e1049v10,e1049v11] 53] ad:=a9.Bo [4,4] Z;have ce:=AF [4,4] a9 bw Z;refine Ax h fun b8 dc h=>?_;have c:=c.trans (Ab (cd.trans ce))
      refine BD Z Z (Fg hH ([.box k [.string ⟨((a0.getD a.toNat Qqf).1).toArray⟩,No ((a0.getD a.toNat Qqf).2.1),e1049v2,No ((a0.getD a.toNat Qqf).2.2.2.1),.bool ((a0.getD a.toNat Qqf).2.2.2.2.1),No ((a0.getD a.toNat Qqf).2.2.2.2.2.1),No ((a0.getD a.toNat Qqf).2.2.2.2.2.2.1),No ((a0.getD a.toNat Qqf).2.2.2.2.2.2.2.1),No ((a0.getD a.toNat Qqf).2.2.2.2.2.2.2.2.1),No ((a0.getD a.toNat Qqf).2.2.2.2.2.2.2.2.2.1),e1049v10,e1049v11] 53]) (a0.getD a.toNat Qqf) f a0 bw (e1049h2.mono  Ai) (e1049h10.mono  Ai) (e1049h11.mono  Ai) (e.mono c) (am.mono  Ai) dc) ?_;rintro _ fd ⟨rfl,aj,cf⟩;have c:=c.trans (Ab cf);refine As ⟨c.trans (Al aj),aj.at (i:=4) Z⟩ fun kI1101=>Aq 10 d kI1101 Z (fun _ _=>An q Z) Z<|BP 11 Z<|A8 h fun ba h=>Hb 2 Z Zp Fa.e aj Z a.toNat (Dw ba) (AK ba) fun fe dd=>As ⟨c.trans (Al aj),aj.at (i:=4) Z⟩ fun kI1104=>BP 12 Z ?_
      refine He 2 a.toNat b8 Z Z hH aj Z (e.mono c) dd (AK ba) Z fun ff de df em bb=>B4<|Bz<|AB<|A3<|A2<|A8 h fun dg h=>Ah (AH dg)<|Aw 1 Z<|AQ ?_;have dh:=df.AM (i:=4) Z;have h:=Ct.again h y;have bb:=bb.mono (Ab (Ae (i:=4) Z));refine AS (_,_,_,_) ⟨dh,bb,h⟩
     have e:=e.mono (Ab (av.trans (aw.trans ax)));refine Bb (b.KM hH (i:=3) Z (e.mono c)) a.toNat (Dw af) (AK af) ?_;rintro fg _ rfl bx;refine As ⟨c.trans (Al b),b.at (i:=0) Z⟩ fun kI1109=>Ls 0 5 Z Z ?_ ?_
     ·refine Ah (Ag 2 Z b Z)<|As ⟨c.trans (Al b),b.at (i:=0) Z⟩ fun kI1110=>BP 5 Z<|Ah (AV bx (Le.refl _))<|As ⟨c.trans (Al b),b.at (i:=0) Z⟩ fun kI1111=>Aq 6 d kI1111 Z (fun _ _=>Ad Z) Z<|Mh 33 Z (fun u=>?_) (fun u=>?_)
      ·have h:=Lo u h;refine Jj 7 d kI1111 Z Z Z Z u Z<|Jj 8 d kI1111 Z Z Z Z u Z<|Jj 9 d kI1111 Z Z Z Z u Z<|Aq 10 d kI1111 Z (fun _ _=>Aj u Z) Z<|BP 11 Z<|A8 h fun bc h=>Hb 3 Z Zp Fa.e b Z a.toNat (Dw bc) (AK bc) fun fh di=>As ⟨c.trans (Al b),b.at (i:=0) Z⟩ fun kI1116=>BP 12 Z<|He 3 a.toNat true Z Z hH b Z (e.mono c) di (AK bc) Z fun fi dj dk en bd=>B4<|Bz<|AB<|A3<|A2<|A8 h fun dl h=>Ah (AH dl)<|Aw 1 Z<|AQ ?_;have dm:=dk.AM (i:=0) Z;have h:=Ct.again h y;have bd:=bd.mono (Ab (Ae (i:=0) Z));refine AS (_,_,_,_) ⟨dm,bd,h⟩
      have h:=Lp u h;refine E6 7 d kI1111 Z Z Z Z u (fun _ _=>Ad Z) Z<|E6 8 d kI1111 Z Z Z Z u (fun _ hI=>IV hI.2) Z<|BP 9 Z<|Aa u ?_;have be:AZ w [.row v2 4 1 (f).length g,.box b1 [m] 25,.box k [.string ⟨((a0.getD a.toNat Qqf).1).toArray⟩,No ((a0.getD a.toNat Qqf).2.1),e1049v2,No ((a0.getD a.toNat Qqf).2.2.2.1),.bool ((a0.getD a.toNat Qqf).2.2.2.2.1),No ((a0.getD a.toNat Qqf).2.2.2.2.2.1),No ((a0.getD a.toNat Qqf).2.2.2.2.2.2.1),No ((a0.getD a.toNat Qqf).2.2.2.2.2.2.2.1),No ((a0.getD a.toNat Qqf).2.2.2.2.2.2.2.2.1),No ((a0.getD a.toNat Qqf).2.2.2.2.2.2.2.2.2.1),e1049v10,e1049v11] 53,.box b6 [.func (.func 158) #[] #[Ze x]] 113,.box x [v2] 186] ad:=b.Bo [4,4] Z;have cg:=AF [4,4] b be Z
      have bz:AZ w [.box b6 [.func (.func 158) #[] #[Ze x]] 113,.box x [v2] 186,.row v2 4 1 (f).length g,.box b1 [m] 25,.box k [.string ⟨((a0.getD a.toNat Qqf).1).toArray⟩,No ((a0.getD a.toNat Qqf).2.1),e1049v2,No ((a0.getD a.toNat Qqf).2.2.2.1),.bool ((a0.getD a.toNat Qqf).2.2.2.2.1),No ((a0.getD a.toNat Qqf).2.2.2.2.2.1),No ((a0.getD a.toNat Qqf).2.2.2.2.2.2.1),No ((a0.getD a.toNat Qqf).2.2.2.2.2.2.2.1),No ((a0.getD a.toNat Qqf).2.2.2.2.2.2.2.2.1),No ((a0.getD a.toNat Qqf).2.2.2.2.2.2.2.2.2.1),e1049v10,e1049v11] 53] ad:=be.Bo [4,4] Z;have ch:=AF [4,4] be bz Z;refine Ax h fun b9 dn h=>?_;have c:=c.trans (Ab (cg.trans ch))
      refine BD Z Z (Fg hH ([.box k [.string ⟨((a0.getD a.toNat Qqf).1).toArray⟩,No ((a0.getD a.toNat Qqf).2.1),e1049v2,No ((a0.getD a.toNat Qqf).2.2.2.1),.bool ((a0.getD a.toNat Qqf).2.2.2.2.1),No ((a0.getD a.toNat Qqf).2.2.2.2.2.1),No ((a0.getD a.toNat Qqf).2.2.2.2.2.2.1),No ((a0.getD a.toNat Qqf).2.2.2.2.2.2.2.1),No ((a0.getD a.toNat Qqf).2.2.2.2.2.2.2.2.1),No ((a0.getD a.toNat Qqf).2.2.2.2.2.2.2.2.2.1),e1049v10,e1049v11] 53]) (a0.getD a.toNat Qqf) f a0 bz (e1049h2.mono  Ai) (e1049h10.mono  Ai) (e1049h11.mono  Ai) (e.mono c) (am.mono  Ai) dn) ?_;rintro _ fj ⟨rfl,ak,ci⟩;have c:=c.trans (Ab ci);refine As ⟨c.trans (Al ak),ak.at (i:=4) Z⟩ fun kI1125=>Aq 10 d kI1125 Z (fun _ _=>An u Z) Z<|BP 11 Z<|A8 h fun bf h=>Hb 2 Z Zp Fa.e ak Z a.toNat (Dw bf) (AK bf) fun fk dp=>As ⟨c.trans (Al ak),ak.at (i:=4) Z⟩ fun kI1128=>BP 12 Z ?_
      refine He 2 a.toNat b9 Z Z hH ak Z (e.mono c) dp (AK bf) Z fun fl dq dr eo bg=>B4<|Bz<|AB<|A3<|A2<|A8 h fun ds h=>Ah (AH ds)<|Aw 1 Z<|AQ ?_;have dt:=dr.AM (i:=4) Z;have h:=Ct.again h y;have bg:=bg.mono (Ab (Ae (i:=4) Z));refine AS (_,_,_,_) ⟨dt,bg,h⟩
     refine Ah (AV bx (Le.refl _))<|As ⟨c.trans (Al b),b.at (i:=0) Z⟩ fun kI1132=>Aq 6 d kI1132 Z (fun _ _=>Ad Z) Z<|Mh 33 Z (fun l=>?_) (fun l=>?_)
     ·have h:=Lo l h;refine Jj 7 d kI1132 Z Z Z Z l Z<|Jj 8 d kI1132 Z Z Z Z l Z<|Jj 9 d kI1132 Z Z Z Z l Z<|Aq 10 d kI1132 Z (fun _ _=>Aj l Z) Z<|BP 0 Z<|Ah (Ag 2 Z b Z)<|As ⟨c.trans (Al b),b.at (i:=0) Z⟩ fun kI1135=>BP 11 Z<|A8 h fun bh h=>Hb 3 Z Zp Fa.e b Z a.toNat (Dw bh) (AK bh) fun fm du=>As ⟨c.trans (Al b),b.at (i:=0) Z⟩ fun kI1138=>BP 12 Z<|He 3 a.toNat true Z Z hH b Z (e.mono c) du (AK bh) Z fun fn dv dw ep bi=>B4<|Bz<|AB<|A3<|A2<|A8 h fun dx h=>Ah (AH dx)<|Aw 1 Z<|AQ ?_;have dy:=dw.AM (i:=0) Z;have h:=Ct.again h y;have bi:=bi.mono (Ab (Ae (i:=0) Z))
      refine AS (_,_,_,_) ⟨dy,bi,h⟩
     have h:=Lp l h;refine E6 7 d kI1132 Z Z Z Z l (fun _ _=>Ad Z) Z<|E6 8 d kI1132 Z Z Z Z l (fun _ hI=>IV hI.2) Z<|Ls 0 9 Z Z ?_ ?_
     ·refine Ah (Ag 2 Z b Z)<|As ⟨c.trans (Al b),b.at (i:=0) Z⟩ fun kI1143=>BP 9 Z<|Aa l ?_;have bj:AZ w [.row v2 4 1 (f).length g,.box b1 [m] 25,.box k [.string ⟨((a0.getD a.toNat Qqf).1).toArray⟩,No ((a0.getD a.toNat Qqf).2.1),e1049v2,No ((a0.getD a.toNat Qqf).2.2.2.1),.bool ((a0.getD a.toNat Qqf).2.2.2.2.1),No ((a0.getD a.toNat Qqf).2.2.2.2.2.1),No ((a0.getD a.toNat Qqf).2.2.2.2.2.2.1),No ((a0.getD a.toNat Qqf).2.2.2.2.2.2.2.1),No ((a0.getD a.toNat Qqf).2.2.2.2.2.2.2.2.1),No ((a0.getD a.toNat Qqf).2.2.2.2.2.2.2.2.2.1),e1049v10,e1049v11] 53,.box b6 [.func (.func 158) #[] #[Ze x]] 113,.box x [v2] 186] ad:=b.Bo [4,4] Z;have cj:=AF [4,4] b bj Z
      have b0:AZ w [.box b6 [.func (.func 158) #[] #[Ze x]] 113,.box x [v2] 186,.row v2 4 1 (f).length g,.box b1 [m] 25,.box k [.string ⟨((a0.getD a.toNat Qqf).1).toArray⟩,No ((a0.getD a.toNat Qqf).2.1),e1049v2,No ((a0.getD a.toNat Qqf).2.2.2.1),.bool ((a0.getD a.toNat Qqf).2.2.2.2.1),No ((a0.getD a.toNat Qqf).2.2.2.2.2.1),No ((a0.getD a.toNat Qqf).2.2.2.2.2.2.1),No ((a0.getD a.toNat Qqf).2.2.2.2.2.2.2.1),No ((a0.getD a.toNat Qqf).2.2.2.2.2.2.2.2.1),No ((a0.getD a.toNat Qqf).2.2.2.2.2.2.2.2.2.1),e1049v10,e1049v11] 53] ad:=bj.Bo [4,4] Z;have ck:=AF [4,4] bj b0 Z;refine Ax h fun ar bk h=>?_;have c:=c.trans (Ab (cj.trans ck))
      refine BD Z Z (Fg hH ([.box k [.string ⟨((a0.getD a.toNat Qqf).1).toArray⟩,No ((a0.getD a.toNat Qqf).2.1),e1049v2,No ((a0.getD a.toNat Qqf).2.2.2.1),.bool ((a0.getD a.toNat Qqf).2.2.2.2.1),No ((a0.getD a.toNat Qqf).2.2.2.2.2.1),No ((a0.getD a.toNat Qqf).2.2.2.2.2.2.1),No ((a0.getD a.toNat Qqf).2.2.2.2.2.2.2.1),No ((a0.getD a.toNat Qqf).2.2.2.2.2.2.2.2.1),No ((a0.getD a.toNat Qqf).2.2.2.2.2.2.2.2.2.1),e1049v10,e1049v11] 53]) (a0.getD a.toNat Qqf) f a0 b0 (e1049h2.mono  Ai) (e1049h10.mono  Ai) (e1049h11.mono  Ai) (e.mono c) (am.mono  Ai) bk) ?_;rintro _ fo ⟨rfl,al,cl⟩;have c:=c.trans (Ab cl);refine As ⟨c.trans (Al al),al.at (i:=4) Z⟩ fun kI1148=>Aq 10 d kI1148 Z (fun _ _=>An l Z) Z<|BP 11 Z<|A8 h fun ag h=>Hb 2 Z Zp Fa.e al Z a.toNat (Dw ag) (AK ag) fun fp dz=>As ⟨c.trans (Al al),al.at (i:=4) Z⟩ fun kI1151=>BP 12 Z ?_
      refine He 2 a.toNat ar Z Z hH al Z (e.mono c) dz (AK ag) Z fun fq d0 d1 eq bl=>B4<|Bz<|AB<|A3<|A2<|A8 h fun bm h=>Ah (AH bm)<|Aw 1 Z<|AQ ?_;have d2:=d1.AM (i:=4) Z;have h:=Ct.again h y;have bl:=bl.mono (Ab (Ae (i:=4) Z));refine AS (_,_,_,_) ⟨d2,bl,h⟩
     refine Ax h fun ar bk h=>A8 h fun ag h=>A8 h fun bm h=>Aa l ?_;have bn:AZ w [.row v2 4 1 (f).length g,.box b1 [m] 25,.box k [.string ⟨((a0.getD a.toNat Qqf).1).toArray⟩,No ((a0.getD a.toNat Qqf).2.1),e1049v2,No ((a0.getD a.toNat Qqf).2.2.2.1),.bool ((a0.getD a.toNat Qqf).2.2.2.2.1),No ((a0.getD a.toNat Qqf).2.2.2.2.2.1),No ((a0.getD a.toNat Qqf).2.2.2.2.2.2.1),No ((a0.getD a.toNat Qqf).2.2.2.2.2.2.2.1),No ((a0.getD a.toNat Qqf).2.2.2.2.2.2.2.2.1),No ((a0.getD a.toNat Qqf).2.2.2.2.2.2.2.2.2.1),e1049v10,e1049v11] 53,.box b6 [.func (.func 158) #[] #[Ze x]] 113,.box x [v2] 186] ad:=b.Bo [4,4] Z;have cm:=AF [4,4] b bn Z
     have b2:AZ w [.box b6 [.func (.func 158) #[] #[Ze x]] 113,.box x [v2] 186,.row v2 4 1 (f).length g,.box b1 [m] 25,.box k [.string ⟨((a0.getD a.toNat Qqf).1).toArray⟩,No ((a0.getD a.toNat Qqf).2.1),e1049v2,No ((a0.getD a.toNat Qqf).2.2.2.1),.bool ((a0.getD a.toNat Qqf).2.2.2.2.1),No ((a0.getD a.toNat Qqf).2.2.2.2.2.1),No ((a0.getD a.toNat Qqf).2.2.2.2.2.2.1),No ((a0.getD a.toNat Qqf).2.2.2.2.2.2.2.1),No ((a0.getD a.toNat Qqf).2.2.2.2.2.2.2.2.1),No ((a0.getD a.toNat Qqf).2.2.2.2.2.2.2.2.2.1),e1049v10,e1049v11] 53] ad:=bn.Bo [4,4] Z;have cn:=AF [4,4] bn b2 Z;have c:=c.trans (Ab (cm.trans cn))
     refine BD Z Z (Fg hH ([.box k [.string ⟨((a0.getD a.toNat Qqf).1).toArray⟩,No ((a0.getD a.toNat Qqf).2.1),e1049v2,No ((a0.getD a.toNat Qqf).2.2.2.1),.bool ((a0.getD a.toNat Qqf).2.2.2.2.1),No ((a0.getD a.toNat Qqf).2.2.2.2.2.1),No ((a0.getD a.toNat Qqf).2.2.2.2.2.2.1),No ((a0.getD a.toNat Qqf).2.2.2.2.2.2.2.1),No ((a0.getD a.toNat Qqf).2.2.2.2.2.2.2.2.1),No ((a0.getD a.toNat Qqf).2.2.2.2.2.2.2.2.2.1),e1049v10,e1049v11] 53]) (a0.getD a.toNat Qqf) f a0 b2 (e1049h2.mono  Ai) (e1049h10.mono  Ai) (e1049h11.mono  Ai) (e.mono c) (am.mono  Ai) bk) ?_;rintro _ fr ⟨rfl,ac,co⟩;have c:=c.trans (Ab co);refine As ⟨c.trans (Al ac),ac.at (i:=4) Z⟩ fun kI1158=>Aq 10 d kI1158 Z (fun _ _=>An l Z) Z<|BP 0 Z<|Ah (Ag 1 Z ac Z)<|As ⟨c.trans (Al ac),ac.at (i:=4) Z⟩ fun kI1159=>BP 11 Z<|Hb 2 Z Zp Fa.e ac Z a.toNat (Dw ag) (AK ag) ?_;intro fs d3
     refine As ⟨c.trans (Al ac),ac.at (i:=4) Z⟩ fun kI1161=>BP 12 Z<|He 2 a.toNat ar Z Z hH ac Z (e.mono c) d3 (AK ag) Z fun ft d4 d5 er bo=>B4<|Bz<|AB<|A3<|A2<|Ah (AH bm)<|Aw 1 Z<|AQ ?_;have d6:=d5.AM (i:=4) Z;have h:=Ct.again h y;have bo:=bo.mono (Ab (Ae (i:=4) Z));refine AS (_,_,_,_) ⟨d6,bo,h⟩
    refine BA<|AP<|AJ ?_;have h:=Ct.out h y;refine Bu<|AB<|A7 (_,_) ⟨az,e,h⟩
   rintro⟨au,ap⟩ fu ⟨eb,d7,h⟩;refine A2<|A8 h fun d8 h=>Ah (AH d8)<|Aw 1 Z<|AQ ?_;have h:=Ct.again h b5;refine AS (_,_,_,_) ⟨eb,d7,h⟩
  refine BA<|AP<|AJ ?_;have h:=Ct.out h b5;refine Bu<|A7 (_,_) ⟨bp,br,h⟩
 rintro⟨ay,aq⟩ fv ⟨bq,d9,h⟩;refine Av<|Ah (Ag 1 Z bq Z)<|A4 1 Z<|Ay ?_
 cases h
 refine Ak Z ⟨bq.ext,_,Z,(bq.Hv hH (i:=2) Z d9)⟩
end
end Go.Proofs.YtfgomcdgmihmpaaGreatDoor
end
noncomputable section
namespace Go.Proofs.YtfgomcdgmihmpaaGreatDoor
open Go Go.E Go.RowKit Go.Shelf
theorem Si(w:World)(k:Nat)(os:Array Obj):Below w.heap.size w (Go.Sort.grow (w.drewN k) os):=
 ⟨Z,Z,Z,by simp[Go.Sort.grow,World.drewN],fun j hj=>by
  simp only[Go.Sort.grow,World.drewN];rw[Array.getElem?_append_left hj]⟩
theorem Qr(G:PH):∀l:QqA,A6 Rp.st G l (l.map Go.Proofs.encStr)
 | []=>.nil
 | _::l=>.cons (c:=[_]) Z (Qr G l)
noncomputable def P2(n:Int):Option QqZ:=Go.L.Bi (-9223372036854775808<=n/\n<=9223372036854775807) (some (Lib.itoa n))
section
variable(w:World)(H:PH)(hH:Le H (hp w)) include hH
theorem NG(hU:I3 H){a0:Int}{r:QqZ}(h:P2 a0=some r):Ok Tryz.prog 92 [.int .i64 a0] w (fun v w'=>Ext w w'/\v=.string ⟨r.toArray⟩):=by
 obtain⟨hk,h⟩:=Go.L.Hd h;obtain rfl:=Option.some.inj h;refine⟨⟨Tryz.f92,_,Tryz.func92,Z,Z⟩,(Any.strconv_Itoa Tryz.Vu a0 hk.1 hk.2 w (hU.1 w hH)).mono fun e w' he=>?_⟩;obtain⟨rfl,k,os,rfl⟩:=he;exact⟨_,Z,Ext.off (Si _ _ _),Z⟩
end
noncomputable def U2(l:QqZ):Option (Int×Bool):=Go.L.Bi (l.length<=281474976710656) (some (match Lib.atoiAll l with
 | .ok v=>(v,true)
 | .range=>(Lib.atoiSat l,false)
 | _=>(0,false)))
section
variable(w:World)(H:PH)(hH:Le H (hp w)) include hH
theorem VU(hU:I3 H){a0:QqZ}{r:Int×Bool}(h:U2 a0=some r):Ok Tryz.prog 91 [.string ⟨a0.toArray⟩] w (fun v w'=>Ext w w'/\∃e,v=.tuple #[.int .i64 r.1,e]/\(r.2=true->e=.nilIface)/\(r.2=false->∃t p,e=.iface t p)):=by
 obtain⟨hk,h⟩:=Go.L.Hd h;obtain rfl:=Option.some.inj h;have hs:(ByteArray.mk a0.toArray).size=a0.length:=by simp[Qz2]
 obtain⟨_,⟨ts,vs,h3⟩,⟨tr,vr,a⟩,_⟩:=hU;have b:=cell_of hH h3;have c:=cell_of hH a;refine⟨⟨Tryz.f91,_,Tryz.func91,Z,Z⟩,?_⟩
 cases hq:Lib.atoiAll a0 with
 | ok v=>
  refine(Any.strconv_Atoi_ok (P:=Tryz.prog) Tryz.Qz ⟨a0.toArray⟩ (by rw[hs];omega) v (by simpa using hq) w).mono fun e w' he=>?_;obtain⟨rfl,hw⟩:=he;refine⟨_,Z,?_,_,Z,fun _=>Z,fun h=>by cases h⟩
  rcases hw with rfl | ⟨t,rfl⟩
  ·exact Ext.refl _
  ·exact Ext.off (Lib.bytesWorld_below _ _ _)
 | range=>
  refine(Any.strconv_Atoi_range (P:=Tryz.prog) Tryz.Qz ⟨a0.toArray⟩ (by rw[hs];exact hk) (by simpa using hq) _ w c (.inr ⟨_,_,Z⟩)).mono fun e w' he=>?_;obtain⟨n,rfl,_,_,hb⟩:=he;exact⟨_,Z,Ext.off hb,_,Z,fun h=>(by cases h),fun _=>⟨_,_,Z⟩⟩
 | _=>
  refine(Any.strconv_Atoi_syntax (P:=Tryz.prog) Tryz.Qz ⟨a0.toArray⟩ (by rw[hs];exact hk) (by simpa using hq) _ w b (.inr ⟨_,_,Z⟩)).mono fun e w' he=>?_;obtain⟨n,rfl,_,_,hb⟩:=he;exact⟨_,Z,Ext.off hb,_,Z,fun h=>(by cases h),fun _=>⟨_,_,Z⟩⟩
end
noncomputable def OO(a:QqZ):Option QqA:=Go.L.Bi (a.length<4294967281/\(Lib.fields a).length<=140737488355328/\∀b∈a,b.toNat<128) (some (Lib.fields a))
section
variable(w:World)(H:PH)(hH:Le H (hp w)) include hH
theorem Oh(hU:I3 H){a0:QqZ}{r:QqA}(h:OO a0=some r):
  Ok Tryz.prog 38 [.string ⟨a0.toArray⟩] w (fun v w'=>Ext w w'/\∃a,v=a/\CE 9 .st H w w' a r):=by
 obtain⟨⟨c,h2,h3⟩,h⟩:=Go.L.Hd h;obtain rfl:=Option.some.inj h;have hsz:(ByteArray.mk a0.toArray).size=a0.length:=by simp[Qz2]
 refine⟨⟨Tryz.f38,_,Tryz.func38,Z,Z⟩,(Any.strings_Fields (P:=Tryz.prog) Tryz.Tl V V ⟨a0.toArray⟩ w (by rw[hsz];exact c) (fun j b hj=>h3 b (by
  have:=List.mem_of_getElem? hj
  simpa using this)) (hU.2.2.2 w hH)).mono fun e w' he=>?_⟩
 obtain⟨rfl,rfl⟩:=he;refine⟨_,Z,D5 w _,_,Z,(Lib.fields a0).map Go.Proofs.encStr,?_,Qr _ _⟩
 exact⟨by rw[Qq9];exact(Qzw _).symm,.inr ⟨w.heap.size,(Lib.fields a0).length,_,Z,Qq0 _,World.alloc_heap_new w _,Qq0 _,by unfold maxLen;omega,by simp;exact(Qzw _).symm,by
  show List.take ((Lib.fields a0).length * 1) ((Lib.fields a0).map Go.Proofs.encStr)=_
  exact Qz8 (by rw[Qq9,Qzw];exact Qq0 _)⟩⟩
end
noncomputable def QD(a:QqZ)(c:UInt8):Option Int:=some (Lib.indexByte a c)
section
variable(w:World)(H:PH)(hH:Le H (hp w)) include hH
theorem T5{a0:QqZ}{a1:UInt8}{r:Int}(h:QD a0 a1=some r):
  Ok Tryz.prog 114 [.string ⟨a0.toArray⟩,.int .u8 (a1.toNat:Int)] w (fun v w'=>Ext w w'/\v=.int .i64 r):=by
 obtain rfl:=Option.some.inj h;refine⟨⟨Tryz.f114,_,Tryz.func114,Z,Z⟩,(Any.stringslite_IndexByte (P:=Tryz.prog) (ρ:=Tryz.PZ) {Tryz.Wq with} ⟨a0.toArray⟩ (a1.toNat:Int) w).mono fun e w' he=>?_⟩;obtain⟨rfl,rfl⟩:=he;refine⟨_,Z,Ext.refl _,?_⟩;have e:((a1.toNat:Int).toNat).toUInt8=a1:=by simp
 rw[e]
end
noncomputable def Oi(s sep:QqZ)(sv n:Int):Option QqA:=Go.L.Bi (s.length<4294967281/\sep.length=1/\sv=0/\n = -1) (some (Lib.split s sep))
theorem R4(G:PH):∀l:QqA,A6 Rp.st G l (l.map Go.Proofs.encStr)
 | []=>.nil
 | _::l=>.cons (c:=[_]) Z (R4 G l)
section
variable(w:World)(H:PH)(hH:Le H (hp w)) include hH
theorem R5{a0 a1:QqZ}{a2 a3:Int}{r:QqA}(h:Oi a0 a1 a2 a3=some r):
  Ok Tryz.prog 86 [.string ⟨a0.toArray⟩,.string ⟨a1.toArray⟩,.int .i64 a2,.int .i64 a3] w (fun v w'=>Ext w w'/\∃u0,v=u0/\CE 9 .st H w w' u0 r):=by
 obtain⟨hk,h⟩:=Go.L.Hd h;obtain rfl:=Option.some.inj h;obtain⟨h1,h2,rfl,rfl⟩:=hk;obtain⟨sb,rfl⟩:=List.length_eq_one_iff.1 h2;have hsz:(ByteArray.mk a0.toArray).size=a0.length:=by simp[Qz2]
 obtain⟨N,hN⟩:∃N,N=Lib.countB ⟨a0.toArray⟩ ⟨#[sb]⟩+1:=⟨_,Z⟩;have hle:Lib.countB ⟨a0.toArray⟩ ⟨#[sb]⟩<=(ByteArray.mk a0.toArray).size:=Lib.countB_le ⟨#[sb]⟩ (Qq0 1) _ _ (Qq0 _)
 have c:=Any.strings_genSplit_core (P:=Tryz.prog) (ρ:=Tryz.Ko) {Tryz.OS with} V ⟨a0.toArray⟩ ⟨#[sb]⟩ 0 (-1) N w (by rw[hsz];exact h1) (Qq0 1) (Nat.zero_le _)
  (fun x cc hx=>(Any.strings_Index_one (P:=Tryz.prog) (ρ:=Tryz.Ko) {Tryz.OS with} x sb _).mono fun e w' ⟨he,hw⟩=>⟨by rw[he];exact congrArg (fun z=>Ending.returned (Value.int .i64 z)) (Lib.index_one x.data.toList sb).symm,hw⟩)
  ((Any.strings_Count_one (P:=Tryz.prog) (ρ:=Tryz.Ko) {Tryz.OS with} ⟨a0.toArray⟩ sb w).mono fun e w' ⟨he,hw⟩=>⟨by rw[he];exact congrArg (fun z:Nat=>Ending.returned (Value.int .i64 (z:Int))) (Lib.count_one sb _).symm,hw⟩)
  Z7 Z7 (by rw[if_pos Z7,hN];omega)
 refine⟨⟨Tryz.f86,_,Tryz.func86,Z,Z⟩,c.mono fun e w' he=>?_⟩;obtain⟨rfl,rfl⟩:=he
 have hl:(Lib.splitB ⟨#[sb]⟩ 0 (N - 1) ⟨a0.toArray⟩).length=N:=by
  have:=Lib.splitB_all ⟨#[sb]⟩ (Qq0 1) 0 (N - 1) ⟨a0.toArray⟩ U;omega
 have hd:=Lib.splitB_data ⟨#[sb]⟩ 0 (N - 1) ⟨a0.toArray⟩
 have hpc:(Lib.splitB ⟨#[sb]⟩ 0 (N - 1) ⟨a0.toArray⟩).map (fun b=>b.data.toList)=Lib.split a0 [sb]:=by
  rw[hd];unfold Lib.split;rw[hN]
  rfl
 have hpl:(Lib.split a0 [sb]).length=N:=by rw[<- hpc,Qq9,hl]
 have hmp:(Lib.splitB ⟨#[sb]⟩ 0 (N - 1) ⟨a0.toArray⟩).map Value.string=(Lib.split a0 [sb]).map Go.Proofs.encStr:=by
  rw[<- hpc,List.map_map];apply List.map_congr_left;intro b _
  show Value.string b=Value.string ⟨b.data.toList.toArray⟩
  rw[Array.toArray_toList]
 refine⟨_,Z,D5 w _,_,Z,(Lib.split a0 [sb]).map Go.Proofs.encStr,?_,R4 _ _⟩;refine⟨by rw[Qq9];exact(Qzw _).symm,.inr ⟨w.heap.size,N,_,?_,Qq0 _,World.alloc_heap_new w _,?_,?_,?_,?_⟩⟩
 ·rw[hl,hpl]
 ·omega
 ·unfold maxLen;omega
 ·rw[Lib.cellsOf_size U];exact(Qzw _).symm
 ·have e1:Lib.cellsOf (Lib.splitB ⟨#[sb]⟩ 0 (N - 1) ⟨a0.toArray⟩) N=((Lib.splitB ⟨#[sb]⟩ 0 (N - 1) ⟨a0.toArray⟩).map Value.string).toArray:=by
   have:=Lib.cellsOf_full (Lib.splitB ⟨#[sb]⟩ 0 (N - 1) ⟨a0.toArray⟩)
   rwa [hl]at this
  rw[e1,hmp];exact Qz8 (by rw[Qq9];exact Nat.le_of_eq (Qzw _).symm)
end
noncomputable def O4(a:QqZ)(c:UInt8):Option Int:=some (Lib.indexByte a c)
section
variable(w:World)(H:PH)(hH:Le H (hp w)) include hH
theorem OP{a0:QqZ}{a1:UInt8}{r:Int}(h:O4 a0 a1=some r):
  Ok Tryz.prog 89 [.string ⟨a0.toArray⟩,.int .u8 (a1.toNat:Int)] w (fun v w'=>Ext w w'/\v=.int .i64 r):=by
 obtain rfl:=Option.some.inj h;refine⟨⟨Tryz.f89,_,Tryz.func89,Z,Z⟩,(Any.strings_IndexByte Tryz.Wq ⟨a0.toArray⟩ (a1.toNat:Int) w).mono fun e w' he=>?_⟩;obtain⟨rfl,rfl⟩:=he;refine⟨_,Z,Ext.refl _,?_⟩;have e:((a1.toNat:Int).toNat).toUInt8=a1:=by simp
 rw[e]
end
noncomputable def U3(a:QqA)(sep:QqZ):Option QqZ:=Go.L.Bi (a.length<=140737488355328/\(Lib.join a sep).length<=140737488355328) (some (Lib.join a sep))
section
variable(w:World)(H:PH)(hH:Le H (hp w)) include hH
theorem VV{a0:QqA}{a1:QqZ}{v:Value}(hv:AD .st H v a0){r:QqZ}(h:U3 a0 a1=some r):
  Ok Tryz.prog 132 [v,.string ⟨a1.toArray⟩] w (fun v w'=>Ext w w'/\v=.string ⟨r.toArray⟩):=by
 obtain⟨⟨h1,h2⟩,h⟩:=Go.L.Hd h;obtain rfl:=Option.some.inj h
 have X:Builder.Extra Tryz.prog Tryz.O0:={
  liesBuilder:=by kernel_rfl
  sizeBuilder:=by kernel_rfl
  t5:=by kernel_rfl
  a5:=fun w=>by kernel_rfl
  z5:=fun w=>by kernel_rfl
  v5:=fun w=>by kernel_rfl
  infoByte:=by kernel_rfl
  cellsByte:=by kernel_rfl
  sizeByte:=by kernel_rfl
  neB5:=by decide}
 obtain⟨a,cap,rfl,k2,k3,k4,k5⟩:=hv.ex
 have key:∀(P:Prop),((a0=[]->P)/\(∀A,a=some A->a0≠[]->P))->P:=fun P hP=>by
  by_cases ha:a0=[]
  ·exact hP.1 ha
  ·cases a with
   | none=>exact absurd (List.eq_nil_of_length_eq_zero (by have:=k4 Z;omega)) ha
   | some A=>exact hP.2 A Z ha
 refine key _ ⟨fun he=>?_,fun A hA hne=>?_⟩
 ·subst he;refine⟨⟨Tryz.f132,_,Tryz.func132,Z,Z⟩,(Any.strings_Join_none Tryz.Sw X a cap ⟨a1.toArray⟩ w).mono fun e w' hh=>?_⟩;obtain⟨rfl,rfl⟩:=hh;exact⟨_,Z,Ext.refl _,Z⟩
 ·subst hA;obtain⟨k6,k7⟩:=k5 A Z hne;obtain⟨b,o,sp⟩:=A;simp only at k6;subst k6
  have hcell:∀(j:Nat) x,(a0.map fun l=>(⟨l.toArray⟩:ByteArray))[j]? = some x->w.cell? ⟨b,o+j,none⟩=some (.string x):=fun j x hx=>by
   rw[List.getElem?_map]at hx
   cases hj:a0[j]? with
   | none=>rw[hj]at hx;cases hx
   | some l=>
    rw[hj]at hx;obtain rfl:=Option.some.inj hx;obtain⟨c,hc,hcell⟩:=k7 j l hj;obtain rfl:c=[.string ⟨l.toArray⟩]:=hc;have:=cell_of hH (hcell 0 _ Z)
    rwa [show(Rp.st).sz=1 from Z,Qzw,Nat.add_zero,Addr.add_lit]at this
  have hpos:0<a0.length:=List.length_pos_iff.2 hne
  have hb:b<w.heap.size:=by
   have h0:=hcell 0 ⟨(a0[0]'hpos).toArray⟩ (by simp[hpos]);exact World.block_lt_of_cell? _ _ h0
  have e2:(a0.map fun l=>(⟨l.toArray⟩:ByteArray)).map (·.data.toList)=a0:=by rw[List.map_map];exact(List.map_congr_left (fun l _=>by simp)).trans (List.map_id _)
  have c:=Any.strings_Join Tryz.Sw X b o cap (a0.map fun l=>(⟨l.toArray⟩:ByteArray)) ⟨a1.toArray⟩ w hcell hb (by rw[Qq9];exact h1) (by rw[Qq9];omega) (by rw[e2];simpa using h2);rw[e2,Qq9]at c;refine⟨⟨Tryz.f132,_,Tryz.func132,Z,Z⟩,c.mono fun e w' hh=>?_⟩;obtain⟨rfl,hb'⟩:=hh;exact⟨_,Z,Ext.off hb',by simp⟩
end
end Go.Proofs.YtfgomcdgmihmpaaGreatDoor
end
noncomputable section
namespace Go.Proofs.YtfgomcdgmihmpaaGreatDoor
open Go Go.E Go.RowKit Go.L
set_option maxHeartbeats 1000000
set_option maxRecDepth 10000
open _root_.Go.Proofs.Tryz
def strings_Split(a0:Zg)(a1:Zg):Option ((List Zg)):=
 QqB (Oi a0 a1 (0:Int) (-1:Int)) (fun a=>some a)
section
variable(w:World)(H:PH)(hH:Le H (hp w)) include hH
theorem Oj{a0 a1:Zg}{r:(List Zg)}(h:strings_Split a0 a1=some r):
  Zy 35 [Zf a0,Zf a1] w (fun v w'=>∃d,v=d/\CE 9 .st H w w' d r):=by
 refine AL 8 [(0,(Zf a0)),(1,(Zf a1))] func35 Z fun hL=>AI 1 Z<|BN 2 Z<|Ax h fun l e h=>Bh hL (R5 _ _ (Al hL) e) ?_;rintro j m ⟨_,rfl,b⟩ f a c;obtain⟨k,a,c,g⟩:=b.take hH hL f;refine A4 1 Z<|Ay ?_
 cases h
 refine Ak Z ⟨a.ext,_,Z,(a.Hv hH (i:=0) Z g)⟩
def Dc(a0:Int):Option Bool:=
 if(0<=a0)/\(a0<55296)then some true else(if(57343<a0)/\(a0<=1114111)then some true else some false)
theorem KP{a0:Int}{r:Bool}(h:Dc a0=some r):
  Zy 141 [.int .i32 a0] w (fun v w'=>v=.bool r):=by
 refine AL 17 [(0,.int .i32 a0)] func141 Z fun hL=>AI 1 Z<|AN<|AA<|BN 3 Z<|S1 2 2 Z Z Z Z Z Z<|A4 1 Z<|AY h ?_ ?_<;>intro a h
 ·refine AI 1 Z<|Ay<|A1<|AE ?_
  cases h
  refine Ak Z ⟨hL.ext,Z⟩
 refine BN 3 Z<|S1 2 2 Z Z Z Z Z Z<|A4 1 Z<|AY h ?_ ?_<;>intro b h
 ·refine AI 1 Z<|Ay<|A1<|AE ?_
  cases h
  refine Ak Z ⟨hL.ext,Z⟩
 refine A5<|AB<|A3<|AI 1 Z<|Ay ?_
 cases h
 refine Ak Z ⟨hL.ext,Z⟩
def JQ:Option Int:=
 some ((-1))
def Dn(a0:Zg):Nat->Option ((Nat)⊕(Int)):=fun a=>
 if a<a0.length then(if((PR a0 a).1:Int)=65533 then QqD Sum.inr (some ((a:Int)))else some (Sum.inl (a+(PR a0 a).2)))else QqD Sum.inr JQ
def Hi(a0:Zg)(s:Nat):Option Int:=Go.L.run (Dn a0) s
def JR(a1 a:Int):Option ((Int)⊕(Int)):=
 Bi (BX (a - (((Ds a1).length:Int) - 1))) (QqD Sum.inr (some ((a - (((Ds a1).length:Int) - 1)))))
def Jk(a0:Zg)(a1 b:Int):Int->Option ((Int)⊕((Int)⊕(Int))):=fun a=>
 if a<((Ds a1).length:Int)then Bi (BX (b - a)) (Bi (0<=(b - a)/\(b - a)<(a0.length:Int)) (Bi (BX ((((Ds a1).length:Int) - 1) - a)) (Bi (0<=((((Ds a1).length:Int) - 1) - a)/\((((Ds a1).length:Int) - 1) - a)<((Ds a1).length:Int)) (if((a0.getD (b - a).toNat Qqf).toNat:Int)=(((Ds a1).getD ((((Ds a1).length:Int) - 1) - a).toNat Qqf).toNat:Int)then Bi (BX (a+1)) (some (Sum.inl (a+1)))else none))))else QqD Sum.inr ((JR a1 b))
def Mr(a0:Zg)(a1 a s:Int):Option ((Int)⊕(Int)):=Go.L.run (Jk a0 a1 a) s
def Hj(a0:Zg)(a1 a:Int):Option ((Int)⊕(Int)):=
 (Mr a0 a1 a) (1:Int)
def JS:Option Int:=
 some ((-1))
def GD(a0:Zg)(a1:Int):Int->Option ((Int)⊕(Int)):=fun a=>
 if a<(a0.length:Int)then Bi (0<=a/\a<(a0.length:Int)) (Bi (0<=(((Ds a1).length:Int) - 1)/\(((Ds a1).length:Int) - 1)<((Ds a1).length:Int)) (if((a0.getD a.toNat Qqf).toNat:Int)=(((Ds a1).getD (((Ds a1).length:Int) - 1).toNat Qqf).toNat:Int)then(Hj a0 a1) a else Bi (BX (a+1)) (Bi (0<=(a+1)/\(a+1)<=(a0.length:Int)) (Bi (0<=(((Ds a1).length:Int) - 1)/\(((Ds a1).length:Int) - 1)<((Ds a1).length:Int)) (QqB (O4 (a0.drop (a+1).toNat) ((Ds a1).getD (((Ds a1).length:Int) - 1).toNat Qqf)) (fun b=>if b<0 then QqD Sum.inr (some ((-1)))else Bi (BX (b+1)) (Bi (BX (a+(b+1))) ((Hj a0 a1) (a+(b+1))))))))))else QqD Sum.inr JS
def Ms(a0:Zg)(a1 s:Int):Option Int:=Go.L.run (GD a0 a1) s
def GS(a0:Zg)(a1:Int):Option Int:=
 if(0<=a1)/\(a1<128)then QqB (O4 a0 (Go.L.u8 a1)) (fun b=>some b)else(if a1=65533 then(Hi a0) (0:Nat)else QqB (Dc a1) (fun a=>if !a then some ((-1))else Bi (BX (((Ds a1).length:Int) - 1)) ((Ms a0 a1) (((Ds a1).length:Int) - 1))))
theorem Mt{a0:Zg}{a1 r:Int}(h:GS a0 a1=some r):
  Zy 112 [Zf a0,.int .i32 a1] w (fun v w'=>v=No r):=by
 refine AL 187 [(0,(Zf a0)),(1,.int .i32 a1)] func112 Z fun hL=>AI 1 Z<|AA<|BN 3 Z<|S1 2 2 Z Z Z Z Z Z<|A4 1 Z<|AY h ?_ ?_<;>intro bl h
 ·refine BN 2 Z<|Ah (Fc (Hf _))<|Ax h fun x3 bm h=>A9 hL (OP _ _ (Al hL) bm) fun w4 cb bn bz=>A4 1 Z<|Ay<|A1 ?_
  cases h
  refine Ak Z ⟨bn.ext,Z⟩
 refine AI 3 Z<|AY h ?_ ?_<;>intro bo h
 ·refine Bs Unit (fun(_:Unit)=>[]) (fun(_:Unit) wr=>AZ w [] wr/\JQ=some r) ?_ ?_
  ·refine BN 1 Z<|Us Z hL fun cc bc bd bp=>Am<|AA ?_;obtain⟨x,h⟩:=Bf h;refine BB (Nat×Nat) (fun⟨d,n⟩=>[(175,(Ze bc))]) (fun⟨d,n⟩ wr=>AZ w [.obj bc (.stringIter ⟨(a0).toArray⟩ d)] wr/\FX (Dn a0) n d=some r) (fun⟨d,n⟩=>n) ((0:Nat),x) Z ⟨bd,h⟩ ?_;rintro⟨d,nn36⟩ b0 ⟨y,h⟩;obtain⟨x,cd,rfl,h,f⟩:=Bd h;refine Av<|VC (l:=a0) (p:=d) 0 Z y Z (fun g=>?_) (fun g=>?_)
   ·have h:=MT g h;intro ce z bq;refine A4 1 Z<|AN<|Fb<|A5<|A3<|AA<|AI 4 Z<|AI 2 Z<|AY h ?_ ?_<;>intro be h
    ·refine AI 2 Z<|Ay<|A1<|BQ ?_;have h:=Ct.out h f;refine A1<|BC<|A1 ?_
     cases h
     refine Ak Z ⟨z.ext,Z⟩
    refine A5<|AB ?_;have h:=Ct.again h f;refine AS (_,_) ⟨z,h⟩
   have h:=MU g h;refine A4 1 Z<|AN<|Ht<|BA<|AP<|AJ ?_;have h:=Ct.out h f;refine Bu ?_;have bf:=y.AM (i:=0) Z;refine A7 () ⟨bf,h⟩
  rintro _ b1 ⟨bg,h⟩;refine AI 1 Z<|Ay<|A1 ?_
  cases h
  refine Ak Z ⟨bg.ext,Z⟩
 refine BN 1 Z<|Ax h fun cf bh h=>A9 hL (KP _ _ (Al hL) bh) fun cg b2 aa br=>A4 2 Z<|Bm h ?_ ?_<;>intro bi h
 ·refine AI 1 Z<|Ay<|A1 ?_
  cases h
  refine Ak Z ⟨aa.ext,Z⟩
 refine SE<|BN 1 Z<|Ah (Ur Z)<|A4 1 Z<|BN 1 Z<|Ah (K4 Z)<|A8 h fun bj h=>Ah (AH bj)<|A4 1 Z<|AI 2 Z<|AI 1 Z<|Bs Unit (fun(_:Unit)=>[]) (fun(_:Unit) wr=>AZ w [] wr/\JS=some r) ?_ ?_
 ·refine AA ?_;obtain⟨ab,h⟩:=Bf h;refine BB (Int×Nat) (fun⟨c,n⟩=>[(0,(Zf a0)),(7,.string ⟨((Ds a1)).toArray⟩),(8,No (((Ds a1).length:Int) - 1)),(9,No c)]) (fun⟨c,n⟩ wr=>AZ w [] wr/\FX (GD a0 a1) n c=some r) (fun⟨c,n⟩=>n) ((((Ds a1).length:Int) - 1),ab) Z ⟨aa,h⟩ ?_;rintro⟨c,nn253⟩ bs ⟨m,h⟩;obtain⟨ab,j,rfl,h,e⟩:=Bd h;refine AN<|BN 2 Z<|Ah (K4 Z)<|A4 1 Z<|AY h ?_ ?_<;>intro ac h
  ·refine A5<|A3<|AA<|SE<|Bs Int (fun a=>[(0,(Zf a0)),(7,.string ⟨((Ds a1)).toArray⟩),(8,No (((Ds a1).length:Int) - 1)),(9,No a)]) (fun a wr=>AZ w [] wr/\(Hj a0 a1) a=some j) ?_ ?_
   ·refine Dq (ZX 0 7 (.tail 7)) mixed V (fun b3 ad=>?_);have ae:=m.call ad;refine BW 2 Z<|A8 h fun af h=>B9 Z (Lf af) Z<|BW 2 Z<|A8 h fun ag h=>B9 Z (Lf ag) Z<|BW 1 Z<|BM (fun b4 ah=>?_);have o:=ae.call ah;refine Am<|DI h ?_ ?_<;>intro ai h
    ·refine Dq (ZX 0 9 (.tail 9)) mixed V (fun b5 aj=>?_);have ak:=o.call aj;refine BW 2 Z<|A8 h fun al h=>B9 Z (AH al) Z<|A8 h fun am h=>B9 Z (Uq am) Z<|BW 2 Z<|A8 h fun an h=>B9 Z (Lf an) Z<|Ax h fun bk ao h=>HP Z Z Z (fun b6 bt=>OP _ _ (Le.refl _) ao)<|BW 1 Z<|BM (fun b7 ap=>?_);have s:=ak.call ap;refine Am<|AN<|AI 2 Z<|AY h ?_ ?_<;>intro aq h
     ·refine AI 1 Z<|Ay<|AE<|BC<|IT<|A1<|BQ ?_;have h:=Ct.out h e;refine A1<|BC<|IT<|A1 ?_
      cases h
      refine Ak Z ⟨s.ext,Z⟩
     refine A5<|A3<|A2<|Aw 2 Z<|A8 h fun ar h=>Ah (AH ar)<|A8 h fun au h=>Ah (AH au)<|Aw 1 Z<|AQ<|A7 _ ⟨s,h⟩
    refine A5<|A7 _ ⟨o,h⟩
   rintro a bu ⟨av,h⟩;refine Bs Unit (fun(_:Unit)=>[(8,No (((Ds a1).length:Int) - 1)),(9,No a)]) (fun(_:Unit) wr=>AZ w [] wr/\(JR a1 a)=some j) ?_ ?_
   ·refine AI 1 Z<|AA ?_;obtain⟨k,h⟩:=Bf h;refine BB (Int×Nat) (fun⟨b,n⟩=>[(0,(Zf a0)),(7,.string ⟨((Ds a1)).toArray⟩),(8,No (((Ds a1).length:Int) - 1)),(9,No a),(12,No b)]) (fun⟨b,n⟩ wr=>AZ w [] wr/\FX (Jk a0 a1 a) n b=some j) (fun⟨b,n⟩=>n) (1,k) Z ⟨av,h⟩ ?_;rintro⟨b,nn363⟩ bv ⟨t,h⟩;obtain⟨k,b8,rfl,h,u⟩:=Bd h;refine AN<|BN 2 Z<|Ah (K4 Z)<|A4 1 Z<|AY h ?_ ?_<;>intro aw h
    ·refine A5<|A3<|AN<|AA<|Dq (ZX 0 11 (.tail 11)) mixed V (fun b9 ax=>?_);have ay:=t.call ax;refine BW 3 Z<|A8 h fun az h=>B9 Z (AH az) Z<|A8 h fun a2 h=>B9 Z (Lf a2) Z<|BW 3 Z<|A8 h fun a3 h=>B9 Z (AH a3) Z<|A8 h fun a4 h=>B9 Z (Lf a4) Z<|BW 1 Z<|BM (fun ca a5=>?_);have a6:=ay.call a5;refine Am<|DI h ?_ ?_<;>intro a7 h
     ·cases h
     refine A5<|AB<|A3<|A2<|Aw 1 Z<|A8 h fun a8 h=>Ah (AH a8)<|Aw 1 Z<|AQ ?_;have h:=Ct.again h u;refine AS (_,_) ⟨a6,h⟩
    refine BA<|AP<|AJ ?_;have h:=Ct.out h u;refine Bu<|A7 () ⟨t,h⟩
   rintro _ bw ⟨a9,h⟩;refine AN<|BN 2 Z<|A8 h fun ba h=>Ah (AH ba)<|A4 1 Z<|Ay<|AE<|IT<|A1<|BQ ?_;have h:=Ct.out h e;refine A1<|BC<|IT<|A1 ?_
   cases h
   refine Ak Z ⟨a9.ext,Z⟩
  refine BA<|AP<|AJ ?_;have h:=Ct.out h e;refine Bu<|A7 () ⟨m,h⟩
 rintro _ bx ⟨bb,h⟩;refine AN<|AI 1 Z<|Ay<|AE<|IT<|A1 ?_
 cases h
 refine Ak Z ⟨bb.ext,Z⟩
def Ew(a0:Zg)(a1:Int):Option Bool:=
 QqB (GS a0 a1) (fun a=>some (decide (0<=a)))
theorem IJ{a0:Zg}{a1:Int}{r:Bool}(h:Ew a0 a1=some r):
  Zy 82 [Zf a0,.int .i32 a1] w (fun v w'=>v=.bool r):=by
 refine AL 9 [(0,(Zf a0)),(1,.int .i32 a1)] func82 Z fun hL=>AI 1 Z<|BN 2 Z<|Ax h fun e a h=>A9 hL (Mt _ _ (Al hL) a) fun f d b c=>A4 2 Z<|Ay ?_
 cases h
 refine Ak Z ⟨b.ext,Z⟩
def LI(a0:Int):Option Bool:=
 if(a0<97)\/(122<a0)then if a0<48 then QqB (Ew ([45,95,46]:Zg) a0) (fun b=>some (!b))else if 57<a0 then QqB (Ew ([45,95,46]:Zg) a0) (fun a=>some (!a))else some false else some false
theorem OA{a0:Int}{r:Bool}(h:LI a0=some r):
  Zy 81 [.int .i32 a0] w (fun v w'=>v=.bool r):=by
 refine AL 22 [(0,.int .i32 a0)] func81 Z fun hL=>AI 1 Z<|BN 3 Z<|WL 2 2 Z Z Z Z Z Z<|Aw 1 Z<|AU 9 h ?_ ?_<;>intro a h
 ·refine Aa a<|Ah (Ad Z)<|Aa a<|Ah (Ad Z)<|Aa a<|Ah (Ad Z)<|AU 12 h ?_ ?_<;>intro c h
  ·iterate 2 refine Ac c ?_
   refine Aa a<|Ah (Aj c Z)<|Ah (Aj a Z)<|Aw 1 Z<|Aa Z<|Ah (Ad Z)<|Aa Z<|Ax h fun p f h=>A9 hL (IJ _ _ (Al hL) f) fun q l g j=>Aa Z<|Ah (Ad Z)<|Ah (Aj Z Z)<|A4 1 Z<|Ay ?_
   cases h
   refine Ak Z ⟨g.ext,Z⟩
  refine Aa c<|Ah (Ad Z)<|Aa c<|Ah (Ad Z)<|Aa a<|Ah (An c Z)<|Ah (Aj a Z)<|Aw 1 Z<|AU 17 h ?_ ?_<;>intro b h
  ·refine Aa b<|Ah (Ad Z)<|Aa b<|Ax h fun m d h=>A9 hL (IJ _ _ (Al hL) d) fun o k e i=>Aa b<|Ah (Ad Z)<|Ah (Aj b Z)<|A4 1 Z<|Ay ?_
   cases h
   refine Ak Z ⟨e.ext,Z⟩
  iterate 3 refine Ac b ?_
  refine Ah (An b Z)<|A4 1 Z<|Ay ?_
  cases h
  refine Ak Z ⟨hL.ext,Z⟩
 iterate 3 refine Ac a ?_
 iterate 2 refine Au ?_
 refine Ac a<|Ah (An a Z)<|Aw 1 Z ?_
 iterate 3 refine Ac Z ?_
 refine Ah (An Z Z)<|A4 1 Z<|Ay ?_
 cases h
 refine Ak Z ⟨hL.ext,Z⟩
end
end Go.Proofs.YtfgomcdgmihmpaaGreatDoor
end
noncomputable section
namespace Go.L
set_option maxRecDepth 20000 in
theorem T6{x:Int}(h:128<=x)(hx:x<=1114111)(hv:Go.Utf8.valid x=true):∃k:Nat,(Ds x).length=k/\2<=k/\k<=4/\128<=((Ds x).getD (k - 1) Qqf).toNat:=by
 obtain⟨c,rfl⟩:=Int.eq_ofNat_of_zero_le (show 0<=x by omega);have hm:∀j:Nat,(128+j % 64) % 256=128+j % 64:=fun j=>Nat.mod_eq_of_lt U;unfold Ds Go.Utf8.encode;simp only[hv,if_true,Int.toNat_natCast];rw[if_neg U];have e:∀j:Nat,128<=(UInt8.ofNat (128+j % 64)).toNat:=fun j=>by rw[UInt8.toNat_ofNat',hm];omega
 have f:∀a b:UInt8,((ByteArray.mk #[a,b]).data.toList.length=2)/\(ByteArray.mk #[a,b]).data.toList.getD (2 - 1) Qqf=b:=fun _ _=>⟨Z,Z⟩;have g:∀a b c:UInt8,((ByteArray.mk #[a,b,c]).data.toList.length=3)/\(ByteArray.mk #[a,b,c]).data.toList.getD (3 - 1) Qqf=c:=fun _ _ _=>⟨Z,Z⟩;have i:∀a b c d:UInt8,((ByteArray.mk #[a,b,c,d]).data.toList.length=4)/\(ByteArray.mk #[a,b,c,d]).data.toList.getD (4 - 1) Qqf=d:=fun _ _ _ _=>⟨Z,Z⟩
 by_cases l:c<2048
 ·rw[if_pos l];refine⟨2,(f _ _).1,by omega,by omega,?_⟩;rw[(f _ _).2];exact e _
 ·rw[if_neg l]
  by_cases h2:c<65536
  ·rw[if_pos h2];refine⟨3,(g _ _ _).1,by omega,by omega,?_⟩;rw[(g _ _ _).2];exact e _
  ·rw[if_neg h2];refine⟨4,(i _ _ _ _).1,by omega,by omega,?_⟩;rw[(i _ _ _ _).2];exact e _
end Go.L
namespace Go.Proofs.YtfgomcdgmihmpaaGreatDoor
open Go Go.L
theorem Sj:∀n:Fin 128,(0<=Lib.indexByte [45,95,46] (u8 (n.val:Int))↔(n.val=45\/n.val=95\/n.val=46)):=by decide
theorem U4:Hi [45,95,46] 0=some (-1):=by
 unfold Hi;have r0:Dn [45,95,46] 0=some (.inl 1):=by rfl
 have r1:Dn [45,95,46] 1=some (.inl 2):=by rfl
 have r2:Dn [45,95,46] 2=some (.inl 3):=by rfl
 have r3:Dn [45,95,46] 3=some (.inr (-1)):=by rfl
 rw[BT r0,BT r1,BT r2];exact BY (m:=some (-1)) r3
theorem T7{x:Int}(a:0<=x)(hx:x<=1114111):∃i,GS [45,95,46] x=some i/\(0<=i↔(x=45\/x=95\/x=46)):=by
 unfold GS
 by_cases f:x<128
 ·rw[if_pos ⟨a,f⟩];have:=Sj ⟨x.toNat,by omega⟩;simp only[Int.toNat_of_nonneg a]at this;exact⟨_,Z,by rw[this];omega⟩
 ·rw[if_neg U];have hn : ¬(x=45\/x=95\/x=46):=by omega
  by_cases h2:x=65533
  ·rw[if_pos h2,U4];exact⟨_,Z,by omega⟩
  ·rw[if_neg h2]
   by_cases hv:Go.Utf8.valid x=true
   ·have e:Dc x=some true:=by
     unfold Dc;simp only[Go.Utf8.valid,Qz5,Qq4,decide_eq_true_eq]at hv
     by_cases h3:0<=x/\x<55296
     ·rw[if_pos h3]
     ·rw[if_neg h3,if_pos U]
    rw[e];obtain⟨k,hk,h,j,hl⟩:=T6 U hx hv;simp only[QqC,Bool.not_true,Bool.false_eq_true,if_false,hk];rw[Ao (h:=(by unfold BX;omega))];refine⟨-1,BY ?_,by omega⟩;unfold GD;have g:((k:Int) - 1).toNat=k - 1:=by omega
    have key:∀(l:QqZ) (c:UInt8),(∀b∈l,b.toNat<128)->128<=c.toNat->Lib.indexByte l c = -1:=by
     intro l c hl hc
     induction l with
     | nil=>rfl
     | cons b l ih=>
      have hb:=hl b (.head _)
      have hne:(b==c)=false:=by
       cases hh:b==c with
       | false=>rfl
       | true=>have:=beq_iff_eq.1 hh;subst this;omega
      unfold Lib.indexByte;rw[ih (fun b hb=>hl b (.tail _ hb)),hne]
      rfl
    have d:k=2\/k=3\/k=4:=by omega
    simp only[hk,g]
    rcases d with rfl | rfl | rfl
    ·rw[if_pos Z7,Ao (h:=(by decide)),Ao (h:=(by decide)),if_neg (by intro hh;have:(([45,95,46]:QqZ).getD 1 Qqf).toNat=95:=Z;simp only[Nat.reduceSub]at hl hh;omega),Ao (h:=(by unfold BX;decide)),Ao (h:=(by decide)),Ao (h:=(by decide))];unfold O4;rw[QqC,key _ _ Z7 hl,if_pos Z7]
    ·rw[if_pos Z7,Ao (h:=(by decide)),Ao (h:=(by decide)),if_neg (by intro hh;have:(([45,95,46]:QqZ).getD 2 Qqf).toNat=46:=Z;simp only[Nat.reduceSub]at hl hh;omega),Ao (h:=(by unfold BX;decide)),Ao (h:=(by decide)),Ao (h:=(by decide))];unfold O4;rw[QqC,key _ _ Z7 hl,if_pos Z7]
    ·rw[if_neg Z7]
     rfl
   ·have e:Dc x=some false:=by
     unfold Dc;simp only[Go.Utf8.valid,Qz5,Qq4,decide_eq_true_eq]at hv;rw[if_neg U,if_neg U]
    rw[e];exact⟨-1,Z,by omega⟩
def VW(n:Nat):Bool:=!((decide (97<=n/\n<=122))||(decide (48<=n/\n<=57))||(decide (n=45\/n=95\/n=46)))
theorem U5{n:Nat}(hx:n<=1114111):LI (n:Int)=some (VW n):=by
 obtain⟨i,hi,hd⟩:=T7 (x:=(n:Int)) U U;have hc:Ew [45,95,46] (n:Int)=some (decide (0<=i)):=by unfold Ew;rw[hi];rfl
 have hd':decide (0<=i)=decide (n=45\/n=95\/n=46):=by
  rw[Bool.eq_iff_iff,decide_eq_true_eq,decide_eq_true_eq,hd];omega
 unfold LI VW;rw[hc,hd'];simp only[QqC]
 by_cases c:(n:Int)<97\/(122:Int)<n
 ·rw[if_pos c];have a:decide (97<=n/\n<=122)=false:=decide_eq_false U
  by_cases h2:(n:Int)<48
  ·rw[if_pos h2];have b:decide (48<=n/\n<=57)=false:=decide_eq_false U;rw[a,b];rfl
  ·rw[if_neg h2]
   by_cases h3:(57:Int)<n
   ·rw[if_pos h3];have b:decide (48<=n/\n<=57)=false:=decide_eq_false U;rw[a,b];rfl
   ·rw[if_neg h3];have b:decide (48<=n/\n<=57)=true:=decide_eq_true U;rw[a,b];rfl
 ·rw[if_neg c];have a:decide (97<=n/\n<=122)=true:=decide_eq_true U;rw[a];rfl
end Go.Proofs.YtfgomcdgmihmpaaGreatDoor
end
noncomputable section
namespace Go.Proofs.YtfgomcdgmihmpaaGreatDoor
open Go Go.E Go.RowKit Go.Shelf
noncomputable def Sk(a:QqZ):Option Bool:=some (decide (0<=Lib.idxFunc VW true ⟨a.toArray⟩))
section
variable(w:World)(H:PH)(hH:Le H (hp w)) include hH
theorem T8{a0:QqZ}{r:Bool}(h:Sk a0=some r):
  Ok Tryz.prog 80 [.string ⟨a0.toArray⟩,.func (.func 81) #[] #[]] w (fun v w'=>Ext w w'/\v=.bool r):=by
 obtain rfl:=Option.some.inj h;refine⟨⟨Tryz.f80,_,Tryz.func80,Z,Z⟩,(Any.strings_ContainsFunc_grows Tryz.XE 81 #[] (enters_of Tryz.func81 V Z) VW ⟨a0.toArray⟩ w ?_).mono fun e w' he=>?_⟩
 ·intro W x hx _;refine(OA W (hp W) (Le.refl _) (U5 hx)).2.mono fun e w' he=>?_;obtain⟨v,rfl,hx,rfl⟩:=he;exact⟨Z,hx.toBelow⟩
 ·obtain⟨rfl,hb⟩:=he;exact⟨_,Z,Ext.off hb,Z⟩
end
end Go.Proofs.YtfgomcdgmihmpaaGreatDoor
end
noncomputable section
namespace Go.Proofs.YtfgomcdgmihmpaaGreatDoor
open Go Go.E Go.RowKit Go.L
set_option maxHeartbeats 1000000
set_option maxRecDepth 10000
open _root_.Go.Proofs.Tryz
def Ej(a0:Zg):Option Bool:=
 if a0=([]:Zg)then some false else if 32<(a0.length:Int)then some false else Bi (0<=(0:Int)/\(0:Int)<(a0.length:Int)) (if((a0.getD (0:Int).toNat Qqf).toNat:Int)<97 then some false else Bi (0<=(0:Int)/\(0:Int)<(a0.length:Int)) (if 122<((a0.getD (0:Int).toNat Qqf).toNat:Int)then some false else QqB (Sk a0) (fun a=>some (!a))))
section
variable(w:World)(H:PH)(hH:Le H (hp w)) include hH
theorem FQ{a0:Zg}{r:Bool}(h:Ej a0=some r):
  Zy 31 [Zf a0] w (fun v w'=>v=.bool r):=by
 refine AL 23 [(0,(Zf a0))] func31 Z fun hL=>AI 1 Z<|AN<|BN 1 Z<|Ah (Kn Z Z)<|Aw 1 Z<|AU 5 h ?_ ?_<;>intro a h
 ·iterate 3 refine Ac a ?_
  refine Ah (Aj a Z)<|Aw 1 Z ?_
  iterate 3 refine Ac Z ?_
  refine Ah (Aj Z Z)<|Aw 1 Z ?_
  iterate 3 refine Ac Z ?_
  refine Ah (Aj Z Z)<|Am<|Fb<|AI 1 Z<|Ay<|AE ?_
  cases h
  refine Ak Z ⟨hL.ext,Z⟩
 refine Aa a<|Ah (Ad Z)<|Aa a<|Ah (K4 Z)<|Aa a<|Ah (Ad Z)<|Ah (An a Z)<|Aw 1 Z<|AU 10 h ?_ ?_<;>intro b h
 ·iterate 3 refine Ac b ?_
  refine Ah (Aj b Z)<|Aw 1 Z ?_
  iterate 3 refine Ac Z ?_
  refine Ah (Aj Z Z)<|Am<|Fb<|AI 1 Z<|Ay<|AE ?_
  cases h
  refine Ak Z ⟨hL.ext,Z⟩
 refine Aa b<|Ah (Ad Z)<|Aa b<|A8 h fun i h=>Ah (Lf i)<|Aa b<|Ah (Ad Z)<|Ah (An b Z)<|Aw 1 Z<|AU 15 h ?_ ?_<;>intro c h
 ·iterate 3 refine Ac c ?_
  refine Ah (Aj c Z)<|Am<|Fb<|AI 1 Z<|Ay<|AE ?_
  cases h
  refine Ak Z ⟨hL.ext,Z⟩
 refine Aa c<|Ah (Ad Z)<|Aa c<|A8 h fun d h=>Ah (Lf d)<|Aa c<|Ah (Ad Z)<|Ah (An c Z)<|Am<|AY h ?_ ?_<;>intro e h
 ·refine AI 1 Z<|Ay<|AE ?_
  cases h
  refine Ak Z ⟨hL.ext,Z⟩
 refine A5<|A3<|BN 1 Z<|Ax h fun l f h=>A9 hL (T8 _ _ (Al hL) f) fun m k g j=>A4 2 Z<|Ay ?_
 cases h
 refine Ak Z ⟨g.ext,Z⟩
def GU(a0:Zg):Option Bool:=
 QqB (Ej a0) (fun a=>some (!a))
theorem Mu{a0:Zg}{r:Bool}(h:GU a0=some r):
  Zy 169 [Zf a0] w (fun v w'=>v=.bool r):=by
 refine AL 6 [(0,(Zf a0))] func169 Z fun hL=>AI 1 Z<|BN 1 Z<|Ax h fun e a h=>A9 hL (FQ _ _ (Al hL) a) fun f d b c=>A4 2 Z<|Ay ?_
 cases h
 refine Ak Z ⟨b.ext,Z⟩
def Ga:Option Int:=
 some ((-1))
def FK(a0:List Zg):Int->Option ((Int)⊕(Int)):=fun a=>
 if a<(a0.length:Int)then Bi (0<=a/\a<(a0.length:Int)) (QqB (GU (a0.getD a.toNat Qqf)) (fun b=>if b then QqD Sum.inr (some a)else Bi (BX (a+1)) (some (Sum.inl (a+1)))))else QqD Sum.inr Ga
def HR(a0:List Zg)(s:Int):Option Int:=Go.L.run (FK a0) s
def H8(a0:List Zg):Option Int:=
 (HR a0) (0:Int)
theorem MH{a0:List Zg}{b:Value}(e:AD .st H b a0){r:Int}(h:H8 a0=some r):
  Zy 139 [b,.func (.func 169) #[] #[]] w (fun v w'=>v=No r):=by
 refine AL 19 [(0,b),(1,.func (.func 169) #[] #[])] func139 Z fun hL=>AI 1 Z<|Bs Unit (fun(_:Unit)=>[]) (fun(_:Unit) wr=>AZ w [] wr/\Ga=some r) ?_ ?_
 ·refine BN 1 Z<|Ah (AX e)<|A4 1 Z<|AA ?_;obtain⟨f,h⟩:=Bf h;refine BB (Int×Nat) (fun⟨a,n⟩=>[(0,b),(1,.func (.func 169) #[] #[]),(7,No (a0.length:Int)),(8,No a)]) (fun⟨a,n⟩ wr=>AZ w [] wr/\FX (FK a0) n a=some r) (fun⟨a,n⟩=>n) (0,f) Z ⟨hL,h⟩ ?_;rintro⟨a,nn42⟩ s ⟨c,h⟩;obtain⟨f,x,rfl,h,d⟩:=Bd h;refine AI 1 Z<|AN<|AY h ?_ ?_<;>intro j h
  ·refine A5<|A3<|AN<|AA<|AI 2 Z<|BN 3 Z<|A8 h fun g h=>Bb e a.toNat (Dw g) (AK g) ?_;rintro y _ rfl k;refine Ah (AV k (hH.trans c.arg))<|Ax h fun z l h=>Mk c (Mu _ _ (Al c) l) ?_;rintro _ aa rfl t i q;refine Am<|Bm h ?_ ?_<;>intro m h
   ·refine AI 2 Z<|Ay<|A1<|AE<|BQ ?_;have h:=Ct.out h d;refine A1<|BC ?_
    cases h
    refine Ak Z ⟨i.ext,Z⟩
   refine A5<|AB<|A3<|A2<|A8 h fun o h=>Ah (AH o)<|Aw 1 Z<|AQ ?_;have h:=Ct.again h d;refine AS (_,_) ⟨i,h⟩
  refine BA<|AP<|AJ ?_;have h:=Ct.out h d;refine Bu<|A7 () ⟨c,h⟩
 rintro _ u ⟨p,h⟩;refine AI 1 Z<|Ay ?_
 cases h
 refine Ak Z ⟨p.ext,Z⟩
def EY(a0:List Zg):Option Bool:=
 QqB (H8 a0) (fun a=>some (decide (0<=a)))
theorem MI{a0:List Zg}{a:Value}(b:AD .st H a a0){r:Bool}(h:EY a0=some r):
  Zy 168 [a,.func (.func 169) #[] #[]] w (fun v w'=>v=.bool r):=by
 refine AL 9 [(0,a),(1,.func (.func 169) #[] #[])] func168 Z fun hL=>AI 1 Z<|BN 2 Z<|Ax h fun g c h=>A9 hL (MH _ _ (Al hL) (b.mono  Ai) c) fun i f d e=>A4 2 Z<|Ay ?_
 cases h
 refine Ak Z ⟨d.ext,Z⟩
def CA(a0:Zg)(a1:Zg)(a:Bool):Option Int:=
 if a then some (0)else(if(a1.length:Int)=1 then Bi (0<=(0:Int)/\(0:Int)<(a1.length:Int)) (QqB (QD a0 (a1.getD (0:Int).toNat Qqf)) (fun b=>some b))else none)
def DP(a0:Zg)(a1:Zg):Option Int:=
 if(a1.length:Int)=0 then(CA a0 a1) true else(CA a0 a1) (decide (a1=a0))
theorem JT{a0 a1:Zg}{r:Int}(h:DP a0 a1=some r):
  Zy 85 [Zf a0,Zf a1] w (fun v w'=>v=No r):=by
 refine AL 143 [(0,(Zf a0)),(1,(Zf a1))] func85 Z fun hL=>AI 1 Z<|BN 1 Z<|Ah (K4 Z)<|A4 1 Z<|AN<|AA<|Bs Bool (fun b=>[(0,(Zf a0)),(1,(Zf a1)),(5,No (a1.length:Int)),(16,.bool b)]) (fun b wr=>AZ w [] wr/\(CA a0 a1) b=some r) ?_ ?_
 ·refine A2<|Aw 3 Z<|AU 19 h ?_ ?_<;>intro a h
  ·iterate 3 refine Ac a ?_
   refine Ah (Aj a Z)<|Aw 1 Z<|AQ<|A7 _ ⟨hL,h⟩
  refine Aa a<|Ah (Ad Z)<|Aa a<|Ah (Ad Z)<|Aa a<|Ah (Kn Z Z)<|Ah (An a Z)<|Aw 1 Z<|AQ<|A7 _ ⟨hL,h⟩
 rintro b k ⟨c,h⟩;refine Bm h ?_ ?_<;>intro d h
 ·refine AI 1 Z<|Ay<|A1<|AE ?_
  cases h
  refine Ak Z ⟨c.ext,Z⟩
 refine AI 3 Z<|AY h ?_ ?_<;>intro e h
 ·refine BN 2 Z<|A8 h fun f h=>Ah (Lf f)<|Ax h fun m g h=>A9 c (T5 _ _ (Al c) g) fun o l i j=>A4 1 Z<|Ay<|A1<|AE ?_
  cases h
  refine Ak Z ⟨i.ext,Z⟩
 refine Av ?_
 cases h
def Er(a0:Zg)(a1:Zg):Option (Zg×Zg×Bool):=
 QqB (DP a0 a1) (fun a=>if 0<=a then Bi (0<=a/\a<=(a0.length:Int)) (Bi (BX (a+(a1.length:Int))) (Bi (0<=(a+(a1.length:Int))/\(a+(a1.length:Int))<=(a0.length:Int)) (some ((a0.take a.toNat),(a0.drop (a+(a1.length:Int)).toNat),true))))else some (a0,([]:Zg),false))
theorem Kt{a0 a1:Zg}{r:Zg×Zg×Bool}(h:Er a0 a1=some r):
  Zy 34 [Zf a0,Zf a1] w (fun v w'=>v=.tuple #[Zf r.1,Zf r.2.1,.bool r.2.2]):=by
 refine AL 23 [(0,(Zf a0)),(1,(Zf a1))] func34 Z fun hL=>AI 3 Z<|AN<|BN 2 Z<|Ax h fun p e h=>A9 hL (JT _ _ (Al hL) e) fun s m a l=>A4 1 Z<|AI 2 Z<|AY h ?_ ?_<;>intro f h
 ·refine Dq (ZX 0 12 (.tail 12)) mixed V (fun t g=>?_);have i:=a.call g;refine BW 2 Z<|A8 h fun j h=>B9 Z (Xa j) Z<|BW 3 Z<|B9 Z (K4 Z) Z<|A8 h fun k h=>B9 Z (AH k) Z<|A8 h fun b h=>B9 Z (Uq b) Z<|BW 3 Z<|BM (fun o c=>?_);have d:=i.call c;refine Am<|Ay<|AE ?_
  cases h
  refine Ak Z ⟨d.ext,Z⟩
 refine A5<|A3<|AI 4 Z<|Ay ?_
 cases h
 refine Ak Z ⟨a.ext,Z⟩
def JU(a0:Zg)(a1:Zg):Option (Zg×Zg×Bool):=
 QqB (Er a0 a1) (fun a=>some (a.1,a.2.1,a.2.2))
theorem Mv{a0 a1:Zg}{r:Zg×Zg×Bool}(h:JU a0 a1=some r):
  Zy 13 [Zf a0,Zf a1] w (fun v w'=>v=.tuple #[Zf r.1,Zf r.2.1,.bool r.2.2]):=by
 refine AL 13 [(0,(Zf a0)),(1,(Zf a1))] func13 Z fun hL=>AI 3 Z<|BN 2 Z<|Ax h fun e a h=>A9 hL (Kt _ _ (Al hL) a) fun f d b c=>A4 6 Z<|Ay ?_
 cases h
 refine Ak Z ⟨b.ext,Z⟩
end
end Go.Proofs.YtfgomcdgmihmpaaGreatDoor
end
