/-
  Part 31 of the proof that the statement FnExactPhaseTwoWord holds.
-/
import Derived.Test.YtjbdmibbbpdnnaaCPhaseTwoWord29
namespace Go.Proofs.Ytjbdmibbbpdnnaa
open Go.RowKit
inductive Br (b:Bool) (A B:Prop):Prop
 |mk (t:b=true->A) (f:b=false->B)
inductive Cb {V:Type} (step:V->(V->Prop)->Prop) (v0:V):Prop
 |mk (I:V->Prop) (μ:V->Nat) (h0:I v0) (h: ∀v,I v->step v (λv'=>I v'/\μ v'<μ v))
structure WS where
 kn:List (Nat×Bool)
 st:St
def oK:List (Nat×Bool)->Nat->Option Bool
 | [],_=>none
 |(k,b)::r,t=>if k=t then some b else oK r t
def q8:List (Nat×Bool)->Nat->List (Nat×Bool)
 | [],_=> []
 |(k,b)::r,t=>if k=t then q8 r t else (k,b)::q8 r t
def WS.put (w:WS) (dst:Option Tmp) (v:AV):WS:=
 match dst with
 |some d=> {kn:=q8 w.kn d,st:=w.st.put (some d) v}
 |none=>w
def Ph (kn:List (Nat×Bool)):Operand->Option Bool
 | .const (.bool b)=>some b
 | .tmp t=>oK kn t
 |_=>none
def Dl (kn:List (Nat×Bool)) (o:Oper):Option Bool:=
 match o.op with
 | .assign x=>Ph kn x
 | .move x=>Ph kn x
 | .unOp .not _ x=>(Ph kn x).map (!·)
 | .pick c a b=>match Ph kn c with
  |some true=>Ph kn a
  |some false=>Ph kn b
  |none=>none
 |_=>none
def WS.oY (w:WS) (o:Oper) (v:AV):WS:=
 match o.dst,Dl w.kn o with
 |some d,some b=>match (w.st.put (some d) v).get d with
  | .at (.data _ .bool _)=> {kn:=(d,b)::q8 w.kn d,st:=w.st.put (some d) v}
  |_=>w.put (some d) v
 |dst,_=>w.put dst v
def WS.to (w:WS) (st:St):WS:= {kn:=w.kn,st:=st}
def brT (w:WS) (t:Nat) (K:Bool->WS->Prop):Prop:=
 match oK w.kn t with
 |some b=>K b w
 |none=>match w.st.get t with
  | .at (.data _ .bool b)=>Br b (K true {kn:=(t,true)::w.kn,st:=w.st}) (K false {kn:=(t,false)::w.kn,st:=w.st})
  |_=>False
def brO (w:WS) (c:Operand) (K:Bool->WS->Prop):Prop:=
 match c with
 | .tmp t=>brT w t K
 | .const (.bool b)=>K b w
 |_=>False
def Dy {α:Type} (o:Option α) (K:α->Prop):Prop:=match o with|some x=>K x|none=>False
def UH (T:Tab) (st:St) (t:TypeId) (x:AV) (l h:Int):Option AV:=
 match x with
 | .at (.data fr (.slice e) xs)=>if (T.elem t).bind T.ty=some e then some (.at (.data fr (.slice e) ((xs.take h.toNat).drop l.toNat))) else none
 | .at (.own k off _)=>match st.at k with
  |some (.arr _ _ e tid _)=>if T.elem t=some tid/\T.ty tid=some e then some (.at (.own k (off+l.toNat) (h.toNat-l.toNat))) else none
  |_=>none
 | .at (.data _ .str s)=>if T.ty t=some .str then some (.at (.data true .str (s.extract l.toNat h.toNat))) else none
 |_=>none
variable (T:Tab) (Γ:Env)
def RH (op:BinOp) (t:TypeId) (x y:AV) (K:AV->Prop):Prop:=
 match op,x,y with
 | .quo, .at (.data _ (.int k) a), .at (.data _ (.int k') b)=>if k=k' then b≠0/\K (.at (.data true (.int k) (k.wrap (a.tdiv b)))) else False
 | .rem, .at (.data _ (.int k) a), .at (.data _ (.int k') b)=>if k=k' then b≠0/\K (.at (.data true (.int k) (a.tmod b))) else False
 | .shl, .at (.data _ (.int k) a), .at (.data _ (.int _) b)=> ¬b<0/\K (.at (.data true (.int k) (k.wrap (a*2^(min b.toNat k.bits)))))
 | .shr, .at (.data _ (.int k) a), .at (.data _ (.int _) b)=> ¬b<0/\K (.at (.data true (.int k) (a.fdiv (2^(min b.toNat k.bits)))))
 | .add, .at (.data _ .str a), .at (.data _ .str b)=>a.size+b.size<=4294967296/\K (.at (.data true .str (a++b)))
 |op,x,y=>Dy (My T op t x y) K
def ID (st:St) (t:TypeId) (p:AV) (K:AV->Prop):Prop:=
 match p with
 | .at (.Fy l i)=>Dy (T.ty t) λτ=>match st.at l with
  |some (.arr fr _ e _ xs)=>if e=τ then ∃x,xs[i]?=some x/\K (.at (.data (fr||e.flat) e x)) else False
  |some (.Dg e _ xs)=>if e=τ then ∃x,xs[i]?=some x/\K (if e.Ac then .agg (aL l i 0 e x) else .at ((aL l i 0 e x).headD .undef)) else False
  |some (.Al _ _ _ none _)=>if τ.Ac then False else K (.at (.sub l i 0))
  |_=>False
 | .at (.data fr (.optr Iz) x)=>Dy (T.ty t) λτ=>if Iz=τ then ∃y,x=some y/\K (.at (.data (fr||Iz.flat) Iz y)) else False
 |p=>Dy (Kg T st t p) K
def fq (s:TypeId) (x:AV) (f:Nat) (K:AV->Prop):Prop:=
 match x with
 | .at (.data fr (.optr τ) x)=> ∃y,x=some y/\Dy (Is T s (.at (.data fr (.ptr τ) y)) f) K
 |x=>Dy (Is T s x f) K
def qj (st:St) (x:Operand) (K:AV->Prop) (d:Option AV):Prop:=
 match st.ev x with
 | .at (.data fr (.optr τ) x)=> ∃y,x=some y/\K (.at (.data fr (.ptr τ) y))
 |_=>Dy d K
def z6 (st:St) (t:TypeId) (x:AV) (lo hi:Option AV) (K:AV->Prop):Prop:=
 Dy (vh x) λn=>Dy (FJ lo 0) λl=>Dy (FJ hi n) λh=>(0<=l/\l<=h/\h<=n)/\Dy (UH T st t x l h) K
def fH (st:St) (t:TypeId) (x i:AV) (K:AV->Prop):Prop:=
 match x,i with
 | .at (.data fr (.slice e) xs), .at (.data _ (.int _) n)=>if (T.elem t).bind T.ty=some e then ∃x,idx xs n=some x/\K (.at (.data fr (.ptr e) x)) else False
 | .at (.own l off len), .at (.data _ (.int _) n)=>match st.at l with
  |some (.arr _ _ e tid _)=>if T.elem t=some tid/\T.ty tid=some e then (0<=n/\n<len)/\K (.at (.Fy l (off+n.toNat))) else False
  |some (.Dg e tid _)=>if T.elem t=some tid/\T.ty tid=some e then (0<=n/\n<len)/\K (.at (.Fy l (off+n.toNat))) else False
  |some (.Al _ te _ _ _)=>if T.elem t=some te/\(T.ty te).map Ty.size=some 1 then (0<=n/\n<len)/\K (.at (.Fy l (off+n.toNat))) else False
  |_=>False
 | .at (.sub l i _), .at (.data _ (.int _) n)=>match st.at l with
  |some (.Al e _ rows none _)=>if ((T.elem t).bind T.ty).map Ty.size=some e.size then (0<=n/\n<(rows.getD i []).length)/\K (.at (.Fv l i n.toNat)) else False
  |_=>False
 |_,_=>False
def ye (t:TypeId) (x i:AV) (K:AV->Prop):Prop:=
 match x,i with
 | .at (.data _ .str s), .at (.data _ (.int _) n)=>if T.ty t=some .str then 0<=n/\ ∃b,s[n.toNat]?=some b/\K (.at (.data true (.int .u8) b.toNat)) else False
 |_,_=>False
def pK (st:St) (f:FuncId) (args:List AV) (K:AV->Prop):Prop:=
 Dy (match Γ f with|some (.q s)=>some s|_=>none) λs=>match s.fresh||s.res.flat||args.all (·.settled) with
  |true=>Dy (Bu st s.arg args) λp=> ∃y,s.fn p.2=some y/\K (if s.Ef then .Uo (s.fresh||s.res.flat) s.res y else .at (.data (s.fresh||s.res.flat) s.res y))
  |false=>False
def xA (st:St) (v:AV) (args:List AV) (K:AV->Prop):Prop:=
 match v with
 | .at (.data fr (.clo f τ) x)=>match τ.chain with|true=>(match Nat.blt f 1000000000 with|true=>pK Γ st f (args++Uu fr τ x) K|false=>pK Γ st (f-1000000000) (Uu fr τ x++args) K)|false=>False
 | .at (.clo f Bz)=>pK Γ st f (args++Bz.map λp=> .at (.Dw p.1 p.2)) K
 |_=>False
def qW (w:WS) (o:Oper) (K:AV->WS->Prop):Prop:=
 match o.op with
 | .pick c a b=>brO w c λt w'=>match t with|true=>K (w'.st.ev a) w'|false=>K (w'.st.ev b) w'
 | .load t a=>ID T w.st t (w.st.ev a) λv=>K v w
 | .binOp op t x y _=>RH T op t (w.st.ev x) (w.st.ev y) λv=>K v w
 | .slice t x lo hi mx=>match mx with
  |none=>z6 T w.st t (w.st.ev x) (lo.map w.st.ev) (hi.map w.st.ev) λv=>K v w
  |some _=>False
 | .indexAddr t x i=>fH T w.st t (jw (w.st.ev x)) (w.st.ev i) λv=>K v w
 | .index t x i=>ye T t (w.st.ev x) (w.st.ev i) λv=>K v w
 | .call {callee:= .value (.func f),args, .. } =>pK Γ w.st f (args.toList.map w.st.ev) λv=>K v w
 | .call {callee:= .value (.tmp t),args, .. } =>xA Γ w.st (w.st.get t) (args.toList.map w.st.ev) λv=>K v w
 | .fieldAddr s x f=>fq T s (w.st.ev x) f λv=>K v w
 | .nilCheck x=>qj w.st x (λv=>K v w) (Ck T Γ w.st o)
 |_=>Dy (Ck T Γ w.st o) λv=>K v w
def zj (st:St) (t:TypeId) (p v:AV) (K:St->Prop):Prop:=
 match p with
 | .at (.Fy l j)=>Dy (T.ty t) λτ=>Dy (settle st v) λq=>match q.2.at l with
  |some (.arr fr tr e tid xs)=>Dy (Cv q.2 τ q.1) λu=>if h:τ=e then j<xs.length/\K (q.2.Gb l (.arr (fr&&u.1) (tr&&(Mu st v&&e.tree)) e tid (xs.set j (h▸u.2)))) else False
  |_=>False
 |p=>Dy (Ny T st t p v) K
def AY (st:St) (t:TypeId) (p v:AV) (K:St->Prop):Prop:=
 match p with
 | .at (.Fv l i j)=>Dy (T.ty t) λτ=>Dy (settle st v) λq=>match q.2.at l with
  |some (.Al e te rows none kp)=>Dy (Cv q.2 τ q.1) λu=>if h:τ=e then K (q.2.Gb l (.Al e te (rows.set i ((rows.getD i []).set j (h▸u.2))) none kp)) else False
  |_=>False
 | .at (.Fy l j)=>Dy (T.ty t) λτ=>match st.at l,v with
  |some (.Al e te rows out kp), .at (.own m off len)=>match st.at m with
   |some (.arr _ _ e' _ xs)=>if h:e'=e/\(Nat.blt l Ak&&(!Nat.beq m l&&!τ.Ac))=true then
     off=0/\len=xs.length/\(match out with|none=>True|some i=>i=j)/\K (Mx st l j m e te rows (h.1▸xs) (Vi j kp))
    else False
   |_=>False
  |_,_=>False
 |_=>False
def sY (st:St) (t:TypeId) (p v:AV) (K:St->Prop):Prop:=match zR st p with
 |true=>AY T st t p v K
 |false=>zj T st t p v K
def gm (st:St) (dst:Nat) (t:TypeId) (x y:Operand) (K:AV->St->Prop):Prop:=
 Dy (T.elem t) λte=>Dy (T.ty te) λe=>Dy (settle st (st.ev y)) λq=>Dy (Cv q.2 (.slice e) q.1) λu=>match q.2.ev x with
  | .at .Hp=>match Nat.blt dst Ak with
   |true=>List.length u.2<=Bm/\K (.at (.own dst 0 (List.length u.2))) ((q.2.new dst (.arr (T.oa||e.flat) T.tQ e te [])).new dst (.arr ((T.oa||e.flat)&&(u.1||e.flat)) (T.tQ&&(e.flat||(Mu st (st.ev y)&&e.tree))) e te u.2))
   |false=>False
  | .at (.own l off len)=>match q.2.at l with
   |some (.arr fr tr e' tid xs)=>if h:e'=e/\tid=te/\Nat.blt l Ak=true then
     off=0/\len=xs.length/\len+List.length u.2<=Bm/\K (.at (.own l 0 (List.length ((h.1▸xs:List e.den)++u.2)))) (q.2.new l (.arr (fr&&(u.1||e.flat)) (tr&&(e.flat||(Mu st (st.ev y)&&e.tree))) e te ((h.1▸xs:List e.den)++u.2)))
    else False
   |_=>False
  |_=>False
def lW (st:St) (dst:Nat) (t:TypeId) (x y:Operand) (K:AV->St->Prop):Prop:=
 match x with
 | .tmp tx=>match st.get tx with
  | .at (.sub l i _)=>Dy (T.elem t) λtid=>match st.at l with
   |some (.Al e te rows none kp)=>match Nat.blt l Ak&&(Nat.blt dst Ak&&!Nat.beq dst l) with
    |true=>gm T ((Kf st l i dst e te tid rows kp).put (some tx) (.at (.own dst 0 (rows.getD i []).length))) dst t x y K
    |false=>False
   |_=>False
  |_=>gm T st dst t x y K
 |_=>gm T st dst t x y K
def IJ (st:St) (dst:Nat) (t:TypeId) (l c:AV) (K:AV->St->Prop):Prop:=
 match l,c with
 | .at (.data _ (.int _) n), .at (.data _ (.int _) m)=>Dy (T.elem t) λte=>Dy (T.ty te) λe=>match aT e&&Nat.blt dst Ak with
  |true=>(0<=n/\n<Bm+1)/\n=m/\K (.at (.own dst 0 (List.replicate n.toNat e.zero).length)) (st.new dst (.arr (T.oa||e.flat) (T.tQ&&e.tree) e te (List.replicate n.toNat e.zero)))
  |false=>False
 |_,_=>False
def yr (st:St) (dst:Nat) (t:TypeId) (l c:AV) (K:AV->St->Prop):Prop:=
 match Yg T t with
 |none=>IJ T st dst t l c K
 |some p=>match l,c with
  | .at (.data _ (.int _) n), .at (.data _ (.int _) m)=>match Nat.blt dst Ak with
   |true=>(0<=n/\n<Bm+1)/\n=m/\K (.at (.own dst 0 (List.replicate n.toNat ([]:List p.2.den)).length)) (Kx st dst dst (.Al p.2 p.1 (List.replicate n.toNat []) none none))
   |false=>False
  |_,_=>False
def Zt (st:St) (dst:Nat) (t:TypeId) (len:Nat) (parts:Array (Nat×Operand)) (K:AV->St->Prop):Prop:=
 match Yg T t with
 |none=>Dy (Hl T st dst t len parts) λr=>K r.1 r.2
 |some p=>match parts.toList with
  | [(0,x)]=>match st.ev x with
   | .at (.own m off ln)=>match st.at m with
    |some (.arr _ _ e' _ xs)=>if h:e'=p.2/\(Nat.beq len 1&&(Nat.blt dst Ak&&Nat.blt m Ak))=true then off=0/\ln=xs.length/\K (.at (.own dst 0 1)) (Kx st dst m (.Al p.2 p.1 [h.1▸xs] none none)) else False
    |_=>False
   |_=>False
  |_=>False
def lY (st:St) (dst:Nat) (t:TypeId) (x y:Operand) (K:AV->St->Prop):Prop:=
 match Yg T t with
 |none=>lW T st dst t x y K
 |some p=>match st.ev x,st.ev y with
  | .at (.own l off len), .at (.own m IP mP)=>match st.at l,st.at m with
   |some (.Al e1 te1 A none _),some (.Al e2 pv B none _)=>
    if h:(e1=p.2/\e2=p.2)/\(decide (te1=p.1)&&decide (pv=p.1)&&(Nat.blt l Ak&&(Nat.blt m Ak&&!Nat.beq m l)))=true then
     (off=0/\len=A.length)/\(IP=0/\mP=B.length)/\0<B.length/\A.length+B.length<=Bm/\
      K (.at (.own l 0 (List.length ((h.1.1▸A:List (List p.2.den))++(h.1.2▸B:List (List p.2.den)))))) (Kx st l m (.Al p.2 p.1 ((h.1.1▸A:List (List p.2.den))++(h.1.2▸B:List (List p.2.den))) none none))
    else False
   |_,_=>False
  |_,_=>False
def aO (st:St) (io:Bool) (k:Nat):(c:CK)->AC->(c.den->List (Nat×Loc)->Prop)->Prop
 | .Ee τ, .own l off len,K=>Dy (Bp st τ (.own l off len)) λp=>K p.2 [(Bv false k, .view l)]
 | .Ee τ, .clo g Bz,K=>match Vv st (Bz.map (·.1))&&!τ.Ac with
  |true=>Dy (Fk st τ (.clo g Bz)) λp=>K p.2 (views k (Bz.map (·.1)))
  |false=>False
 | .Ee τ, .Dw l i,K=>match Vv st [l]&&!τ.Ac with
  |true=>Dy (Fk st τ (.Dw l i)) λp=>K p.2 (views k [l])
  |false=>False
 | .Ee τ, .sub l i c,K=>Dy (Bp st τ (.sub l i c)) λp=>K p.2 [(Bv false k, .view l)]
 | .Ee τ,a,K=>match τ.flat||a.settled with
  |true=>Dy (Bp st τ a) λp=>K p.2 []
  |false=>False
 | .row e te, .own l off len,K=>match st.at l with
  |some (.arr _ _ e' Ld xs)=>if h:e'=e/\Ld=te then off=0/\len=xs.length/\K (h.1▸xs:List e.den) [(Bv io k, .row l)] else False
  |_=>False
 | .row e _, .sub l i c,K=>match st.at l with
  |some (.Dg e' _ xs)=>if h:e'= .slice e/\e.flat=true/\io=true/\c=0 then ∃y,xs[i]?=some y/\K (h.1▸y:(Ty.slice e).den) [(Bv io k, .sub l i c)] else False
  |_=>False
 | .row _ _, .Hp,K=>K [] []
 | .Dt e te, .own l off len,K=>match st.at l with
  |some (.Dg e' Ld xs)=>if h:e'=e/\Ld=te then off=0/\len=xs.length/\K (h.1▸xs:List e.den) [(Bv io k, .row l)] else False
  |_=>False
 | .Dt e _, .sub l i c,K=>match st.at l with
  |some (.Dg e' _ xs)=>if h:e'= .slice e/\io=true/\c=0 then ∃y,xs[i]?=some y/\K (h.1▸y:(Ty.slice e).den) [(Bv io k, .sub l i c)] else False
  |_=>False
 | .Dt _ _, .Hp,K=>K [] []
 | .part e te, .own l off len,K=>match st.at l with
  |some (.arr _ _ e' Ld xs)=>if h:e'=e/\Ld=te/\e.flat=true/\io=true then K ((h.1▸xs:List e.den),off,len) [(Bv io k, .row l)] else False
  |_=>False
 | .Al e te _, .own l off len,K=>match st.at l with
  |some (.Al e' Ld rows none _)=>if h:e'=e/\Ld=te/\io=false then off=0/\len=rows.length/\K (h.1▸rows:List (List e.den)) [(Bv io k, .row l)] else False
  |_=>False
 |_,_,_=>False
def tq (st:St):(k:Nat)->(cs:List (Bool×CK))->List AC->(Ins.den cs->List (Nat×Loc)->Prop)->Prop
 |_,[],[],K=>K () []
 |k,p::r,a::as,K=>aO st p.1 k p.2 a λx t1=>tq st (k+1) r as λy t2=>K (x,y) (t1++t2)
 |_,_,_,_=>False
def kE (st:St):(c:CK)->c.den->AC->(St->Prop)->Prop
 | .row e _,ys, .own l _ len,K=>match st.at l with
  |some (.arr fr tr e' te xs)=>if h:e=e' then (List.length ys=len/\xs.length=len)/\K (st.Gb l (.arr (fr&&e'.flat) (tr&&e'.flat) e' te (h▸ys))) else False
  |_=>False
 | .Dt e _,ys, .own l _ len,K=>match st.at l with
  |some (.Dg e' te xs)=>if h:e=e' then (List.length ys=len/\xs.length=len)/\K (st.Gb l (.Dg e' te (h▸ys))) else False
  |_=>False
 | .row e _,ys, .sub l i _,K=>match st.at l with
  |some (.Dg e' te xs)=>if h: .slice e=e' then ∃y,xs[i]?=some y/\List.length ys=List.length (h▸y:(Ty.slice e).den)/\K (st.Gb l (.Dg e' te (xs.set i (h▸(ys:(Ty.slice e).den))))) else False
  |_=>False
 | .Dt e _,ys, .sub l i _,K=>match st.at l with
  |some (.Dg e' te xs)=>if h: .slice e=e' then ∃y,xs[i]?=some y/\List.length ys=List.length (h▸y:(Ty.slice e).den)/\K (st.Gb l (.Dg e' te (xs.set i (h▸(ys:(Ty.slice e).den))))) else False
  |_=>False
 |_,_, .Hp,K=>K st
 |_,_,_,_=>False
def JJ (st:St) (e:Ty) (ys:List e.den):AC->(St->Prop)->Prop
 | .own l _ _,K=>match st.at l with
  |some (.arr fr tr e' te xs)=>if h:e=e' then List.length ys=xs.length/\K (st.Gb l (.arr fr tr e' te (h▸ys))) else False
  |_=>False
 |_,_=>False
def cF:(cs:List (Bool×CK))->IOs.den cs->List AC->St->(St->Prop)->Prop
 | [],_,_,st,K=>K st
 |(true, .Ee _)::r,x,_::as,st,K=>cF r x as st K
 |(true, .row e te)::r,x,a::as,st,K=>kE st (.row e te) x.1 a λst'=>cF r x.2 as st' K
 |(true, .Dt e te)::r,x,a::as,st,K=>kE st (.Dt e te) x.1 a λst'=>cF r x.2 as st' K
 |(true, .part e _)::r,x,a::as,st,K=>JJ st e x.1 a λst'=>cF r x.2 as st' K
 |(true, .Al _ _ _)::r,x,_::as,st,K=>cF r x as st K
 |(false,_)::r,x,_::as,st,K=>cF r x as st K
 |_,_,_,_,_=>False
def nV (H:List (Nat×OB)) (ls:List Nat) (n:Nat):List AV->Prop->Prop
 | [],K=>K
 | .at (.sub l i _)::r,K=>match ls.contains l with
  |true=>(i<n/\i<lA H l)/\nV H ls n r K
  |false=>nV H ls n r K
 |_::r,K=>nV H ls n r K
def xz (st:St) (dst:Option Nat) (s:MSpec) (args:List AV) (K:AV->St->Prop):Prop:=
 Dy (AQ st s args) λq=>Dy (ungroup s.Hb q.2.2) λiL=>tq st 0 s.ins (q.2.1++iL) λx tks=>
  match Sz (tks.map λt=>t.2.Py)&&rZ (Lu s tks (dst.getD 0)) (s.outs.length+(fS s (dst.getD 0)).length)&&Nat.blt s.outs.length 1000&&Nat.blt s.ins.length 1000&&(Pb s.ins q.2.1&&q.1.all λl=>!((tks.map λt=>t.2.Py)++Lu s tks (dst.getD 0)).contains l) with
  |true=> ∃p,s.fn x=some p/\cF s.ins p.2 (q.2.1++iL) st λst1=>Dy (NW s (dst.getD 0) ((Vn (Bx (Lu s tks (dst.getD 0))) 0 s.outs p.1).drop s.Th)) λv=>
    nV (fe st st1 (dst.getD 0) s q.1 tks p.1).heap (Vh st.heap (Lu s tks (dst.getD 0)) tks s.keeps) (s.Cw x) st.tmps
     (K v (fI st (fe st st1 (dst.getD 0) s q.1 tks p.1) (Vh st.heap (Lu s tks (dst.getD 0)) tks s.keeps) (s.Cw x)))
  |false=>False
def QU (w:WS) (o:Oper) (K:AV->WS->Prop):Prop:=
 match o.op with
 | .store t p x=>sY T w.st t (w.st.ev p) (w.st.ev x) λs=>K .undef (w.to s)
 | .makeSlice t l c=>Dy o.dst λd=>yr T w.st d t (w.st.ev l) (w.st.ev c) λv s=>K v (w.to s)
 | .call {callee:= .builtin .append,args,argTypes} =>match o.dst,args.toList,argTypes.toList with
  |some d,[x,y],[t,t']=>if t=t' then lY T w.st d t x y λv s=>K v (w.to s) else False
  |_,_,_=>False
 | .assign _=>Dy (evalOp T Γ w.st o) λr=>K r.1 (w.to r.2)
 | .alloc _=>Dy (evalOp T Γ w.st o) λr=>K r.1 (w.to r.2)
 | .box _ _=>Dy (evalOp T Γ w.st o) λr=>K r.1 (w.to r.2)
 | .buildSlice t len parts=>Dy o.dst λd=>Zt T w.st d t len parts λv s=>K v (w.to s)
 | .build _ _=>Dy (evalOp T Γ w.st o) λr=>K r.1 (w.to r.2)
 | .makeMap _ _=>Dy (evalOp T Γ w.st o) λr=>K r.1 (w.to r.2)
 | .mapUpdate _ _ _ _=>Dy (evalOp T Γ w.st o) λr=>K r.1 (w.to r.2)
 | .insert _ _ _ _=>Dy (evalOp T Γ w.st o) λr=>K r.1 (w.to r.2)
 | .call {callee:= .builtin .copy, .. } =>Dy (evalOp T Γ w.st o) λr=>K r.1 (w.to r.2)
 | .call {callee:= .builtin .clear, .. } =>Dy (evalOp T Γ w.st o) λr=>K r.1 (w.to r.2)
 | .call {callee:= .value (.func f),args, .. } =>match Γ f with
  |some (.m s)=>xz w.st o.dst s (args.toList.map w.st.ev) λv s'=>K v (w.to s')
  |some (.q s)=>match ak s (args.toList.map w.st.ev) with
   |true=>Dy (Jl args.toList w.st) λst1=>qW T Γ (w.to st1) o K
   |false=>qW T Γ w o K
  |_=>qW T Γ w o K
 |_=>qW T Γ w o K
def AV.HZ:AV->Bool
 | .at .skip=>true
 |_=>false
def bW (w:WS) (o:Oper) (K:AV->WS->Prop):Prop:=
 match o.op with
 | .buildSlice t len parts=>Dy (Uw T w.st t len parts) λv=>K v w
 | .build t parts=>Dy (Qj T w.st t parts) λv=>K v w
 |_=>qW T Γ w o K
def eK (ops:Array Oper) (w:WS) (o:Oper) (run:(AV->WS->Prop)->WS->Prop) (K:WS->Prop):Prop:=
 match o.guard with
 |none=>run (λv w'=>K (w'.oY o v)) w
 |some (j,want)=>Dy ((ops[j]?).bind (·.dst)) λt=>match (w.st.get t).HZ with
  |true=>K (w.put o.dst (.at .skip))
  |false=>brT w t λb w'=>match b,want with
   |true,true=>run (λv o6=>K (o6.oY o v)) w'
   |false,false=>run (λv o6=>K (o6.oY o v)) w'
   |_,_=>K (w'.put o.dst (.at .skip))
def TR (ops:Array Oper):List Oper->WS->(WS->Prop)->Prop
 | [],w,K=>K w
 |o::r,w,K=>eK ops w o (λk w'=>QU T Γ w' o k) λw'=>TR ops r w' K
def HR (ops:Array Oper):List Nat->WS->(WS->Prop)->Prop
 | [],w,K=>K w
 |i::r,w,K=>Dy ops[i]? λo=>eK ops w o (λk w'=>QU T Γ w' o k) λw'=>HR ops r w' K
def pU (ops:Array Oper):List Nat->WS->(WS->Prop)->Prop
 | [],w,K=>K w
 |i::r,w,K=>Dy ops[i]? λo=>eK ops w o (λk w'=>bW T Γ w' o k) λw'=>pU ops r w' K
def LS:List Nat->(Nat->Prop)->Prop
 | [],_=>True
 | [i],P=>P i
 |i::j::r,P=>P i/\LS (j::r) P
def BL (ops:Array Oper):Nat->Array Bool->WS->(WS->Prop)->Prop
 |0,Ab,w,K=>match Region.ready .any ops Ab with
  | []=>K w
  |_::_=>False
 |f+1,Ab,w,K=>match Region.ready .any ops Ab with
  | []=>False
  |i::r=>LS (i::r) λk=>Dy ops[k]? λo=>eK ops w o (λkk w'=>QU T Γ w' o kk) λw'=>BL ops f (Ab.setIfInBounds k true) w' K
def VA:AC->Type->Type
 | .data _ τ _,R=>τ.den×R
 | .sub _ _ _,R=>Nat×R
 | .Fy _ _,R=>Nat×R
 | .Fv _ _ _,R=>Nat×Nat×R
 |_,R=>R
def xo:List AC->Type->Type
 | [],R=>R
 |c::r,R=>VA c (xo r R)
def VB:AV->Type->Type
 | .at a,R=>VA a R
 | .agg cs,R=>xo cs R
 | .Uo _ τ _,R=>τ.den×R
 | .Ix _,R=>R
def ZM:OB->Type->Type
 | .arr _ _ e _ _,R=>List e.den×R
 | .Dg e _ _,R=>List e.den×R
 | .var _ vs,R=>xo vs R
 | .Al e _ _ _ none,R=>List (List e.den)×R
 | .Al e _ _ _ (some _),R=>List (List e.den)×(Nat×R)
 | .Ok v _,R=>(ByteArray->Option v.den)×R
def kQ:List AV->Type->Type
 | [],R=>R
 |v::r,R=>VB v (kQ r R)
def pV:List (Nat×OB)->Type->Type
 | [],R=>R
 |p::r,R=>ZM p.2 (pV r R)
def stV (s:St):Type:=kQ s.tmps (pV s.heap Unit)
def zC:(c:AC)-> {R:Type} ->R->VA c R
 | .data _ _ x,_,r=>(x,r)
 | .undef,_,r=>r
 | .skip,_,r=>r
 | .Hp,_,r=>r
 | .Qw,_,r=>r
 | .own _ _ _,_,r=>r
 | .Dw _ _,_,r=>r
 | .Fy _ i,_,r=>(i,r)
 | .clo _ _,_,r=>r
 | .Gi _,_,r=>r
 | .sub _ i _,_,r=>(i,r)
 | .Fv _ i j,_,r=>(i,j,r)
def lT:(l:List AC)-> {R:Type} ->R->xo l R
 | [],_,r=>r
 |c::l,_,r=>zC c (lT l r)
def OX:(c:AV)-> {R:Type} ->R->VB c R
 | .at a,_,r=>zC a r
 | .agg cs,_,r=>lT cs r
 | .Uo _ _ x,_,r=>(x,r)
 | .Ix _,_,r=>r
def QT:(b:OB)-> {R:Type} ->R->ZM b R
 | .arr _ _ _ _ xs,_,r=>(xs,r)
 | .Dg _ _ xs,_,r=>(xs,r)
 | .var _ vs,_,r=>lT vs r
 | .Al _ _ rows _ none,_,r=>(rows,r)
 | .Al _ _ rows _ (some p),_,r=>(rows,p.2,r)
 | .Ok _ m,_,r=>(m,r)
def lJ:(l:List AV)-> {R:Type} ->R->kQ l R
 | [],_,r=>r
 |c::l,_,r=>OX c (lJ l r)
def lB:(l:List (Nat×OB))-> {R:Type} ->R->pV l R
 | [],_,r=>r
 |p::l,_,r=>QT p.2 (lB l r)
def AU (s:St):stV s:=lJ s.tmps (lB s.heap ())
def iP:(c d:AC)-> {R:Type} ->R->Option (VA c R)
 | .data fr τ _, .data Ov Iz x,_,r=>if h:Iz=τ/\Ov=fr then some (h.1▸x,r) else none
 | .undef, .undef,_,r=>some r
 | .skip, .skip,_,r=>some r
 | .Hp, .Hp,_,r=>some r
 | .Qw, .Qw,_,r=>some r
 | .own l _ _, .own l' _ _,_,r=>if l=l' then some r else none
 | .Dw l i, .Dw l' i',_,r=>if l=l'/\i=i' then some r else none
 | .Fy l _, .Fy l' i',_,r=>if l=l' then some (i',r) else none
 | .clo f c, .clo f' c',_,r=>if f=f'/\c=c' then some r else none
 | .Gi l, .Gi l',_,r=>if l=l' then some r else none
 | .sub l _ c, .sub l' i' c',_,r=>if l=l'/\c=c' then some (i',r) else none
 | .Fv l _ _, .Fv l' i' j',_,r=>if l=l' then some (i',j',r) else none
 |_,_,_,_=>none
def Lt:(l m:List AC)-> {R:Type} ->R->Option (xo l R)
 | [],[],_,r=>some r
 |c::l,d::m,_,r=>(Lt l m r).bind λr'=>iP c d r'
 |_,_,_,_=>none
def fh:(c d:AV)-> {R:Type} ->R->Option (VB c R)
 | .at a, .at b,_,r=>iP a b r
 | .agg cs, .agg ds,_,r=>Lt cs ds r
 | .Uo fr τ _, .Uo Ov Iz x,_,r=>if h:Iz=τ/\Ov=fr then some (h.1▸x,r) else none
 |_,_,_,_=>none
def Mo:(b d:OB)-> {R:Type} ->R->Option (ZM b R)
 | .arr fr tr e tid _, .arr Ov KG e' Nv xs,_,r=>if h:e'=e/\Ov=fr/\KG=tr/\Nv=tid then some (h.1▸xs,r) else none
 | .Dg e tid _, .Dg e' Nv xs,_,r=>if h:e'=e/\Nv=tid then some (h.1▸xs,r) else none
 | .Ok v _, .Ok v' m,_,r=>if h:v'=v then some (h▸m,r) else none
 | .var t vs, .var t' us,_,r=>if t'=t then Lt vs us r else none
 | .Al e te _ out none, .Al e' Ld rows bA none,_,r=>if h:e'=e/\Ld=te/\bA=out then some (h.1▸rows,r) else none
 | .Al e te _ out (some p), .Al e' Ld rows bA (some p'),_,r=>if h:e'=e/\Ld=te/\bA=out/\p'.1=p.1 then some (h.1▸rows,p'.2,r) else none
 |_,_,_,_=>none
def Jm:(l m:List AV)-> {R:Type} ->R->Option (kQ l R)
 | [],[],_,r=>some r
 |c::l,d::m,_,r=>(Jm l m r).bind λr'=>fh c d r'
 |_,_,_,_=>none
def Kh:(l m:List (Nat×OB))-> {R:Type} ->R->Option (pV l R)
 | [],[],_,r=>some r
 |p::l,q::m,_,r=>if q.1=p.1 then (Kh l m r).bind λr'=>Mo p.2 q.2 r' else none
 |_,_,_,_=>none
def da (s t:St):Option (stV s):=(Kh s.heap t.heap ()).bind λr=>Jm s.tmps t.tmps r
def fc:(c:AC)-> {R:Type} ->VA c R->AC×R
 | .data fr τ _,_,v=>(.data fr τ v.1,v.2)
 | .undef,_,r=>(.undef,r)
 | .skip,_,r=>(.skip,r)
 | .Hp,_,r=>(.Hp,r)
 | .Qw,_,r=>(.Qw,r)
 | .own l off len,_,r=>(.own l off len,r)
 | .Dw l i,_,r=>(.Dw l i,r)
 | .Fy l _,_,v=>(.Fy l v.1,v.2)
 | .clo f c,_,r=>(.clo f c,r)
 | .Gi l,_,r=>(.Gi l,r)
 | .sub l _ c,_,v=>(.sub l v.1 c,v.2)
 | .Fv l _ _,_,v=>(.Fv l v.1 v.2.1,v.2.2)
def Tk:(l:List AC)-> {R:Type} ->xo l R->List AC×R
 | [],_,r=>([],r)
 |c::l,_,v=>((fc c v).1::(Tk l (fc c v).2).1,(Tk l (fc c v).2).2)
def m5:(c:AV)-> {R:Type} ->VB c R->AV×R
 | .at a,_,v=>(.at (fc a v).1,(fc a v).2)
 | .agg cs,_,v=>(.agg (Tk cs v).1,(Tk cs v).2)
 | .Uo fr τ _,_,v=>(.Uo fr τ v.1,v.2)
 | .Ix l,_,r=>(.Ix l,r)
def mZ:(b:OB)-> {R:Type} ->ZM b R->OB×R
 | .arr fr tr e tid _,_,v=>(.arr fr tr e tid v.1,v.2)
 | .Dg e tid _,_,v=>(.Dg e tid v.1,v.2)
 | .Ok w _,_,v=>(.Ok w v.1,v.2)
 | .var t vs,_,v=>(.var t (Tk vs v).1,(Tk vs v).2)
 | .Al e te _ out none,_,v=>(.Al e te v.1 out none,v.2)
 | .Al e te _ out (some p),_,v=>(.Al e te v.1 out (some (p.1,v.2.1)),v.2.2)
def Pv:(l:List AV)-> {R:Type} ->kQ l R->List AV×R
 | [],_,r=>([],r)
 |c::l,_,v=>((m5 c v).1::(Pv l (m5 c v).2).1,(Pv l (m5 c v).2).2)
def Yj:(l:List (Nat×OB))-> {R:Type} ->pV l R->List (Nat×OB)×R
 | [],_,r=>([],r)
 |p::l,_,v=>((p.1,(mZ p.2 v).1)::(Yj l (mZ p.2 v).2).1,(Yj l (mZ p.2 v).2).2)
def cZ (s:St) (v:stV s):St:= {tmps:=(Pv s.tmps v).1,heap:=(Yj s.heap (Pv s.tmps v).2).1}
def lenOf (H:List (Nat×OB)) (l:Nat):Nat:=match Ae H l with|some (.arr _ _ _ _ xs)=>xs.length|some (.Dg _ _ xs)=>xs.length|some (.Al _ _ rows _ _)=>rows.length|_=>0
def Sv (ps:List Nat):List AV->List (Nat×Nat×Nat)
 | []=> []
 | .at (.own l off len)::r=>if ps.contains l then (l,off,len)::Sv ps r else Sv ps r
 |_::r=>Sv ps r
def TP:List (Nat×Nat×Nat)->Nat->Nat
 | [],_=>0
 |(k,o,_)::r,l=>if k=l then o else TP r l
def CN:List (Nat×Nat×Nat)->List (Nat×OB)->Nat->Nat
 | [],H,l=>lenOf H l
 |(k,_,n)::r,H,l=>if k=l then n else CN r H l
def aS (B:List (Nat×Nat×Nat)) (H:List (Nat×OB)):AC->AC
 | .own l _ _=> .own l (TP B l) (CN B H l)
 |c=>c
def St.whole (B:List (Nat×Nat×Nat)) (s:St):St:=s.Gh (aS B s.heap)
def qZ (B:List (Nat×Nat×Nat)) (H:List (Nat×OB)) (c:AC) (K:Prop):Prop:=match c with
 | .own l off len=>off=TP B l/\len=CN B H l/\K
 |_=>K
def Xt (B:List (Nat×Nat×Nat)) (H:List (Nat×OB)):List AC->Prop->Prop
 | [],K=>K
 |c::r,K=>qZ B H c (Xt B H r K)
def zE (B:List (Nat×Nat×Nat)) (H:List (Nat×OB)) (c:AV) (K:Prop):Prop:=match c with
 | .at a=>qZ B H a K
 | .agg cs=>Xt B H cs K
 | .Uo _ _ _=>K
 | .Ix _=>False
def Un (B:List (Nat×Nat×Nat)) (H:List (Nat×OB)):List AV->Prop->Prop
 | [],K=>K
 |c::r,K=>zE B H c (Un B H r K)
def dy (B:List (Nat×Nat×Nat)) (H:List (Nat×OB)):List (Nat×OB)->Prop->Prop
 | [],K=>K
 |p::r,K=>match p.2 with
  | .var _ vs=>Xt B H vs (dy B H r K)
  |_=>dy B H r K
def sX (B:List (Nat×Nat×Nat)) (s:St) (K:Prop):Prop:=Un B s.heap s.tmps (dy B s.heap s.heap K)
def AV.Qt:AV->Bool
 | .at (.data _ _ _)=>true
 |_=>false
def Hm (p:Nat->Bool):Nat->List AV->List Bool
 |_,[]=> []
 |i,v::r=>(v.Qt&&p i)::Hm p (i+1) r
def stays (live:Nat->List Nat) (c:Code) (t:Nat):Bool:=!(writes c).contains t&&Vg live c t
def Oc:List Bool->List AV->List AV
 |true::f,_::r=> .undef::Oc f r
 |false::f,v::r=>v::Oc f r
 |_,l=>l
def Pj:List Bool->List AV->List AV->List AV
 |true::f,a::s,_::r=>a::Pj f s r
 |false::f,_::s,v::r=>v::Pj f s r
 |_,_,l=>l
def St.mask (fx:List Bool) (s:St):St:= {tmps:=Oc fx s.tmps,heap:=s.heap}
def St.oR (fx:List Bool) (s0 s:St):St:= {tmps:=Pj fx s0.tmps s.tmps,heap:=s.heap}
def lx (c:AC) (k:AC->Prop):Prop:=match c with
 | .undef=>k .undef
 | .skip=>k .skip
 | .Hp=>k .Hp
 | .Qw=>k .Qw
 | .data fr τ x=>match fr with
  |true=>k (.data true τ x)
  |false=>k (.data false τ x)
 | .own l off len=>k (.own l off len)
 | .Dw l i=>k (.Dw l i)
 | .Fy l i=>k (.Fy l i)
 | .clo f c=>k (.clo f c)
 | .Gi l=>k (.Gi l)
 | .sub l i c=>k (.sub l i c)
 | .Fv l i c=>k (.Fv l i c)
def c9:List AC->(List AC->Prop)->Prop
 | [],k=>k []
 |c::r,k=>lx c λc'=>c9 r λr'=>k (c'::r')
def rD (c:AV) (k:AV->Prop):Prop:=match c with
 | .at a=>lx a λa'=>k (.at a')
 | .agg cs=>c9 cs λbV=>k (.agg bV)
 | .Uo fr τ x=>k (.Uo fr τ x)
 | .Ix l=>k (.Ix l)
def ca:List AV->(List AV->Prop)->Prop
 | [],k=>k []
 |c::r,k=>rD c λc'=>ca r λr'=>k (c'::r')
def rE (b:OB) (k:OB->Prop):Prop:=match b with
 | .arr fr tr e tid xs=>match fr,tr with
  |true,true=>k (.arr true true e tid xs)
  |true,false=>k (.arr true false e tid xs)
  |false,true=>k (.arr false true e tid xs)
  |false,false=>k (.arr false false e tid xs)
 | .Dg e tid xs=>k (.Dg e tid xs)
 | .var t vs=>c9 vs λtS=>k (.var t tS)
 | .Al e te rows out kp=>match out,kp with
  |none,none=>k (.Al e te rows none none)
  |none,some (l,n)=>k (.Al e te rows none (some (l,n)))
  |some i,none=>k (.Al e te rows (some i) none)
  |some i,some (l,n)=>k (.Al e te rows (some i) (some (l,n)))
 | .Ok v m=>k (.Ok v m)
def mr:List (Nat×OB)->(List (Nat×OB)->Prop)->Prop
 | [],k=>k []
 |(l,b)::r,k=>rE b λb'=>mr r λr'=>k ((l,b')::r')
def j7 (w:WS) (k:WS->Prop):Prop:=ca w.st.tmps λt=>mr w.st.heap λh=>k {kn:=w.kn,st:= {tmps:=t,heap:=h} }
def j6 (s:St) (k:St->Prop):Prop:=ca s.tmps λt=>mr s.heap λh=>k {tmps:=t,heap:=h}
def dv:List Bool->(List Bool->Prop)->Prop
 | [],k=>k []
 |true::r,k=>dv r λr'=>k (true::r')
 |false::r,k=>dv r λr'=>k (false::r')
theorem ke {c:AC} {k:AC->Prop} :lx c k↔k c:=by
 cases c<;>simp only [lx]
 split<;>rfl
theorem a5: ∀ {l:List AC} {k:List AC->Prop},c9 l k↔k l
 | [],k=>Iff.rfl
 |c::r,k=>by simp only [c9];rw [ke,a5]
theorem uG {c:AV} {k:AV->Prop} :rD c k↔k c:=by
 cases c<;>simp only [rD]
 ·exact ke
 ·exact a5
theorem a6: ∀ {l:List AV} {k:List AV->Prop},ca l k↔k l
 | [],k=>Iff.rfl
 |c::r,k=>by simp only [ca];rw [uG,a6]
theorem uH {b:OB} {k:OB->Prop} :rE b k↔k b:=by
 cases b<;>simp only [rE]
 ·split<;>rfl
 ·exact a5
 ·split<;>rfl
theorem fw: ∀ {l:List (Nat×OB)} {k:List (Nat×OB)->Prop},mr l k↔k l
 | [],k=>Iff.rfl
 |(l,b)::r,k=>by simp only [mr];rw [uH,fw]
theorem BV {s:St} {k:St->Prop} :j6 s k=k s:=by
 unfold j6
 exact propext (by rw [a6,fw])
theorem fv: ∀ {l:List Bool} {k:List Bool->Prop},dv l k=k l
 | [],k=>rfl
 |true::r,k=>by simp only [dv];rw [fv]
 |false::r,k=>by simp only [dv];rw [fv]
theorem a7 {w:WS} {k:WS->Prop} :j7 w k↔k w:=by
 unfold j7
 rw [a6,fw]
def Ur:AC->List (Nat×Nat)
 | .own _ off len=> [(off,len)]
 |_=> []
def Ut:AV->List (Nat×Nat)
 | .at a=>Ur a
 | .agg cs=>cs.flatMap Ur
 |_=> []
def fO:OB->List (Nat×Nat)
 | .var _ vs=>vs.flatMap Ur
 |_=> []
def zh (s:St):List (Nat×Nat):=s.tmps.flatMap Ut++s.heap.flatMap λp=>fO p.2
def eqW (s0 s:St):Prop:=zh s=zh s0/\Dy (da s0 s) λv=>v=AU s0
def j5 (ops:Array Oper):Nat->Array Bool->WS->(WS->Prop)->Prop
 |0,Ab,w,K=>match Region.ready .any ops Ab with
  | []=>K w
  |_::_=>False
 |f+1,Ab,w,K=>match Region.ready .any ops Ab with
  | []=>False
  |k::_=>Dy ops[k]? λo=>eK ops w o (λkk w'=>QU T Γ w' o kk) λw'=>j5 ops f (Ab.setIfInBounds k true) w' K
def u5 (P:List (Nat×Nat×AV×OB)) (ops:Array Oper):Nat->Array Bool->WS->(WS->Prop)->Prop
 |0,Ab,w,K=>match Region.ready .any ops Ab with
  | []=>K w
  |_::_=>False
 |f+1,Ab,w,K=>match Region.ready .any ops Ab with
  | []=>False
  |i::r=>LS (i::r) λk=>Dy ops[k]? λo=>match yz P Γ ops w.st o k with
   |true=>eK ops w o (λkk w'=>QU T Γ w' o kk) λw'=>u5 P ops f (Ab.setIfInBounds k true) w' K
   |false=>False
def rf (P:List (Nat×Nat×AV×OB)) (n:Nat) (L0:Array Bool) (ops:Array Oper) (w:WS) (K:WS->Prop):Prop:=
 match (Sz (P.map (·.1))&&Sz (P.map (·.2.1)))&&((P.all λa=>jo a.2.1 w.st)&&(Nat.ble P.length n&&Nat.ble (n-P.length) 10)) with
 |true=>HR T Γ ops (P.map (·.1)) w λw1=>j7 w1 λw1=>j5 T Γ ops (n-P.length) (Eg (P.map (·.1)) L0) w1 λw0=>j7 w0 λw0=>K w0/\u5 T Γ P ops (n-P.length) (Eg (P.map (·.1)) L0) w1 λw2=>eqW w0.st w2.st
 |false=>False
def sF (ops:Array Oper) (draw:Bool) (w:WS) (K:WS->Prop):Prop:=
 match draw with
 |true=>match dE false Γ ops with
  |true=>pU T Γ ops (dx false Γ ops) w λw'=>HR T Γ ops (Fe false Γ ops) w' K
  |false=>match dE true Γ ops with
   |true=>pU T Γ ops (dx true Γ ops) w λw'=>HR T Γ ops (Fe true Γ ops) w' K
   |false=>match Region.noSelect ops&&Nat.ble (ops.size-(Jz ops).length) 8 with
    |true=>pU T Γ ops (Jz ops) w λw'=>match du false ops with
     |true=>BL T Γ ops (ops.size-(Jz ops).length) (Eg (Jz ops) (Array.replicate ops.size false)) w' K
     |false=>j5 T Γ ops (ops.size-(Jz ops).length) (Eg (Jz ops) (Array.replicate ops.size false)) w' λw0=>j7 w0 λw0=>K w0/\BL T Γ ops (ops.size-(Jz ops).length) (Eg (Jz ops) (Array.replicate ops.size false)) w' λw1=>eqW w0.st w1.st
    |false=>match Region.noSelect ops with
     |true=>pU T Γ ops (Jz ops) w λw'=>rf T Γ (Rx T ops (Eg (Jz ops) (Array.replicate ops.size false))) (ops.size-(Jz ops).length) (Eg (Jz ops) (Array.replicate ops.size false)) ops w' K
     |false=>False
 |false=>TR T Γ ops ops.toList w K
def Xx (live:Nat->List Nat):Code->WS->(Gw->WS->Prop)->Prop
 | .skip,w,Q=>Q .normal w
 | .label _,w,Q=>Q .normal w
 | .region _ ops draw,w,Q=>sF T (sE Γ draw) ops draw w λw'=>j7 w' (Q .normal)
 | .seq a b,w,Q=>Xx live a w λe w'=>match e with
  | .normal=>Xx live b w' Q
  | .exit id=>Q (.exit id) w'
  | .ret=>Q .ret w'
 | .cond c a b,w,Q=>brO w c λt w'=>match t with
  |true=>Xx live a w' Q
  |false=>Xx live b w' Q
 | .block id c,w,Q=>Xx live c w λe w'=>match e with
  | .normal=>Q .normal w'
  | .exit CH=>if CH=id then Q .normal w' else Q (.exit CH) w'
  | .ret=>Q .ret w'
 | .loop c,w,Q=>
  j6 (w.st.clean (live (Ch c))) λs0=>dv (Hm (stays live c) 0 s0.tmps) λfx=>j6 (s0.mask fx) λm=>
  sX (Sv T.parts s0.tmps) s0 (Cb (V:=stV m) (λv k=>j6 ((St.oR fx s0 (cZ m v)).whole (Sv T.parts s0.tmps)) λsb=>Xx live c ⟨[],sb⟩ λe w'=>match e with
   | .normal=>j6 (w'.st.clean (live (Ch c))) λs1=>sX (Sv T.parts s0.tmps) s1 (Dy (da m (s1.mask fx)) k)
   | .exit id=>Q (.exit id) w'
   | .ret=>Q .ret w') (AU m))
 | .exit id,w,Q=>Q (.exit id) w
 | .ret,w,Q=>Q .ret w
 |_,_,_=>False
def RI (s:Spec) (fn:Func) (P:s.res.den->Prop) (st:St):Prop:=
 Dy (gG T s fn st) λp=>match p.1||!s.fresh with|true=>P p.2|false=>False
def cp (st:St) (K:Prop):List AC->List (Bool×CK)->Prop
 | .own l off len::as,(true,_)::r=>match st.at l with
  |some (.arr _ _ _ _ xs)=>(off=0/\len=xs.length)/\cp st K as r
  |some (.Dg _ _ xs)=>(off=0/\len=xs.length)/\cp st K as r
  |_=>False
 |_::as,(false,_)::r=>cp st K as r
 |_,_=>K
def jq (st:St):(cs:List CK)->List AC->(CKs.den cs->List Nat->Prop)->Prop
 | [],[],K=>K () []
 | .Al e te _::r, .own l off len::as,K=>match st.at l with
  |some (.Al e' Ld rows none _)=>if h:e'=e/\Ld=te then (off=0/\len=rows.length)/\jq st r as λy t=>K ((h.1▸rows:List (List e.den)),y) (l::t) else False
  |_=>False
 |c::r,a::as,K=>Dy (dT st c a) λp=>jq st r as λy t=>K (p.1,y) (p.2++t)
 |_,_,_=>False
def rY (st:St) (n:Nat) (as:List AC):List (Nat×Nat)->Prop->Prop
 | [],K=>K
 |(k,j)::r,K=>match as[j]? with
  |some (.own l _ _)=>match st.at l with
   |some (.Al _ _ _ _ (some p))=>match Nat.beq p.1 (Bv false k)&&Nat.blt k 1000 with
    |true=>n<=p.2/\rY st n as r K
    |false=>False
   |_=>False
  |_=>False
def nv (s:MSpec) (fn:Func) (x:Ins.den s.ins) (st:St) (cs:List AC) (P:CKs.den s.outs×IOs.den s.ins->Prop):Prop:=
 Dy (Xl T st fn.results.toList) λl=>Dy (yT s st l) λp=>jq st s.outs (cs++p.1) λr ls=>Dy (Jf st 0 s.ins) λo=>
  match Sz (p.2++ls++Jy 0 s.ins)&&Nat.blt s.ins.length 1000&&Nat.blt s.outs.length 1000&&s.IK with
  |true=>rY st (s.Cw x) (cs++p.1) s.keeps (P (r,o))
  |false=>False
def AR (s:MSpec) (fn:Func) (x:Ins.den s.ins) (st:St) (P:CKs.den s.outs×IOs.den s.ins->Prop):Prop:=
 match s.ptr with
 |none=>nv T s fn x st [] P
 |some p=>match st.at Lr with
  |some (.var tid vs)=>match Nat.beq tid p.1&&Nat.beq vs.length p.2 with
   |true=>Dy (Ey 0 s.ins vs) λcs=>cp st (nv T s fn x st cs P) vs s.ins
   |false=>False
  |_=>False
@[irreducible] def fnMW (s:MSpec) (fn:Func) (x:Ins.den s.ins) (P:CKs.den s.outs×IOs.den s.ins->Prop):Prop:=
 match Nat.blt s.ins.length 1000&&sA s with
 |false=>False
 |true=>Dy fn.body λc=>Xx T Γ (s8 T.marks fn c) c {kn:= [],st:= {tmps:=Tg s (Ve 0 s.ins x)++List.replicate (fn.ntmps-(Tg s (Ve 0 s.ins x)).length) .undef,heap:=ko s x} } λe w=>match e with
  | .normal=>AR T s fn x w.st P
  | .ret=>AR T s fn x w.st P
  | .exit _=>False
@[irreducible] def fnW (s:Spec) (fn:Func) (x:s.arg.den) (P:s.res.den->Prop):Prop:=
 Dy fn.body λc=>Xx T Γ (s8 T.marks fn c) c {kn:= [],st:= {tmps:=Mi s.arg x++List.replicate (fn.ntmps-(Mi s.arg x).length) .undef,heap:= []} } λe w=>match e with
  | .normal=>RI T s fn P w.st
  | .ret=>RI T s fn P w.st
  | .exit _=>False
end Go.Proofs.Ytjbdmibbbpdnnaa
