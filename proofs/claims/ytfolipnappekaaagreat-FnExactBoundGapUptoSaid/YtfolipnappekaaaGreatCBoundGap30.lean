/-
  Part 31 of the proof that the statement FnExactBoundGap holds.
-/
import Derived.Test.YtfolipnappekaaaGreatCBoundGap29
namespace Go.Proofs.YtfolipnappekaaaGreat
open Go.RowKit
inductive Br (b:Bool) (A B:Prop):Prop
 |mk (t:b=true->A) (f:b=false->B)
inductive Bm {V:Type} (step:V->(V->Prop)->Prop) (v0:V):Prop
 |mk (I:V->Prop) (μ:V->Nat) (h0:I v0) (h: ∀v,I v->step v (λv'=>I v'/\μ v'<μ v))
structure WS where
 kn:List (Nat×Bool)
 st:St
def ri:List (Nat×Bool)->Nat->Option Bool
 | [],_=>none
 |(k,b)::r,t=>if k=t then some b else ri r t
def tn:List (Nat×Bool)->Nat->List (Nat×Bool)
 | [],_=> []
 |(k,b)::r,t=>if k=t then tn r t else (k,b)::tn r t
def WS.put (w:WS) (dst:Option Tmp) (v:AV):WS:=
 match dst with
 |some d=> {kn:=tn w.kn d,st:=w.st.put (some d) v}
 |none=>w
def Qr (kn:List (Nat×Bool)):Operand->Option Bool
 | .const (.bool b)=>some b
 | .tmp t=>ri kn t
 |_=>none
def Dw (kn:List (Nat×Bool)) (o:Oper):Option Bool:=
 match o.op with
 | .assign x=>Qr kn x
 | .move x=>Qr kn x
 | .unOp .not _ x=>(Qr kn x).map (!·)
 | .pick c a b=>match Qr kn c with
  |some true=>Qr kn a
  |some false=>Qr kn b
  |none=>none
 |_=>none
def WS.rK (w:WS) (o:Oper) (v:AV):WS:=
 match o.dst,Dw w.kn o with
 |some d,some b=>match (w.st.put (some d) v).get d with
  | .at (.data _ .bool _)=> {kn:=(d,b)::tn w.kn d,st:=w.st.put (some d) v}
  |_=>w.put (some d) v
 |dst,_=>w.put dst v
def WS.to (w:WS) (st:St):WS:= {kn:=w.kn,st:=st}
def brT (w:WS) (t:Nat) (K:Bool->WS->Prop):Prop:=
 match ri w.kn t with
 |some b=>K b w
 |none=>match w.st.get t with
  | .at (.data _ .bool b)=>Br b (K true {kn:=(t,true)::w.kn,st:=w.st}) (K false {kn:=(t,false)::w.kn,st:=w.st})
  |_=>False
def brO (w:WS) (c:Operand) (K:Bool->WS->Prop):Prop:=
 match c with
 | .tmp t=>brT w t K
 | .const (.bool b)=>K b w
 |_=>False
def Ei {α:Type} (o:Option α) (K:α->Prop):Prop:=match o with|some x=>K x|none=>False
def Abz (T:Tab) (st:St) (t:TypeId) (x:AV) (l h:Int):Option AV:=
 match x with
 | .at (.data fr (.slice e) xs)=>if (T.elem t).bind T.ty=some e then some (.at (.data fr (.slice e) ((xs.take h.toNat).drop l.toNat))) else none
 | .at (.own k off _)=>match st.at k with
  |some (.arr _ _ e tid _)=>if T.elem t=some tid/\T.ty tid=some e then some (.at (.own k (off+l.toNat) (h.toNat-l.toNat))) else none
  |_=>none
 | .at (.data _ .str s)=>if T.ty t=some .str then some (.at (.data true .str (s.extract l.toNat h.toNat))) else none
 |_=>none
variable (T:Tab) (Γ:Env)
def ZJ (op:BinOp) (t:TypeId) (x y:AV) (K:AV->Prop):Prop:=
 match op,x,y with
 | .quo, .at (.data _ (.int k) a), .at (.data _ (.int k') b)=>if k=k' then b≠0/\K (.at (.data true (.int k) (k.wrap (a.tdiv b)))) else False
 | .rem, .at (.data _ (.int k) a), .at (.data _ (.int k') b)=>if k=k' then b≠0/\K (.at (.data true (.int k) (a.tmod b))) else False
 | .shl, .at (.data _ (.int k) a), .at (.data _ (.int _) b)=> ¬b<0/\K (.at (.data true (.int k) (k.wrap (a*2^(min b.toNat k.bits)))))
 | .shr, .at (.data _ (.int k) a), .at (.data _ (.int _) b)=> ¬b<0/\K (.at (.data true (.int k) (a.fdiv (2^(min b.toNat k.bits)))))
 | .add, .at (.data _ .str a), .at (.data _ .str b)=>a.size+b.size<=4294967296/\K (.at (.data true .str (a++b)))
 |op,x,y=>Ei (Ob T op t x y) K
def QC (st:St) (t:TypeId) (p:AV) (K:AV->Prop):Prop:=
 match p with
 | .at (.Gi l i)=>Ei (T.ty t) λτ=>match st.at l with
  |some (.arr fr _ e _ xs)=>if e=τ then ∃x,xs[i]?=some x/\K (.at (.data (fr||e.flat) e x)) else False
  |some (.Dn e _ xs)=>if e=τ then ∃x,xs[i]?=some x/\K (if e.Ab then .agg (bH l i 0 e x) else .at ((bH l i 0 e x).headD .undef)) else False
  |some (.Ak _ _ _ none _)=>if τ.Ab then False else K (.at (.sub l i 0))
  |_=>False
 | .at (.data fr (.optr Jj) x)=>Ei (T.ty t) λτ=>if Jj=τ then ∃y,x=some y/\K (.at (.data (fr||Jj.flat) Jj y)) else False
 |p=>Ei (Kz T st t p) K
def gK (s:TypeId) (x:AV) (f:Nat) (K:AV->Prop):Prop:=
 match x with
 | .at (.data fr (.optr τ) x)=> ∃y,x=some y/\Ei (Je T s (.at (.data fr (.ptr τ) y)) f) K
 |x=>Ei (Je T s x f) K
def tC (st:St) (x:Operand) (K:AV->Prop) (d:Option AV):Prop:=
 match st.ev x with
 | .at (.data fr (.optr τ) x)=> ∃y,x=some y/\K (.at (.data fr (.ptr τ) y))
 |_=>Ei d K
def EK (st:St) (t:TypeId) (x:AV) (lo hi:Option AV) (K:AV->Prop):Prop:=
 Ei (yy x) λn=>Ei (MW lo 0) λl=>Ei (MW hi n) λh=>(0<=l/\l<=h/\h<=n)/\Ei (Abz T st t x l h) K
def gT (st:St) (t:TypeId) (x i:AV) (K:AV->Prop):Prop:=
 match x,i with
 | .at (.data fr (.slice e) xs), .at (.data _ (.int _) n)=>if (T.elem t).bind T.ty=some e then ∃x,idx xs n=some x/\K (.at (.data fr (.ptr e) x)) else False
 | .at (.own l off len), .at (.data _ (.int _) n)=>match st.at l with
  |some (.arr _ _ e tid _)=>if T.elem t=some tid/\T.ty tid=some e then (0<=n/\n<len)/\K (.at (.Gi l (off+n.toNat))) else False
  |some (.Dn e tid _)=>if T.elem t=some tid/\T.ty tid=some e then (0<=n/\n<len)/\K (.at (.Gi l (off+n.toNat))) else False
  |some (.Ak _ te _ _ _)=>if T.elem t=some te/\(T.ty te).map Ty.size=some 1 then (0<=n/\n<len)/\K (.at (.Gi l (off+n.toNat))) else False
  |_=>False
 | .at (.sub l i _), .at (.data _ (.int _) n)=>match st.at l with
  |some (.Ak e _ rows none _)=>if ((T.elem t).bind T.ty).map Ty.size=some e.size then (0<=n/\n<(rows.getD i []).length)/\K (.at (.Gf l i n.toNat)) else False
  |_=>False
 |_,_=>False
def CG (t:TypeId) (x i:AV) (K:AV->Prop):Prop:=
 match x,i with
 | .at (.data _ .str s), .at (.data _ (.int _) n)=>if T.ty t=some .str then 0<=n/\ ∃b,s[n.toNat]?=some b/\K (.at (.data true (.int .u8) b.toNat)) else False
 |_,_=>False
def sJ (st:St) (f:FuncId) (args:List AV) (K:AV->Prop):Prop:=
 Ei (match Γ f with|some (.q s)=>some s|_=>none) λs=>match s.fresh||s.res.flat||args.all (·.settled) with
  |true=>Ei (Bu st s.arg args) λp=> ∃y,s.fn p.2=some y/\K (if s.Dv then .Vu (s.fresh||s.res.flat) s.res y else .at (.data (s.fresh||s.res.flat) s.res y))
  |false=>False
def AZ (st:St) (v:AV) (args:List AV) (K:AV->Prop):Prop:=
 match v with
 | .at (.data fr (.clo f τ) x)=>match τ.chain with|true=>(match Nat.blt f 1000000000 with|true=>sJ Γ st f (args++Wd fr τ x) K|false=>sJ Γ st (f-1000000000) (Wd fr τ x++args) K)|false=>False
 | .at (.clo f Bz)=>sJ Γ st f (args++Bz.map λp=> .at (.Ea p.1 p.2)) K
 |_=>False
def qW (w:WS) (o:Oper) (K:AV->WS->Prop):Prop:=
 match o.op with
 | .pick c a b=>brO w c λt w'=>match t with|true=>K (w'.st.ev a) w'|false=>K (w'.st.ev b) w'
 | .load t a=>QC T w.st t (w.st.ev a) λv=>K v w
 | .binOp op t x y _=>ZJ T op t (w.st.ev x) (w.st.ev y) λv=>K v w
 | .slice t x lo hi mx=>match mx with
  |none=>EK T w.st t (w.st.ev x) (lo.map w.st.ev) (hi.map w.st.ev) λv=>K v w
  |some _=>False
 | .indexAddr t x i=>gT T w.st t (kV (w.st.ev x)) (w.st.ev i) λv=>K v w
 | .index t x i=>CG T t (w.st.ev x) (w.st.ev i) λv=>K v w
 | .call {callee:= .value (.func f),args, .. } =>sJ Γ w.st f (args.toList.map w.st.ev) λv=>K v w
 | .call {callee:= .value (.tmp t),args, .. } =>AZ Γ w.st (w.st.get t) (args.toList.map w.st.ev) λv=>K v w
 | .fieldAddr s x f=>gK T s (w.st.ev x) f λv=>K v w
 | .nilCheck x=>tC w.st x (λv=>K v w) (Cq T Γ w.st o)
 |_=>Ei (Cq T Γ w.st o) λv=>K v w
def FC (st:St) (t:TypeId) (p v:AV) (K:St->Prop):Prop:=
 match p with
 | .at (.Gi l j)=>Ei (T.ty t) λτ=>Ei (settle st v) λq=>match q.2.at l with
  |some (.arr fr tr e tid xs)=>Ei (Cx q.2 τ q.1) λu=>if h:τ=e then j<xs.length/\K (q.2.Ge l (.arr (fr&&u.1) (tr&&(Nw st v&&e.tree)) e tid (xs.set j (h▸u.2)))) else False
  |_=>False
 |p=>Ei (Ph T st t p v) K
def HT (st:St) (t:TypeId) (p v:AV) (K:St->Prop):Prop:=
 match p with
 | .at (.Gf l i j)=>Ei (T.ty t) λτ=>Ei (settle st v) λq=>match q.2.at l with
  |some (.Ak e te rows none kp)=>Ei (Cx q.2 τ q.1) λu=>if h:τ=e then K (q.2.Ge l (.Ak e te (rows.set i ((rows.getD i []).set j (h▸u.2))) none kp)) else False
  |_=>False
 | .at (.Gi l j)=>Ei (T.ty t) λτ=>match st.at l,v with
  |some (.Ak e te rows out kp), .at (.own m off len)=>match st.at m with
   |some (.arr _ _ e' _ xs)=>if h:e'=e/\(Nat.blt l Am&&(!Nat.beq m l&&!τ.Ab))=true then
     off=0/\len=xs.length/\(match out with|none=>True|some i=>i=j)/\K (Oa st l j m e te rows (h.1▸xs) (Ws j kp))
    else False
   |_=>False
  |_,_=>False
 |_=>False
def wx (st:St) (t:TypeId) (p v:AV) (K:St->Prop):Prop:=match GS st p with
 |true=>HT T st t p v K
 |false=>FC T st t p v K
def iB (st:St) (dst:Nat) (t:TypeId) (x y:Operand) (K:AV->St->Prop):Prop:=
 Ei (T.elem t) λte=>Ei (T.ty te) λe=>Ei (settle st (st.ev y)) λq=>Ei (Cx q.2 (.slice e) q.1) λu=>match q.2.ev x with
  | .at .Hx=>match Nat.blt dst Am with
   |true=>List.length u.2<=Bh/\K (.at (.own dst 0 (List.length u.2))) ((q.2.new dst (.arr (T.ou||e.flat) T.wI e te [])).new dst (.arr ((T.ou||e.flat)&&(u.1||e.flat)) (T.wI&&(e.flat||(Nw st (st.ev y)&&e.tree))) e te u.2))
   |false=>False
  | .at (.own l off len)=>match q.2.at l with
   |some (.arr fr tr e' tid xs)=>if h:e'=e/\tid=te/\Nat.blt l Am=true then
     off=0/\len=xs.length/\len+List.length u.2<=Bh/\K (.at (.own l 0 (List.length ((h.1▸xs:List e.den)++u.2)))) (q.2.new l (.arr (fr&&(u.1||e.flat)) (tr&&(e.flat||(Nw st (st.ev y)&&e.tree))) e te ((h.1▸xs:List e.den)++u.2)))
    else False
   |_=>False
  |_=>False
def nT (st:St) (dst:Nat) (t:TypeId) (x y:Operand) (K:AV->St->Prop):Prop:=
 match x with
 | .tmp tx=>match st.get tx with
  | .at (.sub l i _)=>Ei (T.elem t) λtid=>match st.at l with
   |some (.Ak e te rows none kp)=>match Nat.blt l Am&&(Nat.blt dst Am&&!Nat.beq dst l) with
    |true=>iB T ((Ky st l i dst e te tid rows kp).put (some tx) (.at (.own dst 0 (rows.getD i []).length))) dst t x y K
    |false=>False
   |_=>False
  |_=>iB T st dst t x y K
 |_=>iB T st dst t x y K
def QJ (st:St) (dst:Nat) (t:TypeId) (l c:AV) (K:AV->St->Prop):Prop:=
 match l,c with
 | .at (.data _ (.int _) n), .at (.data _ (.int _) m)=>Ei (T.elem t) λte=>Ei (T.ty te) λe=>match bN e&&Nat.blt dst Am with
  |true=>(0<=n/\n<Bh+1)/\n=m/\K (.at (.own dst 0 (List.replicate n.toNat e.zero).length)) (st.new dst (.arr (T.ou||e.flat) (T.wI&&e.tree) e te (List.replicate n.toNat e.zero)))
  |false=>False
 |_,_=>False
def CW (st:St) (dst:Nat) (t:TypeId) (l c:AV) (K:AV->St->Prop):Prop:=
 match Zz T t with
 |none=>QJ T st dst t l c K
 |some p=>match l,c with
  | .at (.data _ (.int _) n), .at (.data _ (.int _) m)=>match Nat.blt dst Am with
   |true=>(0<=n/\n<Bh+1)/\n=m/\K (.at (.own dst 0 (List.replicate n.toNat ([]:List p.2.den)).length)) (Lq st dst dst (.Ak p.2 p.1 (List.replicate n.toNat []) none none))
   |false=>False
  |_,_=>False
def aP (st:St) (dst:Nat) (t:TypeId) (len:Nat) (parts:Array (Nat×Operand)) (K:AV->St->Prop):Prop:=
 match Zz T t with
 |none=>Ei (Hz T st dst t len parts) λr=>K r.1 r.2
 |some p=>match parts.toList with
  | [(0,x)]=>match st.ev x with
   | .at (.own m off ln)=>match st.at m with
    |some (.arr _ _ e' _ xs)=>if h:e'=p.2/\(Nat.beq len 1&&(Nat.blt dst Am&&Nat.blt m Am))=true then off=0/\ln=xs.length/\K (.at (.own dst 0 1)) (Lq st dst m (.Ak p.2 p.1 [h.1▸xs] none none)) else False
    |_=>False
   |_=>False
  |_=>False
def nV (st:St) (dst:Nat) (t:TypeId) (x y:Operand) (K:AV->St->Prop):Prop:=
 match Zz T t with
 |none=>nT T st dst t x y K
 |some p=>match st.ev x,st.ev y with
  | .at (.own l off len), .at (.own m QR oX)=>match st.at l,st.at m with
   |some (.Ak e1 te1 A none _),some (.Ak e2 sj B none _)=>
    if h:(e1=p.2/\e2=p.2)/\(decide (te1=p.1)&&decide (sj=p.1)&&(Nat.blt l Am&&(Nat.blt m Am&&!Nat.beq m l)))=true then
     (off=0/\len=A.length)/\(QR=0/\oX=B.length)/\0<B.length/\A.length+B.length<=Bh/\
      K (.at (.own l 0 (List.length ((h.1.1▸A:List (List p.2.den))++(h.1.2▸B:List (List p.2.den)))))) (Lq st l m (.Ak p.2 p.1 ((h.1.1▸A:List (List p.2.den))++(h.1.2▸B:List (List p.2.den))) none none))
    else False
   |_,_=>False
  |_,_=>False
def bJ (st:St) (io:Bool) (k:Nat):(c:CK)->AC->(c.den->List (Nat×Loc)->Prop)->Prop
 | .Er τ, .own l off len,K=>Ei (Bo st τ (.own l off len)) λp=>K p.2 [(Bv false k, .view l)]
 | .Er τ, .clo g Bz,K=>match Xh st (Bz.map (·.1))&&!τ.Ab with
  |true=>Ei (Ga st τ (.clo g Bz)) λp=>K p.2 (views k (Bz.map (·.1)))
  |false=>False
 | .Er τ, .Ea l i,K=>match Xh st [l]&&!τ.Ab with
  |true=>Ei (Ga st τ (.Ea l i)) λp=>K p.2 (views k [l])
  |false=>False
 | .Er τ, .sub l i c,K=>Ei (Bo st τ (.sub l i c)) λp=>K p.2 [(Bv false k, .view l)]
 | .Er τ,a,K=>match τ.flat||a.settled with
  |true=>Ei (Bo st τ a) λp=>K p.2 []
  |false=>False
 | .row e te, .own l off len,K=>match st.at l with
  |some (.arr _ _ e' Lu xs)=>if h:e'=e/\Lu=te then off=0/\len=xs.length/\K (h.1▸xs:List e.den) [(Bv io k, .row l)] else False
  |_=>False
 | .row e _, .sub l i c,K=>match st.at l with
  |some (.Dn e' _ xs)=>if h:e'= .slice e/\e.flat=true/\io=true/\c=0 then ∃y,xs[i]?=some y/\K (h.1▸y:(Ty.slice e).den) [(Bv io k, .sub l i c)] else False
  |_=>False
 | .row _ _, .Hx,K=>K [] []
 | .Eb e te, .own l off len,K=>match st.at l with
  |some (.Dn e' Lu xs)=>if h:e'=e/\Lu=te then off=0/\len=xs.length/\K (h.1▸xs:List e.den) [(Bv io k, .row l)] else False
  |_=>False
 | .Eb e _, .sub l i c,K=>match st.at l with
  |some (.Dn e' _ xs)=>if h:e'= .slice e/\io=true/\c=0 then ∃y,xs[i]?=some y/\K (h.1▸y:(Ty.slice e).den) [(Bv io k, .sub l i c)] else False
  |_=>False
 | .Eb _ _, .Hx,K=>K [] []
 | .part e te, .own l off len,K=>match st.at l with
  |some (.arr _ _ e' Lu xs)=>if h:e'=e/\Lu=te/\e.flat=true/\io=true then K ((h.1▸xs:List e.den),off,len) [(Bv io k, .row l)] else False
  |_=>False
 | .Ak e te _, .own l off len,K=>match st.at l with
  |some (.Ak e' Lu rows none _)=>if h:e'=e/\Lu=te/\io=false then off=0/\len=rows.length/\K (h.1▸rows:List (List e.den)) [(Bv io k, .row l)] else False
  |_=>False
 |_,_,_=>False
def wH (st:St):(k:Nat)->(cs:List (Bool×CK))->List AC->(Ins.den cs->List (Nat×Loc)->Prop)->Prop
 |_,[],[],K=>K () []
 |k,p::r,a::as,K=>bJ st p.1 k p.2 a λx t1=>wH st (k+1) r as λy t2=>K (x,y) (t1++t2)
 |_,_,_,_=>False
def mg (st:St):(c:CK)->c.den->AC->(St->Prop)->Prop
 | .row e _,ys, .own l _ len,K=>match st.at l with
  |some (.arr fr tr e' te xs)=>if h:e=e' then (List.length ys=len/\xs.length=len)/\K (st.Ge l (.arr (fr&&e'.flat) (tr&&e'.flat) e' te (h▸ys))) else False
  |_=>False
 | .Eb e _,ys, .own l _ len,K=>match st.at l with
  |some (.Dn e' te xs)=>if h:e=e' then (List.length ys=len/\xs.length=len)/\K (st.Ge l (.Dn e' te (h▸ys))) else False
  |_=>False
 | .row e _,ys, .sub l i _,K=>match st.at l with
  |some (.Dn e' te xs)=>if h: .slice e=e' then ∃y,xs[i]?=some y/\List.length ys=List.length (h▸y:(Ty.slice e).den)/\K (st.Ge l (.Dn e' te (xs.set i (h▸(ys:(Ty.slice e).den))))) else False
  |_=>False
 | .Eb e _,ys, .sub l i _,K=>match st.at l with
  |some (.Dn e' te xs)=>if h: .slice e=e' then ∃y,xs[i]?=some y/\List.length ys=List.length (h▸y:(Ty.slice e).den)/\K (st.Ge l (.Dn e' te (xs.set i (h▸(ys:(Ty.slice e).den))))) else False
  |_=>False
 |_,_, .Hx,K=>K st
 |_,_,_,_=>False
def RK (st:St) (e:Ty) (ys:List e.den):AC->(St->Prop)->Prop
 | .own l _ _,K=>match st.at l with
  |some (.arr fr tr e' te xs)=>if h:e=e' then List.length ys=xs.length/\K (st.Ge l (.arr fr tr e' te (h▸ys))) else False
  |_=>False
 |_,_=>False
def dK:(cs:List (Bool×CK))->IOs.den cs->List AC->St->(St->Prop)->Prop
 | [],_,_,st,K=>K st
 |(true, .Er _)::r,x,_::as,st,K=>dK r x as st K
 |(true, .row e te)::r,x,a::as,st,K=>mg st (.row e te) x.1 a λst'=>dK r x.2 as st' K
 |(true, .Eb e te)::r,x,a::as,st,K=>mg st (.Eb e te) x.1 a λst'=>dK r x.2 as st' K
 |(true, .part e _)::r,x,a::as,st,K=>RK st e x.1 a λst'=>dK r x.2 as st' K
 |(true, .Ak _ _ _)::r,x,_::as,st,K=>dK r x as st K
 |(false,_)::r,x,_::as,st,K=>dK r x as st K
 |_,_,_,_,_=>False
def qj (H:List (Nat×OB)) (ls:List Nat) (n:Nat):List AV->Prop->Prop
 | [],K=>K
 | .at (.sub l i _)::r,K=>match ls.contains l with
  |true=>(i<n/\i<ny H l)/\qj H ls n r K
  |false=>qj H ls n r K
 |_::r,K=>qj H ls n r K
def AY (st:St) (dst:Option Nat) (s:MSpec) (args:List AV) (K:AV->St->Prop):Prop:=
 Ei (HO st s args) λq=>Ei (ungroup s.Fz q.2.2) λjS=>wH st 0 s.ins (q.2.1++jS) λx tks=>
  match Ue (tks.map λt=>t.2.Rf)&&vr (Mr s tks (dst.getD 0)) (s.outs.length+(ib s (dst.getD 0)).length)&&Nat.blt s.outs.length 1000&&Nat.blt s.ins.length 1000&&(Qn s.ins q.2.1&&q.1.all λl=>!((tks.map λt=>t.2.Rf)++Mr s tks (dst.getD 0)).contains l) with
  |true=> ∃p,s.fn x=some p/\dK s.ins p.2 (q.2.1++jS) st λst1=>Ei (WA s (dst.getD 0) ((Ww (Bx (Mr s tks (dst.getD 0))) 0 s.outs p.1).drop s.Un)) λv=>
    qj (gD st st1 (dst.getD 0) s q.1 tks p.1).heap (Wr st.heap (Mr s tks (dst.getD 0)) tks s.keeps) (s.Cs x) st.tmps
     (K v (gU st (gD st st1 (dst.getD 0) s q.1 tks p.1) (Wr st.heap (Mr s tks (dst.getD 0)) tks s.keeps) (s.Cs x)))
  |false=>False
def YT (w:WS) (o:Oper) (K:AV->WS->Prop):Prop:=
 match o.op with
 | .store t p x=>wx T w.st t (w.st.ev p) (w.st.ev x) λs=>K .undef (w.to s)
 | .makeSlice t l c=>Ei o.dst λd=>CW T w.st d t (w.st.ev l) (w.st.ev c) λv s=>K v (w.to s)
 | .call {callee:= .builtin .append,args,argTypes} =>match o.dst,args.toList,argTypes.toList with
  |some d,[x,y],[t,t']=>if t=t' then nV T w.st d t x y λv s=>K v (w.to s) else False
  |_,_,_=>False
 | .assign _=>Ei (evalOp T Γ w.st o) λr=>K r.1 (w.to r.2)
 | .alloc _=>Ei (evalOp T Γ w.st o) λr=>K r.1 (w.to r.2)
 | .box _ _=>Ei (evalOp T Γ w.st o) λr=>K r.1 (w.to r.2)
 | .buildSlice t len parts=>Ei o.dst λd=>aP T w.st d t len parts λv s=>K v (w.to s)
 | .build _ _=>Ei (evalOp T Γ w.st o) λr=>K r.1 (w.to r.2)
 | .makeMap _ _=>Ei (evalOp T Γ w.st o) λr=>K r.1 (w.to r.2)
 | .mapUpdate _ _ _ _=>Ei (evalOp T Γ w.st o) λr=>K r.1 (w.to r.2)
 | .insert _ _ _ _=>Ei (evalOp T Γ w.st o) λr=>K r.1 (w.to r.2)
 | .call {callee:= .builtin .copy, .. } =>Ei (evalOp T Γ w.st o) λr=>K r.1 (w.to r.2)
 | .call {callee:= .builtin .clear, .. } =>Ei (evalOp T Γ w.st o) λr=>K r.1 (w.to r.2)
 | .call {callee:= .value (.func f),args, .. } =>match Γ f with
  |some (.m s)=>AY w.st o.dst s (args.toList.map w.st.ev) λv s'=>K v (w.to s')
  |some (.q s)=>match bl s (args.toList.map w.st.ev) with
   |true=>Ei (Jz args.toList w.st) λst1=>qW T Γ (w.to st1) o K
   |false=>qW T Γ w o K
  |_=>qW T Γ w o K
 |_=>qW T Γ w o K
def AV.PX:AV->Bool
 | .at .skip=>true
 |_=>false
def bW (w:WS) (o:Oper) (K:AV->WS->Prop):Prop:=
 match o.op with
 | .buildSlice t len parts=>Ei (Wf T w.st t len parts) λv=>K v w
 | .build t parts=>Ei (Rt T w.st t parts) λv=>K v w
 |_=>qW T Γ w o K
def gf (ops:Array Oper) (w:WS) (o:Oper) (run:(AV->WS->Prop)->WS->Prop) (K:WS->Prop):Prop:=
 match o.guard with
 |none=>run (λv w'=>K (w'.rK o v)) w
 |some (j,want)=>Ei ((ops[j]?).bind (·.dst)) λt=>match (w.st.get t).PX with
  |true=>K (w.put o.dst (.at .skip))
  |false=>brT w t λb w'=>match b,want with
   |true,true=>run (λv qC=>K (qC.rK o v)) w'
   |false,false=>run (λv qC=>K (qC.rK o v)) w'
   |_,_=>K (w'.put o.dst (.at .skip))
def Abg (ops:Array Oper):List Oper->WS->(WS->Prop)->Prop
 | [],w,K=>K w
 |o::r,w,K=>gf ops w o (λk w'=>YT T Γ w' o k) λw'=>Abg ops r w' K
def PM (ops:Array Oper):List Nat->WS->(WS->Prop)->Prop
 | [],w,K=>K w
 |i::r,w,K=>Ei ops[i]? λo=>gf ops w o (λk w'=>YT T Γ w' o k) λw'=>PM ops r w' K
def sV (ops:Array Oper):List Nat->WS->(WS->Prop)->Prop
 | [],w,K=>K w
 |i::r,w,K=>Ei ops[i]? λo=>gf ops w o (λk w'=>bW T Γ w' o k) λw'=>sV ops r w' K
def UB:List Nat->(Nat->Prop)->Prop
 | [],_=>True
 | [i],P=>P i
 |i::j::r,P=>P i/\UB (j::r) P
def IE (ops:Array Oper):Nat->Array Bool->WS->(WS->Prop)->Prop
 |0,Ac,w,K=>match Region.ready .any ops Ac with
  | []=>K w
  |_::_=>False
 |f+1,Ac,w,K=>match Region.ready .any ops Ac with
  | []=>False
  |i::r=>UB (i::r) λk=>Ei ops[k]? λo=>gf ops w o (λkk w'=>YT T Γ w' o kk) λw'=>IE ops f (Ac.setIfInBounds k true) w' K
def acV:AC->Type->Type
 | .data _ τ _,R=>τ.den×R
 | .sub _ _ _,R=>Nat×R
 | .Gi _ _,R=>Nat×R
 | .Gf _ _ _,R=>Nat×Nat×R
 |_,R=>R
def AO:List AC->Type->Type
 | [],R=>R
 |c::r,R=>acV c (AO r R)
def avV:AV->Type->Type
 | .at a,R=>acV a R
 | .agg cs,R=>AO cs R
 | .Vu _ τ _,R=>τ.den×R
 | .Il _,R=>R
def obV:OB->Type->Type
 | .arr _ _ e _ _,R=>List e.den×R
 | .Dn e _ _,R=>List e.den×R
 | .var _ vs,R=>AO vs R
 | .Ak e _ _ _ none,R=>List (List e.den)×R
 | .Ak e _ _ _ (some _),R=>List (List e.den)×(Nat×R)
 | .Qc v _,R=>(ByteArray->Option v.den)×R
def mD:List AV->Type->Type
 | [],R=>R
 |v::r,R=>avV v (mD r R)
def sW:List (Nat×OB)->Type->Type
 | [],R=>R
 |p::r,R=>obV p.2 (sW r R)
def stV (s:St):Type:=mD s.tmps (sW s.heap Unit)
def FZ:(c:AC)-> {R:Type} ->R->acV c R
 | .data _ _ x,_,r=>(x,r)
 | .undef,_,r=>r
 | .skip,_,r=>r
 | .Hx,_,r=>r
 | .Rg,_,r=>r
 | .own _ _ _,_,r=>r
 | .Ea _ _,_,r=>r
 | .Gi _ i,_,r=>(i,r)
 | .clo _ _,_,r=>r
 | .Gm _,_,r=>r
 | .sub _ i _,_,r=>(i,r)
 | .Gf _ i j,_,r=>(i,j,r)
def nQ:(l:List AC)-> {R:Type} ->R->AO l R
 | [],_,r=>r
 |c::l,_,r=>FZ c (nQ l r)
def XD:(c:AV)-> {R:Type} ->R->avV c R
 | .at a,_,r=>FZ a r
 | .agg cs,_,r=>nQ cs r
 | .Vu _ _ x,_,r=>(x,r)
 | .Il _,_,r=>r
def YR:(b:OB)-> {R:Type} ->R->obV b R
 | .arr _ _ _ _ xs,_,r=>(xs,r)
 | .Dn _ _ xs,_,r=>(xs,r)
 | .var _ vs,_,r=>nQ vs r
 | .Ak _ _ rows _ none,_,r=>(rows,r)
 | .Ak _ _ rows _ (some p),_,r=>(rows,p.2,r)
 | .Qc _ m,_,r=>(m,r)
def nH:(l:List AV)-> {R:Type} ->R->mD l R
 | [],_,r=>r
 |c::l,_,r=>XD c (nH l r)
def nz:(l:List (Nat×OB))-> {R:Type} ->R->sW l R
 | [],_,r=>r
 |p::l,_,r=>YR p.2 (nz l r)
def HS (s:St):stV s:=nH s.tmps (nz s.heap ())
def jZ:(c d:AC)-> {R:Type} ->R->Option (acV c R)
 | .data fr τ _, .data Qk Jj x,_,r=>if h:Jj=τ/\Qk=fr then some (h.1▸x,r) else none
 | .undef, .undef,_,r=>some r
 | .skip, .skip,_,r=>some r
 | .Hx, .Hx,_,r=>some r
 | .Rg, .Rg,_,r=>some r
 | .own l _ _, .own l' _ _,_,r=>if l=l' then some r else none
 | .Ea l i, .Ea l' i',_,r=>if l=l'/\i=i' then some r else none
 | .Gi l _, .Gi l' i',_,r=>if l=l' then some (i',r) else none
 | .clo f c, .clo f' c',_,r=>if f=f'/\c=c' then some r else none
 | .Gm l, .Gm l',_,r=>if l=l' then some r else none
 | .sub l _ c, .sub l' i' c',_,r=>if l=l'/\c=c' then some (i',r) else none
 | .Gf l _ _, .Gf l' i' j',_,r=>if l=l' then some (i',j',r) else none
 |_,_,_,_=>none
def Mq:(l m:List AC)-> {R:Type} ->R->Option (AO l R)
 | [],[],_,r=>some r
 |c::l,d::m,_,r=>(Mq l m r).bind λr'=>jZ c d r'
 |_,_,_,_=>none
def gG:(c d:AV)-> {R:Type} ->R->Option (avV c R)
 | .at a, .at b,_,r=>jZ a b r
 | .agg cs, .agg ds,_,r=>Mq cs ds r
 | .Vu fr τ _, .Vu Qk Jj x,_,r=>if h:Jj=τ/\Qk=fr then some (h.1▸x,r) else none
 |_,_,_,_=>none
def Nq:(b d:OB)-> {R:Type} ->R->Option (obV b R)
 | .arr fr tr e tid _, .arr Qk SW e' Pe xs,_,r=>if h:e'=e/\Qk=fr/\SW=tr/\Pe=tid then some (h.1▸xs,r) else none
 | .Dn e tid _, .Dn e' Pe xs,_,r=>if h:e'=e/\Pe=tid then some (h.1▸xs,r) else none
 | .Qc v _, .Qc v' m,_,r=>if h:v'=v then some (h▸m,r) else none
 | .var t vs, .var t' us,_,r=>if t'=t then Mq vs us r else none
 | .Ak e te _ out none, .Ak e' Lu rows cA none,_,r=>if h:e'=e/\Lu=te/\cA=out then some (h.1▸rows,r) else none
 | .Ak e te _ out (some p), .Ak e' Lu rows cA (some p'),_,r=>if h:e'=e/\Lu=te/\cA=out/\p'.1=p.1 then some (h.1▸rows,p'.2,r) else none
 |_,_,_,_=>none
def Ka:(l m:List AV)-> {R:Type} ->R->Option (mD l R)
 | [],[],_,r=>some r
 |c::l,d::m,_,r=>(Ka l m r).bind λr'=>gG c d r'
 |_,_,_,_=>none
def La:(l m:List (Nat×OB))-> {R:Type} ->R->Option (sW l R)
 | [],[],_,r=>some r
 |p::l,q::m,_,r=>if q.1=p.1 then (La l m r).bind λr'=>Nq p.2 q.2 r' else none
 |_,_,_,_=>none
def eb (s t:St):Option (stV s):=(La s.heap t.heap ()).bind λr=>Ka s.tmps t.tmps r
def gB:(c:AC)-> {R:Type} ->acV c R->AC×R
 | .data fr τ _,_,v=>(.data fr τ v.1,v.2)
 | .undef,_,r=>(.undef,r)
 | .skip,_,r=>(.skip,r)
 | .Hx,_,r=>(.Hx,r)
 | .Rg,_,r=>(.Rg,r)
 | .own l off len,_,r=>(.own l off len,r)
 | .Ea l i,_,r=>(.Ea l i,r)
 | .Gi l _,_,v=>(.Gi l v.1,v.2)
 | .clo f c,_,r=>(.clo f c,r)
 | .Gm l,_,r=>(.Gm l,r)
 | .sub l _ c,_,v=>(.sub l v.1 c,v.2)
 | .Gf l _ _,_,v=>(.Gf l v.1 v.2.1,v.2.2)
def Uq:(l:List AC)-> {R:Type} ->AO l R->List AC×R
 | [],_,r=>([],r)
 |c::l,_,v=>((gB c v).1::(Uq l (gB c v).2).1,(Uq l (gB c v).2).2)
def nY:(c:AV)-> {R:Type} ->avV c R->AV×R
 | .at a,_,v=>(.at (gB a v).1,(gB a v).2)
 | .agg cs,_,v=>(.agg (Uq cs v).1,(Uq cs v).2)
 | .Vu fr τ _,_,v=>(.Vu fr τ v.1,v.2)
 | .Il l,_,r=>(.Il l,r)
def ph:(b:OB)-> {R:Type} ->obV b R->OB×R
 | .arr fr tr e tid _,_,v=>(.arr fr tr e tid v.1,v.2)
 | .Dn e tid _,_,v=>(.Dn e tid v.1,v.2)
 | .Qc w _,_,v=>(.Qc w v.1,v.2)
 | .var t vs,_,v=>(.var t (Uq vs v).1,(Uq vs v).2)
 | .Ak e te _ out none,_,v=>(.Ak e te v.1 out none,v.2)
 | .Ak e te _ out (some p),_,v=>(.Ak e te v.1 out (some (p.1,v.2.1)),v.2.2)
def Rc:(l:List AV)-> {R:Type} ->mD l R->List AV×R
 | [],_,r=>([],r)
 |c::l,_,v=>((nY c v).1::(Rc l (nY c v).2).1,(Rc l (nY c v).2).2)
def a7:(l:List (Nat×OB))-> {R:Type} ->sW l R->List (Nat×OB)×R
 | [],_,r=>([],r)
 |p::l,_,v=>((p.1,(ph p.2 v).1)::(a7 l (ph p.2 v).2).1,(a7 l (ph p.2 v).2).2)
def e8 (s:St) (v:stV s):St:= {tmps:=(Rc s.tmps v).1,heap:=(a7 s.heap (Rc s.tmps v).2).1}
def lenOf (H:List (Nat×OB)) (l:Nat):Nat:=match Ad H l with|some (.arr _ _ _ _ xs)=>xs.length|some (.Dn _ _ xs)=>xs.length|some (.Ak _ _ rows _ _)=>rows.length|_=>0
def Tx (ps:List Nat):List AV->List (Nat×Nat×Nat)
 | []=> []
 | .at (.own l off len)::r=>if ps.contains l then (l,off,len)::Tx ps r else Tx ps r
 |_::r=>Tx ps r
def Abe:List (Nat×Nat×Nat)->Nat->Nat
 | [],_=>0
 |(k,o,_)::r,l=>if k=l then o else Abe r l
def JL:List (Nat×Nat×Nat)->List (Nat×OB)->Nat->Nat
 | [],H,l=>lenOf H l
 |(k,_,n)::r,H,l=>if k=l then n else JL r H l
def bM (B:List (Nat×Nat×Nat)) (H:List (Nat×OB)):AC->AC
 | .own l _ _=> .own l (Abe B l) (JL B H l)
 |c=>c
def St.whole (B:List (Nat×Nat×Nat)) (s:St):St:=s.Gv (bM B s.heap)
def uj (B:List (Nat×Nat×Nat)) (H:List (Nat×OB)) (c:AC) (K:Prop):Prop:=match c with
 | .own l off len=>off=Abe B l/\len=JL B H l/\K
 |_=>K
def Zk (B:List (Nat×Nat×Nat)) (H:List (Nat×OB)):List AC->Prop->Prop
 | [],K=>K
 |c::r,K=>uj B H c (Zk B H r K)
def GG (B:List (Nat×Nat×Nat)) (H:List (Nat×OB)) (c:AV) (K:Prop):Prop:=match c with
 | .at a=>uj B H a K
 | .agg cs=>Zk B H cs K
 | .Vu _ _ _=>K
 | .Il _=>False
def Vt (B:List (Nat×Nat×Nat)) (H:List (Nat×OB)):List AV->Prop->Prop
 | [],K=>K
 |c::r,K=>GG B H c (Vt B H r K)
def eF (B:List (Nat×Nat×Nat)) (H:List (Nat×OB)):List (Nat×OB)->Prop->Prop
 | [],K=>K
 |p::r,K=>match p.2 with
  | .var _ vs=>Zk B H vs (eF B H r K)
  |_=>eF B H r K
def wv (B:List (Nat×Nat×Nat)) (s:St) (K:Prop):Prop:=Vt B s.heap s.tmps (eF B s.heap s.heap K)
def AV.Sb:AV->Bool
 | .at (.data _ _ _)=>true
 |_=>false
def Ia (p:Nat->Bool):Nat->List AV->List Bool
 |_,[]=> []
 |i,v::r=>(v.Sb&&p i)::Ia p (i+1) r
def stays (live:Nat->List Nat) (c:Code) (t:Nat):Bool:=!(writes c).contains t&&Wq live c t
def Po:List Bool->List AV->List AV
 |true::f,_::r=> .undef::Po f r
 |false::f,v::r=>v::Po f r
 |_,l=>l
def Qs:List Bool->List AV->List AV->List AV
 |true::f,a::s,_::r=>a::Qs f s r
 |false::f,_::s,v::r=>v::Qs f s r
 |_,_,l=>l
def St.mask (fx:List Bool) (s:St):St:= {tmps:=Po fx s.tmps,heap:=s.heap}
def St.ru (fx:List Bool) (s0 s:St):St:= {tmps:=Qs fx s0.tmps s.tmps,heap:=s.heap}
def nv (c:AC) (k:AC->Prop):Prop:=match c with
 | .undef=>k .undef
 | .skip=>k .skip
 | .Hx=>k .Hx
 | .Rg=>k .Rg
 | .data fr τ x=>match fr with
  |true=>k (.data true τ x)
  |false=>k (.data false τ x)
 | .own l off len=>k (.own l off len)
 | .Ea l i=>k (.Ea l i)
 | .Gi l i=>k (.Gi l i)
 | .clo f c=>k (.clo f c)
 | .Gm l=>k (.Gm l)
 | .sub l i c=>k (.sub l i c)
 | .Gf l i c=>k (.Gf l i c)
def di:List AC->(List AC->Prop)->Prop
 | [],k=>k []
 |c::r,k=>nv c λc'=>di r λr'=>k (c'::r')
def uM (c:AV) (k:AV->Prop):Prop:=match c with
 | .at a=>nv a λa'=>k (.at a')
 | .agg cs=>di cs λcZ=>k (.agg cZ)
 | .Vu fr τ x=>k (.Vu fr τ x)
 | .Il l=>k (.Il l)
def dj:List AV->(List AV->Prop)->Prop
 | [],k=>k []
 |c::r,k=>uM c λc'=>dj r λr'=>k (c'::r')
def uN (b:OB) (k:OB->Prop):Prop:=match b with
 | .arr fr tr e tid xs=>match fr,tr with
  |true,true=>k (.arr true true e tid xs)
  |true,false=>k (.arr true false e tid xs)
  |false,true=>k (.arr false true e tid xs)
  |false,false=>k (.arr false false e tid xs)
 | .Dn e tid xs=>k (.Dn e tid xs)
 | .var t vs=>di vs λvs'=>k (.var t vs')
 | .Ak e te rows out kp=>match out,kp with
  |none,none=>k (.Ak e te rows none none)
  |none,some (l,n)=>k (.Ak e te rows none (some (l,n)))
  |some i,none=>k (.Ak e te rows (some i) none)
  |some i,some (l,n)=>k (.Ak e te rows (some i) (some (l,n)))
 | .Qc v m=>k (.Qc v m)
def oq:List (Nat×OB)->(List (Nat×OB)->Prop)->Prop
 | [],k=>k []
 |(l,b)::r,k=>uN b λb'=>oq r λr'=>k ((l,b')::r')
def kx (w:WS) (k:WS->Prop):Prop:=dj w.st.tmps λt=>oq w.st.heap λh=>k {kn:=w.kn,st:= {tmps:=t,heap:=h} }
def kv (s:St) (k:St->Prop):Prop:=dj s.tmps λt=>oq s.heap λh=>k {tmps:=t,heap:=h}
def eC:List Bool->(List Bool->Prop)->Prop
 | [],k=>k []
 |true::r,k=>eC r λr'=>k (true::r')
 |false::r,k=>eC r λr'=>k (false::r')
theorem lR {c:AC} {k:AC->Prop} :nv c k↔k c:=by
 cases c<;>simp only [nv]
 split<;>rfl
theorem aV: ∀ {l:List AC} {k:List AC->Prop},di l k↔k l
 | [],k=>Iff.rfl
 |c::r,k=>by simp only [di];rw [lR,aV]
theorem xO {c:AV} {k:AV->Prop} :uM c k↔k c:=by
 cases c<;>simp only [uM]
 ·exact lR
 ·exact aV
theorem aW: ∀ {l:List AV} {k:List AV->Prop},dj l k↔k l
 | [],k=>Iff.rfl
 |c::r,k=>by simp only [dj];rw [xO,aW]
theorem xP {b:OB} {k:OB->Prop} :uN b k↔k b:=by
 cases b<;>simp only [uN]
 ·split<;>rfl
 ·exact aV
 ·split<;>rfl
theorem gN: ∀ {l:List (Nat×OB)} {k:List (Nat×OB)->Prop},oq l k↔k l
 | [],k=>Iff.rfl
 |(l,b)::r,k=>by simp only [oq];rw [xP,gN]
theorem IT {s:St} {k:St->Prop} :kv s k=k s:=by
 unfold kv
 exact propext (by rw [aW,gN])
theorem gM: ∀ {l:List Bool} {k:List Bool->Prop},eC l k=k l
 | [],k=>rfl
 |true::r,k=>by simp only [eC];rw [gM]
 |false::r,k=>by simp only [eC];rw [gM]
theorem aX {w:WS} {k:WS->Prop} :kx w k↔k w:=by
 unfold kx
 rw [aW,gN]
def Wa:AC->List (Nat×Nat)
 | .own _ off len=> [(off,len)]
 |_=> []
def Wc:AV->List (Nat×Nat)
 | .at a=>Wa a
 | .agg cs=>cs.flatMap Wa
 |_=> []
def hY:OB->List (Nat×Nat)
 | .var _ vs=>vs.flatMap Wa
 |_=> []
def FB (s:St):List (Nat×Nat):=s.tmps.flatMap Wc++s.heap.flatMap λp=>hY p.2
def eqW (s0 s:St):Prop:=FB s=FB s0/\Ei (eb s0 s) λv=>v=HS s0
def ku (ops:Array Oper):Nat->Array Bool->WS->(WS->Prop)->Prop
 |0,Ac,w,K=>match Region.ready .any ops Ac with
  | []=>K w
  |_::_=>False
 |f+1,Ac,w,K=>match Region.ready .any ops Ac with
  | []=>False
  |k::_=>Ei ops[k]? λo=>gf ops w o (λkk w'=>YT T Γ w' o kk) λw'=>ku ops f (Ac.setIfInBounds k true) w' K
def xk (P:List (Nat×Nat×AV×OB)) (ops:Array Oper):Nat->Array Bool->WS->(WS->Prop)->Prop
 |0,Ac,w,K=>match Region.ready .any ops Ac with
  | []=>K w
  |_::_=>False
 |f+1,Ac,w,K=>match Region.ready .any ops Ac with
  | []=>False
  |i::r=>UB (i::r) λk=>Ei ops[k]? λo=>match DE P Γ ops w.st o k with
   |true=>gf ops w o (λkk w'=>YT T Γ w' o kk) λw'=>xk P ops f (Ac.setIfInBounds k true) w' K
   |false=>False
def uw (P:List (Nat×Nat×AV×OB)) (n:Nat) (L0:Array Bool) (ops:Array Oper) (w:WS) (K:WS->Prop):Prop:=
 match (Ue (P.map (·.1))&&Ue (P.map (·.2.1)))&&((P.all λa=>kP a.2.1 w.st)&&(Nat.ble P.length n&&Nat.ble (n-P.length) 10)) with
 |true=>PM T Γ ops (P.map (·.1)) w λw1=>kx w1 λw1=>ku T Γ ops (n-P.length) (Eo (P.map (·.1)) L0) w1 λw0=>kx w0 λw0=>K w0/\xk T Γ P ops (n-P.length) (Eo (P.map (·.1)) L0) w1 λw2=>eqW w0.st w2.st
 |false=>False
def vZ (ops:Array Oper) (draw:Bool) (w:WS) (K:WS->Prop):Prop:=
 match draw with
 |true=>match eQ false Γ ops with
  |true=>sV T Γ ops (eE false Γ ops) w λw'=>PM T Γ ops (Fo false Γ ops) w' K
  |false=>match eQ true Γ ops with
   |true=>sV T Γ ops (eE true Γ ops) w λw'=>PM T Γ ops (Fo true Γ ops) w' K
   |false=>match Region.noSelect ops&&Nat.ble (ops.size-(Ks ops).length) 8 with
    |true=>sV T Γ ops (Ks ops) w λw'=>match eA false ops with
     |true=>IE T Γ ops (ops.size-(Ks ops).length) (Eo (Ks ops) (Array.replicate ops.size false)) w' K
     |false=>ku T Γ ops (ops.size-(Ks ops).length) (Eo (Ks ops) (Array.replicate ops.size false)) w' λw0=>kx w0 λw0=>K w0/\IE T Γ ops (ops.size-(Ks ops).length) (Eo (Ks ops) (Array.replicate ops.size false)) w' λw1=>eqW w0.st w1.st
    |false=>match Region.noSelect ops with
     |true=>sV T Γ ops (Ks ops) w λw'=>uw T Γ (Te T ops (Eo (Ks ops) (Array.replicate ops.size false))) (ops.size-(Ks ops).length) (Eo (Ks ops) (Array.replicate ops.size false)) ops w' K
     |false=>False
 |false=>Abg T Γ ops ops.toList w K
def Zp (live:Nat->List Nat):Code->WS->(Hf->WS->Prop)->Prop
 | .skip,w,Q=>Q .normal w
 | .label _,w,Q=>Q .normal w
 | .region _ ops draw,w,Q=>vZ T (vY Γ draw) ops draw {w with st:=w.st.iJ ops} λw'=>kx w' (Q .normal)
 | .seq a b,w,Q=>Zp live a w λe w'=>match e with
  | .normal=>Zp live b w' Q
  | .exit id=>Q (.exit id) w'
  | .ret=>Q .ret w'
 | .cond c a b,w,Q=>brO w c λt w'=>match t with
  |true=>Zp live a w' Q
  |false=>Zp live b w' Q
 | .block id c,w,Q=>Zp live c w λe w'=>match e with
  | .normal=>Q .normal w'
  | .exit JH=>if JH=id then Q .normal w' else Q (.exit JH) w'
  | .ret=>Q .ret w'
 | .loop c,w,Q=>
  kv (w.st.clean (live (Cm c))) λs0=>eC (Ia (stays live c) 0 s0.tmps) λfx=>kv (s0.mask fx) λm=>
  wv (Tx T.parts s0.tmps) s0 (Bm (V:=stV m) (λv k=>kv ((St.ru fx s0 (e8 m v)).whole (Tx T.parts s0.tmps)) λsb=>Zp live c ⟨[],sb⟩ λe w'=>match e with
   | .normal=>kv (w'.st.clean (live (Cm c))) λs1=>wv (Tx T.parts s0.tmps) s1 (Ei (eb m (s1.mask fx)) k)
   | .exit id=>Q (.exit id) w'
   | .ret=>Q .ret w') (HS m))
 | .exit id,w,Q=>Q (.exit id) w
 | .ret,w,Q=>Q .ret w
 |_,_,_=>False
def ZM (s:Spec) (fn:Func) (P:s.res.den->Prop) (st:St):Prop:=
 Ei (iS T s fn st) λp=>match p.1||!s.fresh with|true=>P p.2|false=>False
def dw (st:St) (K:Prop):List AC->List (Bool×CK)->Prop
 | .own l off len::as,(true,_)::r=>match st.at l with
  |some (.arr _ _ _ _ xs)=>(off=0/\len=xs.length)/\dw st K as r
  |some (.Dn _ _ xs)=>(off=0/\len=xs.length)/\dw st K as r
  |_=>False
 |_::as,(false,_)::r=>dw st K as r
 |_,_=>K
def kR (st:St):(cs:List CK)->List AC->(CKs.den cs->List Nat->Prop)->Prop
 | [],[],K=>K () []
 | .Ak e te _::r, .own l off len::as,K=>match st.at l with
  |some (.Ak e' Lu rows none _)=>if h:e'=e/\Lu=te then (off=0/\len=rows.length)/\kR st r as λy t=>K ((h.1▸rows:List (List e.den)),y) (l::t) else False
  |_=>False
 |c::r,a::as,K=>Ei (fm st c a) λp=>kR st r as λy t=>K (p.1,y) (p.2++t)
 |_,_,_=>False
def vq (st:St) (n:Nat) (as:List AC):List (Nat×Nat)->Prop->Prop
 | [],K=>K
 |(k,j)::r,K=>match as[j]? with
  |some (.own l _ _)=>match st.at l with
   |some (.Ak _ _ _ _ (some p))=>match Nat.beq p.1 (Bv false k)&&Nat.blt k 1000 with
    |true=>n<=p.2/\vq st n as r K
    |false=>False
   |_=>False
  |_=>False
def pI (s:MSpec) (fn:Func) (x:Ins.den s.ins) (st:St) (cs:List AC) (P:CKs.den s.outs×IOs.den s.ins->Prop):Prop:=
 Ei (Zd T st fn.results.toList) λl=>Ei (ED s st l) λp=>kR st s.outs (cs++p.1) λr ls=>Ei (Jr st 0 s.ins) λo=>
  match Ue (p.2++ls++Kr 0 s.ins)&&Nat.blt s.ins.length 1000&&Nat.blt s.outs.length 1000&&s.QK with
  |true=>vq st (s.Cs x) (cs++p.1) s.keeps (P (r,o))
  |false=>False
def HP (s:MSpec) (fn:Func) (x:Ins.den s.ins) (st:St) (P:CKs.den s.outs×IOs.den s.ins->Prop):Prop:=
 match s.ptr with
 |none=>pI T s fn x st [] P
 |some p=>match st.at Kb with
  |some (.var tid vs)=>match Nat.beq tid p.1&&Nat.beq vs.length p.2 with
   |true=>Ei (Fe 0 s.ins vs) λcs=>dw st (pI T s fn x st cs P) vs s.ins
   |false=>False
  |_=>False
@[irreducible] def fnMW (s:MSpec) (fn:Func) (x:Ins.den s.ins) (P:CKs.den s.outs×IOs.den s.ins->Prop):Prop:=
 match Nat.blt s.ins.length 1000&&vU s with
 |false=>False
 |true=>Ei fn.body λc=>Zp T Γ (vB T.marks fn c) c {kn:= [],st:= {tmps:=Um s (Wo 0 s.ins x)++List.replicate (fn.ntmps-(Um s (Wo 0 s.ins x)).length) .undef,heap:=lZ s x} } λe w=>match e with
  | .normal=>HP T s fn x w.st P
  | .ret=>HP T s fn x w.st P
  | .exit _=>False
@[irreducible] def fnW (s:Spec) (fn:Func) (x:s.arg.den) (P:s.res.den->Prop):Prop:=
 Ei fn.body λc=>Zp T Γ (vB T.marks fn c) c {kn:= [],st:= {tmps:=Nl s.arg x++List.replicate (fn.ntmps-(Nl s.arg x).length) .undef,heap:= []} } λe w=>match e with
  | .normal=>ZM T s fn P w.st
  | .ret=>ZM T s fn P w.st
  | .exit _=>False
end Go.Proofs.YtfolipnappekaaaGreat
