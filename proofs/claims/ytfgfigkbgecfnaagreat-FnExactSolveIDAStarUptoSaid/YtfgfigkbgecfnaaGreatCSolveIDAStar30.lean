/-
  Part 31 of the proof that the statement FnExactSolveIDAStar holds.
-/
import Derived.Test.YtfgfigkbgecfnaaGreatCSolveIDAStar29
namespace Go.Proofs.YtfgfigkbgecfnaaGreat
open Go.RowKit
inductive Br (b:Bool) (A B:Prop):Prop
 |mk (t:b=true->A) (f:b=false->B)
inductive Db {V:Type} (step:V->(V->Prop)->Prop) (v0:V):Prop
 |mk (I:V->Prop) (μ:V->Nat) (h0:I v0) (h: ∀v,I v->step v (λv'=>I v'/\μ v'<μ v))
structure WS where
 kn:List (Nat×Bool)
 st:St
def oP:List (Nat×Bool)->Nat->Option Bool
 | [],_=>none
 |(k,b)::r,t=>if k=t then some b else oP r t
def zG:List (Nat×Bool)->Nat->List (Nat×Bool)
 | [],_=> []
 |(k,b)::r,t=>if k=t then zG r t else (k,b)::zG r t
def WS.put (w:WS) (dst:Option Tmp) (v:AV):WS:=
 match dst with
 |some d=> {kn:=zG w.kn d,st:=w.st.put (some d) v}
 |none=>w
def Xh (kn:List (Nat×Bool)):Operand->Option Bool
 | .const (.bool b)=>some b
 | .tmp t=>oP kn t
 |_=>none
def Ho (kn:List (Nat×Bool)) (o:Oper):Option Bool:=
 match o.op with
 | .assign x=>Xh kn x
 | .move x=>Xh kn x
 | .unOp .not _ x=>(Xh kn x).map (!·)
 | .pick c a b=>match Xh kn c with
  |some true=>Xh kn a
  |some false=>Xh kn b
  |none=>none
 |_=>none
def WS.yt (w:WS) (o:Oper) (v:AV):WS:=
 match o.dst,Ho w.kn o with
 |some d,some b=>match (w.st.put (some d) v).get d with
  | .at (.data _ .bool _)=> {kn:=(d,b)::zG w.kn d,st:=w.st.put (some d) v}
  |_=>w.put (some d) v
 |dst,_=>w.put dst v
def WS.to (w:WS) (st:St):WS:= {kn:=w.kn,st:=st}
def brT (w:WS) (t:Nat) (K:Bool->WS->Prop):Prop:=
 match oP w.kn t with
 |some b=>K b w
 |none=>match w.st.get t with
  | .at (.data _ .bool b)=>Br b (K true {kn:=(t,true)::w.kn,st:=w.st}) (K false {kn:=(t,false)::w.kn,st:=w.st})
  |_=>False
def brO (w:WS) (c:Operand) (K:Bool->WS->Prop):Prop:=
 match c with
 | .tmp t=>brT w t K
 | .const (.bool b)=>K b w
 |_=>False
def Hy {α:Type} (o:Option α) (K:α->Prop):Prop:=match o with|some x=>K x|none=>False
def Anz (T:Tab) (st:St) (t:TypeId) (x:AV) (l h:Int):Option AV:=
 match x with
 | .at (.data fr (.slice e) xs)=>if (T.elem t).bind T.ty=some e then some (.at (.data fr (.slice e) ((xs.take h.toNat).drop l.toNat))) else none
 | .at (.own k off _)=>match st.at k with
  |some (.arr _ _ e tid _)=>if T.elem t=some tid/\T.ty tid=some e then some (.at (.own k (off+l.toNat) (h.toNat-l.toNat))) else none
  |_=>none
 | .at (.data _ .str s)=>if T.ty t=some .str then some (.at (.data true .str (s.extract l.toNat h.toNat))) else none
 |_=>none
variable (T:Tab) (Γ:Env)
def Al4 (op:BinOp) (t:TypeId) (x y:AV) (K:AV->Prop):Prop:=
 match op,x,y with
 | .quo, .at (.data _ (.int k) a), .at (.data _ (.int k') b)=>if k=k' then b≠0/\K (.at (.data true (.int k) (k.wrap (a.tdiv b)))) else False
 | .rem, .at (.data _ (.int k) a), .at (.data _ (.int k') b)=>if k=k' then b≠0/\K (.at (.data true (.int k) (a.tmod b))) else False
 | .shl, .at (.data _ (.int k) a), .at (.data _ (.int _) b)=> ¬b<0/\K (.at (.data true (.int k) (k.wrap (a*2^(min b.toNat k.bits)))))
 | .shr, .at (.data _ (.int k) a), .at (.data _ (.int _) b)=> ¬b<0/\K (.at (.data true (.int k) (a.fdiv (2^(min b.toNat k.bits)))))
 | .add, .at (.data _ .str a), .at (.data _ .str b)=>a.size+b.size<=4294967296/\K (.at (.data true .str (a++b)))
 |op,x,y=>Hy (Up T op t x y) K
def Adq (st:St) (t:TypeId) (p:AV) (K:AV->Prop):Prop:=
 match p with
 | .at (.Kh l i)=>Hy (T.ty t) λτ=>match st.at l with
  |some (.arr fr _ e _ xs)=>if e=τ then ∃x,xs[i]?=some x/\K (.at (.data (fr||e.flat) e x)) else False
  |some (.Gz e _ xs)=>if e=τ then ∃x,xs[i]?=some x/\K (if e.Aq then .agg (gR l i 0 e x) else .at ((gR l i 0 e x).headD .undef)) else False
  |some (.Bp _ _ _ none _)=>if τ.Aq then False else K (.at (.sub l i 0))
  |_=>False
 | .at (.data fr (.optr Oq) x)=>Hy (T.ty t) λτ=>if Oq=τ then ∃y,x=some y/\K (.at (.data (fr||Oq.flat) Oq y)) else False
 |p=>Hy (Qu T st t p) K
def mW (s:TypeId) (x:AV) (f:Nat) (K:AV->Prop):Prop:=
 match x with
 | .at (.data fr (.optr τ) x)=> ∃y,x=some y/\Hy (Oh T s (.at (.data fr (.ptr τ) y)) f) K
 |x=>Hy (Oh T s x f) K
def zO (st:St) (x:Operand) (K:AV->Prop) (d:Option AV):Prop:=
 match st.ev x with
 | .at (.data fr (.optr τ) x)=> ∃y,x=some y/\K (.at (.data fr (.ptr τ) y))
 |_=>Hy d K
def SQ (st:St) (t:TypeId) (x:AV) (lo hi:Option AV) (K:AV->Prop):Prop:=
 Hy (JI x) λn=>Hy (bnd lo 0) λl=>Hy (bnd hi n) λh=>(0<=l/\l<=h/\h<=n)/\Hy (Anz T st t x l h) K
def ng (st:St) (t:TypeId) (x i:AV) (K:AV->Prop):Prop:=
 match x,i with
 | .at (.data fr (.slice e) xs), .at (.data _ (.int _) n)=>if (T.elem t).bind T.ty=some e then ∃x,idx xs n=some x/\K (.at (.data fr (.ptr e) x)) else False
 | .at (.own l off len), .at (.data _ (.int _) n)=>match st.at l with
  |some (.arr _ _ e tid _)=>if T.elem t=some tid/\T.ty tid=some e then (0<=n/\n<len)/\K (.at (.Kh l (off+n.toNat))) else False
  |some (.Gz e tid _)=>if T.elem t=some tid/\T.ty tid=some e then (0<=n/\n<len)/\K (.at (.Kh l (off+n.toNat))) else False
  |some (.Bp _ te _ _ _)=>if T.elem t=some te/\(T.ty te).map Ty.size=some 1 then (0<=n/\n<len)/\K (.at (.Kh l (off+n.toNat))) else False
  |_=>False
 | .at (.sub l i _), .at (.data _ (.int _) n)=>match st.at l with
  |some (.Bp e _ rows none _)=>if ((T.elem t).bind T.ty).map Ty.size=some e.size then (0<=n/\n<(rows.getD i []).length)/\K (.at (.Kd l i n.toNat)) else False
  |_=>False
 |_,_=>False
def QI (t:TypeId) (x i:AV) (K:AV->Prop):Prop:=
 match x,i with
 | .at (.data _ .str s), .at (.data _ (.int _) n)=>if T.ty t=some .str then 0<=n/\ ∃b,s[n.toNat]?=some b/\K (.at (.data true (.int .u8) b.toNat)) else False
 |_,_=>False
def zj (st:St) (f:FuncId) (args:List AV) (K:AV->Prop):Prop:=
 Hy (match Γ f with|some (.q s)=>some s|_=>none) λs=>match s.fresh||s.res.flat||args.all (·.settled) with
  |true=>Hy (Eb st s.arg args) λp=> ∃y,s.fn p.2=some y/\K (if s.Hb then .cf (s.fresh||s.res.flat) s.res y else .at (.data (s.fresh||s.res.flat) s.res y))
  |false=>False
def OX (st:St) (v:AV) (args:List AV) (K:AV->Prop):Prop:=
 match v with
 | .at (.data fr (.clo f τ) x)=>match τ.chain with|true=>(match Nat.blt f 1000000000 with|true=>zj Γ st f (args++cr fr τ x) K|false=>zj Γ st (f-1000000000) (cr fr τ x++args) K)|false=>False
 | .at (.clo f Eg)=>zj Γ st f (args++Eg.map λp=> .at (.Gy p.1 p.2)) K
 |_=>False
def qW (w:WS) (o:Oper) (K:AV->WS->Prop):Prop:=
 match o.op with
 | .pick c a b=>brO w c λt w'=>match t with|true=>K (w'.st.ev a) w'|false=>K (w'.st.ev b) w'
 | .load t a=>Adq T w.st t (w.st.ev a) λv=>K v w
 | .binOp op t x y _=>Al4 T op t (w.st.ev x) (w.st.ev y) λv=>K v w
 | .slice t x lo hi mx=>match mx with
  |none=>SQ T w.st t (w.st.ev x) (lo.map w.st.ev) (hi.map w.st.ev) λv=>K v w
  |some _=>False
 | .indexAddr t x i=>ng T w.st t (qN (w.st.ev x)) (w.st.ev i) λv=>K v w
 | .index t x i=>QI T t (w.st.ev x) (w.st.ev i) λv=>K v w
 | .call {callee:= .value (.func f),args, .. } =>zj Γ w.st f (args.toList.map w.st.ev) λv=>K v w
 | .call {callee:= .value (.tmp t),args, .. } =>OX Γ w.st (w.st.get t) (args.toList.map w.st.ev) λv=>K v w
 | .fieldAddr s x f=>mW T s (w.st.ev x) f λv=>K v w
 | .nilCheck x=>zO w.st x (λv=>K v w) (Fl T Γ w.st o)
 |_=>Hy (Fl T Γ w.st o) λv=>K v w
def TK (st:St) (t:TypeId) (p v:AV) (K:St->Prop):Prop:=
 match p with
 | .at (.Kh l j)=>Hy (T.ty t) λτ=>Hy (settle st v) λq=>match q.2.at l with
  |some (.arr fr tr e tid xs)=>Hy (Gc q.2 τ q.1) λu=>if h:τ=e then j<xs.length/\K (q.2.Kc l (.arr (fr&&u.1) (tr&&(Ug st v&&e.tree)) e tid (xs.set j (h▸u.2)))) else False
  |_=>False
 |p=>Hy (Vv T st t p v) K
def WI (st:St) (t:TypeId) (p v:AV) (K:St->Prop):Prop:=
 match p with
 | .at (.Kd l i j)=>Hy (T.ty t) λτ=>Hy (settle st v) λq=>match q.2.at l with
  |some (.Bp e te rows none kp)=>Hy (Gc q.2 τ q.1) λu=>if h:τ=e then K (q.2.Kc l (.Bp e te (rows.set i ((rows.getD i []).set j (h▸u.2))) none kp)) else False
  |_=>False
 | .at (.Kh l j)=>Hy (T.ty t) λτ=>match st.at l,v with
  |some (.Bp e te rows out kp), .at (.own m off len)=>match st.at m with
   |some (.arr _ _ e' _ xs)=>if h:e'=e/\(Nat.blt l Bn&&(!Nat.beq m l&&!τ.Aq))=true then
     off=0/\len=xs.length/\(match out with|none=>True|some i=>i=j)/\K (Uo st l j m e te rows (h.1▸xs) (cI j kp))
    else False
   |_=>False
  |_,_=>False
 |_=>False
def FB (st:St) (t:TypeId) (p v:AV) (K:St->Prop):Prop:=match UZ st p with
 |true=>WI T st t p v K
 |false=>TK T st t p v K
def nU (st:St) (dst:Nat) (t:TypeId) (x y:Operand) (K:AV->St->Prop):Prop:=
 Hy (T.elem t) λte=>Hy (T.ty te) λe=>Hy (settle st (st.ev y)) λq=>Hy (Gc q.2 (.slice e) q.1) λu=>match q.2.ev x with
  | .at .Lm=>match Nat.blt dst Bn with
   |true=>List.length u.2<=Cr/\K (.at (.own dst 0 (List.length u.2))) ((q.2.new dst (.arr (T.vg||e.flat) T.FN e te [])).new dst (.arr ((T.vg||e.flat)&&(u.1||e.flat)) (T.FN&&(e.flat||(Ug st (st.ev y)&&e.tree))) e te u.2))
   |false=>False
  | .at (.own l off len)=>match q.2.at l with
   |some (.arr fr tr e' tid xs)=>if h:e'=e/\tid=te/\Nat.blt l Bn=true then
     off=0/\len=xs.length/\len+List.length u.2<=Cr/\K (.at (.own l 0 (List.length ((h.1▸xs:List e.den)++u.2)))) (q.2.new l (.arr (fr&&(u.1||e.flat)) (tr&&(e.flat||(Ug st (st.ev y)&&e.tree))) e te ((h.1▸xs:List e.den)++u.2)))
    else False
   |_=>False
  |_=>False
def uy (st:St) (dst:Nat) (t:TypeId) (x y:Operand) (K:AV->St->Prop):Prop:=
 match x with
 | .tmp tx=>match st.get tx with
  | .at (.sub l i _)=>Hy (T.elem t) λtid=>match st.at l with
   |some (.Bp e te rows none kp)=>match Nat.blt l Bn&&(Nat.blt dst Bn&&!Nat.beq dst l) with
    |true=>nU T ((Qt st l i dst e te tid rows kp).put (some tx) (.at (.own dst 0 (rows.getD i []).length))) dst t x y K
    |false=>False
   |_=>False
  |_=>nU T st dst t x y K
 |_=>nU T st dst t x y K
def Adw (st:St) (dst:Nat) (t:TypeId) (l c:AV) (K:AV->St->Prop):Prop:=
 match l,c with
 | .at (.data _ (.int _) n), .at (.data _ (.int _) m)=>Hy (T.elem t) λte=>Hy (T.ty te) λe=>match hJ e&&Nat.blt dst Bn with
  |true=>(0<=n/\n<Cr+1)/\n=m/\K (.at (.own dst 0 (List.replicate n.toNat e.zero).length)) (st.new dst (.arr (T.vg||e.flat) (T.FN&&e.tree) e te (List.replicate n.toNat e.zero)))
  |false=>False
 |_,_=>False
def QX (st:St) (dst:Nat) (t:TypeId) (l c:AV) (K:AV->St->Prop):Prop:=
 match eU T t with
 |none=>Adw T st dst t l c K
 |some p=>match l,c with
  | .at (.data _ (.int _) n), .at (.data _ (.int _) m)=>match Nat.blt dst Bn with
   |true=>(0<=n/\n<Cr+1)/\n=m/\K (.at (.own dst 0 (List.replicate n.toNat ([]:List p.2.den)).length)) (Ro st dst dst (.Bp p.2 p.1 (List.replicate n.toNat []) none none))
   |false=>False
  |_,_=>False
def fR (st:St) (dst:Nat) (t:TypeId) (len:Nat) (parts:Array (Nat×Operand)) (K:AV->St->Prop):Prop:=
 match eU T t with
 |none=>Hy (Mq T st dst t len parts) λr=>K r.1 r.2
 |some p=>match parts.toList with
  | [(0,x)]=>match st.ev x with
   | .at (.own m off ln)=>match st.at m with
    |some (.arr _ _ e' _ xs)=>if h:e'=p.2/\(Nat.beq len 1&&(Nat.blt dst Bn&&Nat.blt m Bn))=true then off=0/\ln=xs.length/\K (.at (.own dst 0 1)) (Ro st dst m (.Bp p.2 p.1 [h.1▸xs] none none)) else False
    |_=>False
   |_=>False
  |_=>False
def uC (st:St) (dst:Nat) (t:TypeId) (x y:Operand) (K:AV->St->Prop):Prop:=
 match eU T t with
 |none=>uy T st dst t x y K
 |some p=>match st.ev x,st.ev y with
  | .at (.own l off len), .at (.own m Ae4 vV)=>match st.at l,st.at m with
   |some (.Bp e1 te1 A none _),some (.Bp e2 yP B none _)=>
    if h:(e1=p.2/\e2=p.2)/\(decide (te1=p.1)&&decide (yP=p.1)&&(Nat.blt l Bn&&(Nat.blt m Bn&&!Nat.beq m l)))=true then
     (off=0/\len=A.length)/\(Ae4=0/\vV=B.length)/\0<B.length/\A.length+B.length<=Cr/\
      K (.at (.own l 0 (List.length ((h.1.1▸A:List (List p.2.den))++(h.1.2▸B:List (List p.2.den)))))) (Ro st l m (.Bp p.2 p.1 ((h.1.1▸A:List (List p.2.den))++(h.1.2▸B:List (List p.2.den))) none none))
    else False
   |_,_=>False
  |_,_=>False
def gT (st:St) (io:Bool) (k:Nat):(c:CK)->AC->(c.den->List (Nat×Loc)->Prop)->Prop
 | .Em τ, .own l off len,K=>Hy (Dv st τ (.own l off len)) λp=>K p.2 [(Dt false k, .view l)]
 | .Em τ, .clo g Eg,K=>match cW st (Eg.map (·.1))&&!τ.Aq with
  |true=>Hy (Jz st τ (.clo g Eg)) λp=>K p.2 (views k (Eg.map (·.1)))
  |false=>False
 | .Em τ, .Gy l i,K=>match cW st [l]&&!τ.Aq with
  |true=>Hy (Jz st τ (.Gy l i)) λp=>K p.2 (views k [l])
  |false=>False
 | .Em τ, .sub l i c,K=>Hy (Dv st τ (.sub l i c)) λp=>K p.2 [(Dt false k, .view l)]
 | .Em τ,a,K=>match τ.flat||a.settled with
  |true=>Hy (Dv st τ a) λp=>K p.2 []
  |false=>False
 | .row e te, .own l off len,K=>match st.at l with
  |some (.arr _ _ e' Rv xs)=>if h:e'=e/\Rv=te then off=0/\len=xs.length/\K (h.1▸xs:List e.den) [(Dt io k, .row l)] else False
  |_=>False
 | .row e _, .sub l i c,K=>match st.at l with
  |some (.Gz e' _ xs)=>if h:e'= .slice e/\e.flat=true/\io=true/\c=0 then ∃y,xs[i]?=some y/\K (h.1▸y:(Ty.slice e).den) [(Dt io k, .sub l i c)] else False
  |_=>False
 | .row _ _, .Lm,K=>K [] []
 | .Hp e te, .own l off len,K=>match st.at l with
  |some (.Gz e' Rv xs)=>if h:e'=e/\Rv=te then off=0/\len=xs.length/\K (h.1▸xs:List e.den) [(Dt io k, .row l)] else False
  |_=>False
 | .Hp e _, .sub l i c,K=>match st.at l with
  |some (.Gz e' _ xs)=>if h:e'= .slice e/\io=true/\c=0 then ∃y,xs[i]?=some y/\K (h.1▸y:(Ty.slice e).den) [(Dt io k, .sub l i c)] else False
  |_=>False
 | .Hp _ _, .Lm,K=>K [] []
 | .part e te, .own l off len,K=>match st.at l with
  |some (.arr _ _ e' Rv xs)=>if h:e'=e/\Rv=te/\e.flat=true/\io=true then K ((h.1▸xs:List e.den),off,len) [(Dt io k, .row l)] else False
  |_=>False
 | .Bp e te _, .own l off len,K=>match st.at l with
  |some (.Bp e' Rv rows none _)=>if h:e'=e/\Rv=te/\io=false then off=0/\len=rows.length/\K (h.1▸rows:List (List e.den)) [(Dt io k, .row l)] else False
  |_=>False
 |_,_,_=>False
def FM (st:St):(k:Nat)->(cs:List (Bool×CK))->List AC->(Ins.den cs->List (Nat×Loc)->Prop)->Prop
 |_,[],[],K=>K () []
 |k,p::r,a::as,K=>gT st p.1 k p.2 a λx t1=>FM st (k+1) r as λy t2=>K (x,y) (t1++t2)
 |_,_,_,_=>False
def so (st:St):(c:CK)->c.den->AC->(St->Prop)->Prop
 | .row e _,ys, .own l _ len,K=>match st.at l with
  |some (.arr fr tr e' te xs)=>if h:e=e' then (List.length ys=len/\xs.length=len)/\K (st.Kc l (.arr (fr&&e'.flat) (tr&&e'.flat) e' te (h▸ys))) else False
  |_=>False
 | .Hp e _,ys, .own l _ len,K=>match st.at l with
  |some (.Gz e' te xs)=>if h:e=e' then (List.length ys=len/\xs.length=len)/\K (st.Kc l (.Gz e' te (h▸ys))) else False
  |_=>False
 | .row e _,ys, .sub l i _,K=>match st.at l with
  |some (.Gz e' te xs)=>if h: .slice e=e' then ∃y,xs[i]?=some y/\List.length ys=List.length (h▸y:(Ty.slice e).den)/\K (st.Kc l (.Gz e' te (xs.set i (h▸(ys:(Ty.slice e).den))))) else False
  |_=>False
 | .Hp e _,ys, .sub l i _,K=>match st.at l with
  |some (.Gz e' te xs)=>if h: .slice e=e' then ∃y,xs[i]?=some y/\List.length ys=List.length (h▸y:(Ty.slice e).den)/\K (st.Kc l (.Gz e' te (xs.set i (h▸(ys:(Ty.slice e).den))))) else False
  |_=>False
 |_,_, .Lm,K=>K st
 |_,_,_,_=>False
def Aek (st:St) (e:Ty) (ys:List e.den):AC->(St->Prop)->Prop
 | .own l _ _,K=>match st.at l with
  |some (.arr fr tr e' te xs)=>if h:e=e' then List.length ys=xs.length/\K (st.Kc l (.arr fr tr e' te (h▸ys))) else False
  |_=>False
 |_,_=>False
def jZ:(cs:List (Bool×CK))->IOs.den cs->List AC->St->(St->Prop)->Prop
 | [],_,_,st,K=>K st
 |(true, .Em _)::r,x,_::as,st,K=>jZ r x as st K
 |(true, .row e te)::r,x,a::as,st,K=>so st (.row e te) x.1 a λst'=>jZ r x.2 as st' K
 |(true, .Hp e te)::r,x,a::as,st,K=>so st (.Hp e te) x.1 a λst'=>jZ r x.2 as st' K
 |(true, .part e _)::r,x,a::as,st,K=>Aek st e x.1 a λst'=>jZ r x.2 as st' K
 |(true, .Bp _ _ _)::r,x,_::as,st,K=>jZ r x as st K
 |(false,_)::r,x,_::as,st,K=>jZ r x as st K
 |_,_,_,_,_=>False
def xf (H:List (Nat×OB)) (ls:List Nat) (n:Nat):List AV->Prop->Prop
 | [],K=>K
 | .at (.sub l i _)::r,K=>match ls.contains l with
  |true=>(i<n/\i<tS H l)/\xf H ls n r K
  |false=>xf H ls n r K
 |_::r,K=>xf H ls n r K
def OW (st:St) (dst:Option Nat) (s:MSpec) (args:List AV) (K:AV->St->Prop):Prop:=
 Hy (WA st s args) λq=>Hy (ungroup s.Ja q.2.2) λpU=>FM st 0 s.ins (q.2.1++pU) λx tks=>
  match aW (tks.map λt=>t.2.Xy)&&CW (Tb s tks (dst.getD 0)) (s.outs.length+(nC s (dst.getD 0)).length)&&Nat.blt s.outs.length 1000&&Nat.blt s.ins.length 1000&&(Xa s.ins q.2.1&&q.1.all λl=>!((tks.map λt=>t.2.Xy)++Tb s tks (dst.getD 0)).contains l) with
  |true=> ∃p,s.fn x=some p/\jZ s.ins p.2 (q.2.1++pU) st λst1=>Hy (Aid s (dst.getD 0) ((Yh (Dx (Tb s tks (dst.getD 0))) 0 s.outs p.1).drop s.Rt)) λv=>
    xf (j9 st st1 (dst.getD 0) s q.1 tks p.1).heap (cH st.heap (Tb s tks (dst.getD 0)) tks s.keeps) (s.Fg x) st.tmps
     (K v (nh st (j9 st st1 (dst.getD 0) s q.1 tks p.1) (cH st.heap (Tb s tks (dst.getD 0)) tks s.keeps) (s.Fg x)))
  |false=>False
def opW (w:WS) (o:Oper) (K:AV->WS->Prop):Prop:=
 match o.op with
 | .store t p x=>FB T (Oz T w.st p x) t ((Oz T w.st p x).ev p) ((Oz T w.st p x).ev x) λs=>K .undef (w.to s)
 | .makeSlice t l c=>Hy o.dst λd=>QX T w.st d t (w.st.ev l) (w.st.ev c) λv s=>K v (w.to s)
 | .call {callee:= .builtin .append,args,argTypes} =>match o.dst,args.toList,argTypes.toList with
  |some d,[x,y],[t,t']=>if t=t' then uC T w.st d t x y λv s=>K v (w.to s) else False
  |_,_,_=>False
 | .assign _=>Hy (evalOp T Γ w.st o) λr=>K r.1 (w.to r.2)
 | .alloc _=>Hy (evalOp T Γ w.st o) λr=>K r.1 (w.to r.2)
 | .box _ _=>Hy (evalOp T Γ w.st o) λr=>K r.1 (w.to r.2)
 | .buildSlice t len parts=>Hy o.dst λd=>fR T w.st d t len parts λv s=>K v (w.to s)
 | .build _ _=>Hy (evalOp T Γ w.st o) λr=>K r.1 (w.to r.2)
 | .makeMap _ _=>Hy (evalOp T Γ w.st o) λr=>K r.1 (w.to r.2)
 | .mapUpdate _ _ _ _=>Hy (evalOp T Γ w.st o) λr=>K r.1 (w.to r.2)
 | .insert _ _ _ _=>Hy (evalOp T Γ w.st o) λr=>K r.1 (w.to r.2)
 | .call {callee:= .builtin .copy, .. } =>Hy (evalOp T Γ w.st o) λr=>K r.1 (w.to r.2)
 | .call {callee:= .builtin .clear, .. } =>Hy (evalOp T Γ w.st o) λr=>K r.1 (w.to r.2)
 | .call {callee:= .value (.func f),args, .. } =>match Γ f with
  |some (.m s)=>OW w.st o.dst s (args.toList.map w.st.ev) λv s'=>K v (w.to s')
  |some (.q s)=>match gu s (args.toList.map w.st.ev) with
   |true=>Hy (Ns args.toList w.st) λst1=>qW T Γ (w.to st1) o K
   |false=>qW T Γ w o K
  |_=>qW T Γ w o K
 |_=>qW T Γ w o K
def AV.Adk:AV->Bool
 | .at .skip=>true
 |_=>false
def bW (w:WS) (o:Oper) (K:AV->WS->Prop):Prop:=
 match o.op with
 | .buildSlice t len parts=>Hy (cv T w.st t len parts) λv=>K v w
 | .build t parts=>Hy (Yr T w.st t parts) λv=>K v w
 |_=>qW T Γ w o K
def kC (ops:Array Oper) (w:WS) (o:Oper) (run:(AV->WS->Prop)->WS->Prop) (K:WS->Prop):Prop:=
 match o.guard with
 |none=>run (λv w'=>K (w'.yt o v)) w
 |some (j,want)=>Hy ((ops[j]?).bind (·.dst)) λt=>match (w.st.get t).Adk with
  |true=>K (w.put o.dst (.at .skip))
  |false=>brT w t λb w'=>match b,want with
   |true,true=>run (λv sM=>K (sM.yt o v)) w'
   |false,false=>run (λv sM=>K (sM.yt o v)) w'
   |_,_=>K (w'.put o.dst (.at .skip))
def Ana (ops:Array Oper):List Oper->WS->(WS->Prop)->Prop
 | [],w,K=>K w
 |o::r,w,K=>kC ops w o (λk w'=>opW T Γ w' o k) λw'=>Ana ops r w' K
def Ada (ops:Array Oper):List Nat->WS->(WS->Prop)->Prop
 | [],w,K=>K w
 |i::r,w,K=>Hy ops[i]? λo=>kC ops w o (λk w'=>opW T Γ w' o k) λw'=>Ada ops r w' K
def m6 (ops:Array Oper):List Nat->WS->(WS->Prop)->Prop
 | [],w,K=>K w
 |i::r,w,K=>Hy ops[i]? λo=>kC ops w o (λk w'=>bW T Γ w' o k) λw'=>m6 ops r w' K
def Abq:List Nat->(Nat->Prop)->Prop
 | [],_=>True
 | [i],P=>P i
 |i::j::r,P=>P i/\Abq (j::r) P
def WX (ops:Array Oper):Nat->Array Bool->WS->(WS->Prop)->Prop
 |0,Ah,w,K=>match Region.ready .any ops Ah with
  | []=>K w
  |_::_=>False
 |f+1,Ah,w,K=>match Region.ready .any ops Ah with
  | []=>False
  |i::r=>Abq (i::r) λk=>Hy ops[k]? λo=>kC ops w o (λkk w'=>opW T Γ w' o kk) λw'=>WX ops f (Ah.setIfInBounds k true) w' K
def acV:AC->Type->Type
 | .data _ τ _,R=>τ.den×R
 | .sub _ _ _,R=>Nat×R
 | .Kh _ _,R=>Nat×R
 | .Kd _ _ _,R=>Nat×Nat×R
 |_,R=>R
def OL:List AC->Type->Type
 | [],R=>R
 |c::r,R=>acV c (OL r R)
def avV:AV->Type->Type
 | .at a,R=>acV a R
 | .agg cs,R=>OL cs R
 | .cf _ τ _,R=>τ.den×R
 | .Mn _,R=>R
def obV:OB->Type->Type
 | .arr _ _ e _ _,R=>List e.den×R
 | .Gz e _ _,R=>List e.den×R
 | .var _ vs,R=>OL vs R
 | .Bp e _ _ _ none,R=>List (List e.den)×R
 | .Bp e _ _ _ (some _),R=>List (List e.den)×(Nat×R)
 | .Wo v _,R=>(ByteArray->Option v.den)×R
def sJ:List AV->Type->Type
 | [],R=>R
 |v::r,R=>avV v (sJ r R)
def zt:List (Nat×OB)->Type->Type
 | [],R=>R
 |p::r,R=>obV p.2 (zt r R)
def stV (s:St):Type:=sJ s.tmps (zt s.heap Unit)
def UH:(c:AC)-> {R:Type} ->R->acV c R
 | .data _ _ x,_,r=>(x,r)
 | .undef,_,r=>r
 | .skip,_,r=>r
 | .Lm,_,r=>r
 | .Vo,_,r=>r
 | .own _ _ _,_,r=>r
 | .Gy _ _,_,r=>r
 | .Kh _ i,_,r=>(i,r)
 | .clo _ _,_,r=>r
 | .Kr _,_,r=>r
 | .sub _ i _,_,r=>(i,r)
 | .Kd _ i j,_,r=>(i,j,r)
def uu:(l:List AC)-> {R:Type} ->R->OL l R
 | [],_,r=>r
 |c::l,_,r=>UH c (uu l r)
def Aj8:(c:AV)-> {R:Type} ->R->avV c R
 | .at a,_,r=>UH a r
 | .agg cs,_,r=>uu cs r
 | .cf _ _ x,_,r=>(x,r)
 | .Mn _,_,r=>r
def Ako:(b:OB)-> {R:Type} ->R->obV b R
 | .arr _ _ _ _ xs,_,r=>(xs,r)
 | .Gz _ _ xs,_,r=>(xs,r)
 | .var _ vs,_,r=>uu vs r
 | .Bp _ _ rows _ none,_,r=>(rows,r)
 | .Bp _ _ rows _ (some p),_,r=>(rows,p.2,r)
 | .Wo _ m,_,r=>(m,r)
def uf:(l:List AV)-> {R:Type} ->R->sJ l R
 | [],_,r=>r
 |c::l,_,r=>Aj8 c (uf l r)
def tT:(l:List (Nat×OB))-> {R:Type} ->R->zt l R
 | [],_,r=>r
 |p::l,_,r=>Ako p.2 (tT l r)
def WH (s:St):stV s:=uf s.tmps (tT s.heap ())
def q8:(c d:AC)-> {R:Type} ->R->Option (acV c R)
 | .data fr τ _, .data Ww Oq x,_,r=>if h:Oq=τ/\Ww=fr then some (h.1▸x,r) else none
 | .undef, .undef,_,r=>some r
 | .skip, .skip,_,r=>some r
 | .Lm, .Lm,_,r=>some r
 | .Vo, .Vo,_,r=>some r
 | .own l _ _, .own l' _ _,_,r=>if l=l' then some r else none
 | .Gy l i, .Gy l' i',_,r=>if l=l'/\i=i' then some r else none
 | .Kh l _, .Kh l' i',_,r=>if l=l' then some (i',r) else none
 | .clo f c, .clo f' c',_,r=>if f=f'/\c=c' then some r else none
 | .Kr l, .Kr l',_,r=>if l=l' then some r else none
 | .sub l _ c, .sub l' i' c',_,r=>if l=l'/\c=c' then some (i',r) else none
 | .Kd l _ _, .Kd l' i' j',_,r=>if l=l' then some (i',j',r) else none
 |_,_,_,_=>none
def Ta:(l m:List AC)-> {R:Type} ->R->Option (OL l R)
 | [],[],_,r=>some r
 |c::l,d::m,_,r=>(Ta l m r).bind λr'=>q8 c d r'
 |_,_,_,_=>none
def mR:(c d:AV)-> {R:Type} ->R->Option (avV c R)
 | .at a, .at b,_,r=>q8 a b r
 | .agg cs, .agg ds,_,r=>Ta cs ds r
 | .cf fr τ _, .cf Ww Oq x,_,r=>if h:Oq=τ/\Ww=fr then some (h.1▸x,r) else none
 |_,_,_,_=>none
def Tx:(b d:OB)-> {R:Type} ->R->Option (obV b R)
 | .arr fr tr e tid _, .arr Ww tr' e' Tm xs,_,r=>if h:e'=e/\Ww=fr/\tr'=tr/\Tm=tid then some (h.1▸xs,r) else none
 | .Gz e tid _, .Gz e' Tm xs,_,r=>if h:e'=e/\Tm=tid then some (h.1▸xs,r) else none
 | .Wo v _, .Wo v' m,_,r=>if h:v'=v then some (h▸m,r) else none
 | .var t vs, .var t' us,_,r=>if t'=t then Ta vs us r else none
 | .Bp e te _ out none, .Bp e' Rv rows iS none,_,r=>if h:e'=e/\Rv=te/\iS=out then some (h.1▸rows,r) else none
 | .Bp e te _ out (some p), .Bp e' Rv rows iS (some p'),_,r=>if h:e'=e/\Rv=te/\iS=out/\p'.1=p.1 then some (h.1▸rows,p'.2,r) else none
 |_,_,_,_=>none
def Pl:(l m:List AV)-> {R:Type} ->R->Option (sJ l R)
 | [],[],_,r=>some r
 |c::l,d::m,_,r=>(Pl l m r).bind λr'=>mR c d r'
 |_,_,_,_=>none
def Qv:(l m:List (Nat×OB))-> {R:Type} ->R->Option (zt l R)
 | [],[],_,r=>some r
 |p::l,q::m,_,r=>if q.1=p.1 then (Qv l m r).bind λr'=>Tx p.2 q.2 r' else none
 |_,_,_,_=>none
def kA (s t:St):Option (stV s):=(Qv s.heap t.heap ()).bind λr=>Pl s.tmps t.tmps r
def mM:(c:AC)-> {R:Type} ->acV c R->AC×R
 | .data fr τ _,_,v=>(.data fr τ v.1,v.2)
 | .undef,_,r=>(.undef,r)
 | .skip,_,r=>(.skip,r)
 | .Lm,_,r=>(.Lm,r)
 | .Vo,_,r=>(.Vo,r)
 | .own l off len,_,r=>(.own l off len,r)
 | .Gy l i,_,r=>(.Gy l i,r)
 | .Kh l _,_,v=>(.Kh l v.1,v.2)
 | .clo f c,_,r=>(.clo f c,r)
 | .Kr l,_,r=>(.Kr l,r)
 | .sub l _ c,_,v=>(.sub l v.1 c,v.2)
 | .Kd l _ _,_,v=>(.Kd l v.1 v.2.1,v.2.2)
def br:(l:List AC)-> {R:Type} ->OL l R->List AC×R
 | [],_,r=>([],r)
 |c::l,_,v=>((mM c v).1::(br l (mM c v).2).1,(br l (mM c v).2).2)
def uF:(c:AV)-> {R:Type} ->avV c R->AV×R
 | .at a,_,v=>(.at (mM a v).1,(mM a v).2)
 | .agg cs,_,v=>(.agg (br cs v).1,(br cs v).2)
 | .cf fr τ _,_,v=>(.cf fr τ v.1,v.2)
 | .Mn l,_,r=>(.Mn l,r)
def w9:(b:OB)-> {R:Type} ->obV b R->OB×R
 | .arr fr tr e tid _,_,v=>(.arr fr tr e tid v.1,v.2)
 | .Gz e tid _,_,v=>(.Gz e tid v.1,v.2)
 | .Wo w _,_,v=>(.Wo w v.1,v.2)
 | .var t vs,_,v=>(.var t (br vs v).1,(br vs v).2)
 | .Bp e te _ out none,_,v=>(.Bp e te v.1 out none,v.2)
 | .Bp e te _ out (some p),_,v=>(.Bp e te v.1 out (some (p.1,v.2.1)),v.2.2)
def Xs:(l:List AV)-> {R:Type} ->sJ l R->List AV×R
 | [],_,r=>([],r)
 |c::l,_,v=>((uF c v).1::(Xs l (uF c v).2).1,(Xs l (uF c v).2).2)
def eW:(l:List (Nat×OB))-> {R:Type} ->zt l R->List (Nat×OB)×R
 | [],_,r=>([],r)
 |p::l,_,v=>((p.1,(w9 p.2 v).1)::(eW l (w9 p.2 v).2).1,(eW l (w9 p.2 v).2).2)
def kz (s:St) (v:stV s):St:= {tmps:=(Xs s.tmps v).1,heap:=(eW s.heap (Xs s.tmps v).2).1}
def lenOf (H:List (Nat×OB)) (l:Nat):Nat:=match Au H l with|some (.arr _ _ _ _ xs)=>xs.length|some (.Gz _ _ xs)=>xs.length|some (.Bp _ _ rows _ _)=>rows.length|_=>0
def aS (ps:List Nat):List AV->List (Nat×Nat×Nat)
 | []=> []
 | .at (.own l off len)::r=>if ps.contains l then (l,off,len)::aS ps r else aS ps r
 |_::r=>aS ps r
def An8:List (Nat×Nat×Nat)->Nat->Nat
 | [],_=>0
 |(k,o,_)::r,l=>if k=l then o else An8 r l
def YF:List (Nat×Nat×Nat)->List (Nat×OB)->Nat->Nat
 | [],H,l=>lenOf H l
 |(k,_,n)::r,H,l=>if k=l then n else YF r H l
def gY (B:List (Nat×Nat×Nat)) (H:List (Nat×OB)):AC->AC
 | .own l _ _=> .own l (An8 B l) (YF B H l)
 |c=>c
def St.whole (B:List (Nat×Nat×Nat)) (s:St):St:=s.Lb (gY B s.heap)
def BH (B:List (Nat×Nat×Nat)) (H:List (Nat×OB)) (c:AC) (K:Prop):Prop:=match c with
 | .own l off len=>off=An8 B l/\len=YF B H l/\K
 |_=>K
def eG (B:List (Nat×Nat×Nat)) (H:List (Nat×OB)):List AC->Prop->Prop
 | [],K=>K
 |c::r,K=>BH B H c (eG B H r K)
def UN (B:List (Nat×Nat×Nat)) (H:List (Nat×OB)) (c:AV) (K:Prop):Prop:=match c with
 | .at a=>BH B H a K
 | .agg cs=>eG B H cs K
 | .cf _ _ _=>K
 | .Mn _=>False
def cd (B:List (Nat×Nat×Nat)) (H:List (Nat×OB)):List AV->Prop->Prop
 | [],K=>K
 |c::r,K=>UN B H c (cd B H r K)
def kZ (B:List (Nat×Nat×Nat)) (H:List (Nat×OB)):List (Nat×OB)->Prop->Prop
 | [],K=>K
 |p::r,K=>match p.2 with
  | .var _ vs=>eG B H vs (kZ B H r K)
  |_=>kZ B H r K
def FA (B:List (Nat×Nat×Nat)) (s:St) (K:Prop):Prop:=cd B s.heap s.tmps (kZ B s.heap s.heap K)
def AV.Yz:AV->Bool
 | .at (.data _ _ _)=>true
 |_=>false
def Ko (p:Nat->Bool):Nat->List AV->List Bool
 |_,[]=> []
 |i,v::r=>(v.Yz&&p i)::Ko p (i+1) r
def stays (live:Nat->List Nat) (c:Code) (t:Nat):Bool:=!(writes c).contains t&&cG live c t
def Ur:List Bool->List AV->List AV
 |true::f,_::r=> .undef::Ur f r
 |false::f,v::r=>v::Ur f r
 |_,l=>l
def Wd:List Bool->List AV->List AV->List AV
 |true::f,a::s,_::r=>a::Wd f s r
 |false::f,_::s,v::r=>v::Wd f s r
 |_,_,l=>l
def St.mask (fx:List Bool) (s:St):St:= {tmps:=Ur fx s.tmps,heap:=s.heap}
def St.ye (fx:List Bool) (s0 s:St):St:= {tmps:=Wd fx s0.tmps s.tmps,heap:=s.heap}
def tQ (c:AC) (k:AC->Prop):Prop:=match c with
 | .undef=>k .undef
 | .skip=>k .skip
 | .Lm=>k .Lm
 | .Vo=>k .Vo
 | .data fr τ x=>match fr with
  |true=>k (.data true τ x)
  |false=>k (.data false τ x)
 | .own l off len=>k (.own l off len)
 | .Gy l i=>k (.Gy l i)
 | .Kh l i=>k (.Kh l i)
 | .clo f c=>k (.clo f c)
 | .Kr l=>k (.Kr l)
 | .sub l i c=>k (.sub l i c)
 | .Kd l i c=>k (.Kd l i c)
def jw:List AC->(List AC->Prop)->Prop
 | [],k=>k []
 |c::r,k=>tQ c λc'=>jw r λr'=>k (c'::r')
def CB (c:AV) (k:AV->Prop):Prop:=match c with
 | .at a=>tQ a λa'=>k (.at a')
 | .agg cs=>jw cs λjl=>k (.agg jl)
 | .cf fr τ x=>k (.cf fr τ x)
 | .Mn l=>k (.Mn l)
def jx:List AV->(List AV->Prop)->Prop
 | [],k=>k []
 |c::r,k=>CB c λc'=>jx r λr'=>k (c'::r')
def CC (b:OB) (k:OB->Prop):Prop:=match b with
 | .arr fr tr e tid xs=>match fr,tr with
  |true,true=>k (.arr true true e tid xs)
  |true,false=>k (.arr true false e tid xs)
  |false,true=>k (.arr false true e tid xs)
  |false,false=>k (.arr false false e tid xs)
 | .Gz e tid xs=>k (.Gz e tid xs)
 | .var t vs=>jw vs λvs'=>k (.var t vs')
 | .Bp e te rows out kp=>match out,kp with
  |none,none=>k (.Bp e te rows none none)
  |none,some (l,n)=>k (.Bp e te rows none (some (l,n)))
  |some i,none=>k (.Bp e te rows (some i) none)
  |some i,some (l,n)=>k (.Bp e te rows (some i) (some (l,n)))
 | .Wo v m=>k (.Wo v m)
def vf:List (Nat×OB)->(List (Nat×OB)->Prop)->Prop
 | [],k=>k []
 |(l,b)::r,k=>CC b λb'=>vf r λr'=>k ((l,b')::r')
def aV (w:WS) (k:WS->Prop):Prop:=jx w.st.tmps λt=>vf w.st.heap λh=>k {kn:=w.kn,st:= {tmps:=t,heap:=h} }
def qo (s:St) (k:St->Prop):Prop:=jx s.tmps λt=>vf s.heap λh=>k {tmps:=t,heap:=h}
def fX:List Bool->(List Bool->Prop)->Prop
 | [],k=>k []
 |true::r,k=>fX r λr'=>k (true::r')
 |false::r,k=>fX r λr'=>k (false::r')
theorem rR {c:AC} {k:AC->Prop} :tQ c k↔k c:=by
 cases c<;>simp only [tQ]
 split<;>rfl
theorem fV: ∀ {l:List AC} {k:List AC->Prop},jw l k↔k l
 | [],k=>Iff.rfl
 |c::r,k=>by simp only [jw];rw [rR,fV]
theorem HV {c:AV} {k:AV->Prop} :CB c k↔k c:=by
 cases c<;>simp only [CB]
 ·exact rR
 ·exact fV
theorem fW: ∀ {l:List AV} {k:List AV->Prop},jx l k↔k l
 | [],k=>Iff.rfl
 |c::r,k=>by simp only [jx];rw [HV,fW]
theorem HW {b:OB} {k:OB->Prop} :CC b k↔k b:=by
 cases b<;>simp only [CC]
 ·split<;>rfl
 ·exact fV
 ·split<;>rfl
theorem mY: ∀ {l:List (Nat×OB)} {k:List (Nat×OB)->Prop},vf l k↔k l
 | [],k=>Iff.rfl
 |(l,b)::r,k=>by simp only [vf];rw [HW,mY]
theorem XL {s:St} {k:St->Prop} :qo s k=k s:=by
 unfold qo
 exact propext (by rw [fW,mY])
theorem fY: ∀ {l:List Bool} {k:List Bool->Prop},fX l k=k l
 | [],k=>rfl
 |true::r,k=>by simp only [fX];rw [fY]
 |false::r,k=>by simp only [fX];rw [fY]
theorem Oi {w:WS} {k:WS->Prop} :aV w k↔k w:=by
 unfold aV
 rw [fW,mY]
def cm:AC->List (Nat×Nat)
 | .own _ off len=> [(off,len)]
 |_=> []
def cp:AV->List (Nat×Nat)
 | .at a=>cm a
 | .agg cs=>cs.flatMap cm
 |_=> []
def nw:OB->List (Nat×Nat)
 | .var _ vs=>vs.flatMap cm
 |_=> []
def TI (s:St):List (Nat×Nat):=s.tmps.flatMap cp++s.heap.flatMap λp=>nw p.2
def eqW (s0 s:St):Prop:=TI s=TI s0/\Hy (kA s0 s) λv=>v=WH s0
def cA (ops:Array Oper):Nat->Array Bool->WS->(WS->Prop)->Prop
 |0,Ah,w,K=>match Region.ready .any ops Ah with
  | []=>K w
  |_::_=>False
 |f+1,Ah,w,K=>match Region.ready .any ops Ah with
  | []=>False
  |k::_=>Hy ops[k]? λo=>kC ops w o (λkk w'=>opW T Γ w' o kk) λw'=>cA ops f (Ah.setIfInBounds k true) w' K
def GV (P:List (Nat×Nat×AV×OB)) (ops:Array Oper):Nat->Array Bool->WS->(WS->Prop)->Prop
 |0,Ah,w,K=>match Region.ready .any ops Ah with
  | []=>K w
  |_::_=>False
 |f+1,Ah,w,K=>match Region.ready .any ops Ah with
  | []=>False
  |i::r=>Abq (i::r) λk=>Hy ops[k]? λo=>match RH P Γ ops w.st o k with
   |true=>kC ops w o (λkk w'=>opW T Γ w' o kk) λw'=>GV P ops f (Ah.setIfInBounds k true) w' K
   |false=>False
def AQ (ops:Array Oper) (E:List Nat) (Ah:Array Bool) (w:WS):List Nat->Prop->Prop
 | [],K=>K
 |r::R,K=>match uh ops E Ah r with
  |true=>AQ ops E Ah w R K
  |false=>(m6 T Γ ops [r] w λw'=>Hy ((ops[r]?).bind (·.dst)) λd=>match Nat.blt d w.st.tmps.length with
    |true=>eqW ⟨[w.st.get d],[]⟩ ⟨[w'.st.get d],[]⟩
    |false=>False)/\AQ ops E Ah w R K
def uw (ops:Array Oper) (E:List Nat):Nat->Array Bool->WS->(WS->Prop)->Prop
 |0,Ah,w,K=>AQ T Γ ops E Ah w E (match Region.ready .any ops Ah with
  | []=>K w
  |_::_=>False)
 |f+1,Ah,w,K=>AQ T Γ ops E Ah w E (match Region.ready .any ops Ah with
  | []=>False
  |i::r=>Abq (i::r) λk=>Hy ops[k]? λo=>kC ops w o (λkk w'=>opW T Γ w' o kk) λw'=>uw ops E f (Ah.setIfInBounds k true) w' K)
def SE (E:List Nat) (n:Nat) (L0:Array Bool) (ops:Array Oper) (w:WS) (K:WS->Prop):Prop:=
 match dF ops E L0&&(Nat.ble E.length n&&Nat.ble (n-E.length) 10) with
 |true=>m6 T Γ ops E w λw1=>aV w1 λw1=>cA T Γ ops (n-E.length) (Ej E L0) w1 λw0=>aV w0 λw0=>K w0/\uw T Γ ops E (n-E.length) (Ej E L0) w1 λw2=>aV w2 λw2=>eqW w0.st w2.st
 |false=>False
def BO (P:List (Nat×Nat×AV×OB)) (n:Nat) (L0:Array Bool) (ops:Array Oper) (w:WS) (K:WS->Prop):Prop:=
 match (aW (P.map (·.1))&&aW (P.map (·.2.1)))&&((P.all λa=>qG a.2.1 w.st)&&(Nat.ble P.length n&&Nat.ble (n-P.length) 10)) with
 |true=>Ada T Γ ops (P.map (·.1)) w λw1=>aV w1 λw1=>cA T Γ ops (n-P.length) (Ej (P.map (·.1)) L0) w1 λw0=>aV w0 λw0=>K w0/\GV T Γ P ops (n-P.length) (Ej (P.map (·.1)) L0) w1 λw2=>eqW w0.st w2.st
 |false=>SE T Γ (lk ops (List.range ops.size) L0) n L0 ops w K
def KJ:Nat:=800000000
def KL (ops:Array Oper):Nat->Array Bool->Bool
 |0,Ah=>(Region.ready .any ops Ah).isEmpty
 |f+1,Ah=>match Region.ready .any ops Ah with
  | [i]=>KL ops f (Ah.setIfInBounds i true)
  |_=>false
def VZ (ops:Array Oper) (L0:Array Bool):List Nat:=lk ops (List.range ops.size) L0
def zP (ops:Array Oper):Array Bool:=Ej (Ks ops) (Array.replicate ops.size false)
def Ae5 (ops:Array Oper):Bool:=Region.noSelect ops&&(dF ops (VZ ops (zP ops)) (zP ops)&&(Nat.ble (VZ ops (zP ops)).length (ops.size-(Ks ops).length)&&Nat.ble ((ops.size-(Ks ops).length)-(VZ ops (zP ops)).length) 10))
def eqM (fx:List Bool) (s0 s:St):Prop:=eqW (s0.mask fx) (s.mask fx)
def Tn (ops:Array Oper) (t:Nat):Bool:=!Zx ops t
def xt (ops:Array Oper):List Nat:=(ops.toList.filterMap λo=>match o.op with
 | .alloc _=>none
 | .box _ _=>none
 | .assign _=>none
 |_=>o.dst).filter λd=>ops.toList.any λo=>(o.looksAt ops).contains d
def WS.Qz (dead:List Nat) (w:WS):WS:= {kn:=w.kn.filter λp=>!dead.contains p.1,st:=w.st.Qz dead}
def Ae6 (dead E:List Nat) (n:Nat) (L0:Array Bool) (ops:Array Oper) (w:WS) (K:WS->Prop):Prop:=
 match dF ops E L0&&Nat.ble E.length n with
 |true=>m6 T Γ ops E w λw1=>aV w1 λw1=>match KL ops (n-E.length) (Ej E L0) with
  |true=>uw T Γ ops E (n-E.length) (Ej E L0) w1 λw2=>K (w2.Qz dead)
  |false=>fX (Ko (Tn ops) 0 w1.st.tmps) λfx=>cA T Γ ops (n-E.length) (Ej E L0) w1 λw0=>aV (w0.Qz dead) λw0=>K w0/\uw T Γ ops E (n-E.length) (Ej E L0) w1 λw2=>aV (w2.Qz dead) λw2=>eqM fx w0.st w2.st
 |false=>False
def ub (ops:Array Oper) (draw:Bool) (w:WS) (K:WS->Prop):Prop:=
 match draw with
 |true=>match dE false Γ ops with
  |true=>m6 T Γ ops (kY false Γ ops) w λw'=>Ada T Γ ops (Jp false Γ ops) w' K
  |false=>match dE true Γ ops with
   |true=>m6 T Γ ops (kY true Γ ops) w λw'=>Ada T Γ ops (Jp true Γ ops) w' K
   |false=>match Region.noSelect ops&&Nat.ble (ops.size-(Ks ops).length) 8 with
    |true=>m6 T Γ ops (Ks ops) w λw'=>match kV false ops&&!T.marks.contains KJ with
     |true=>WX T Γ ops (ops.size-(Ks ops).length) (Ej (Ks ops) (Array.replicate ops.size false)) w' K
     |false=>cA T Γ ops (ops.size-(Ks ops).length) (Ej (Ks ops) (Array.replicate ops.size false)) w' λw0=>aV w0 λw0=>K w0/\WX T Γ ops (ops.size-(Ks ops).length) (Ej (Ks ops) (Array.replicate ops.size false)) w' λw1=>eqW w0.st w1.st
    |false=>match Region.noSelect ops with
     |true=>m6 T Γ ops (Ks ops) w λw'=>BO T Γ (aq T ops (Ej (Ks ops) (Array.replicate ops.size false))) (ops.size-(Ks ops).length) (Ej (Ks ops) (Array.replicate ops.size false)) ops w' K
     |false=>False
 |false=>Ana T Γ ops ops.toList w K
def EG (ops:Array Oper) (draw:Bool) (w:WS) (K:WS->Prop):Prop:=
 match T.marks.contains KJ&&(xt ops).all (Zx ops) with
 |true=>match draw&&(!(dE false Γ ops||dE true Γ ops)&&Ae5 ops) with
  |true=>m6 T Γ ops (Ks ops) w λw'=>Ae6 T Γ (xt ops) (VZ ops (zP ops)) (ops.size-(Ks ops).length) (zP ops) ops w' K
  |false=>ub T Γ ops draw w λw'=>K (w'.Qz (xt ops))
 |false=>ub T Γ ops draw w K
def eK (live:Nat->List Nat):Code->WS->(Ls->WS->Prop)->Prop
 | .skip,w,Q=>Q .normal w
 | .label _,w,Q=>Q .normal w
 | .region _ ops draw,w,Q=>EG T (EF Γ draw) ops draw {w with st:=w.st.o6 ops} λw'=>aV w' (Q .normal)
 | .seq a b,w,Q=>eK live a w λe w'=>match e with
  | .normal=>eK live b w' Q
  | .exit id=>Q (.exit id) w'
  | .ret=>Q .ret w'
 | .cond c a b,w,Q=>brO w c λt w'=>match t with
  |true=>eK live a w' Q
  |false=>eK live b w' Q
 | .block id c,w,Q=>eK live c w λe w'=>match e with
  | .normal=>Q .normal w'
  | .exit YA=>if YA=id then Q .normal w' else Q (.exit YA) w'
  | .ret=>Q .ret w'
 | .loop c,w,Q=>
  qo (w.st.clean (live (Fa c))) λs0=>fX (Ko (stays live c) 0 s0.tmps) λfx=>qo (s0.mask fx) λm=>
  FA (aS T.parts s0.tmps) s0 (Db (V:=stV m) (λv k=>qo ((St.ye fx s0 (kz m v)).whole (aS T.parts s0.tmps)) λsb=>eK live c ⟨[],sb⟩ λe w'=>match e with
   | .normal=>qo (w'.st.clean (live (Fa c))) λs1=>FA (aS T.parts s0.tmps) s1 (Hy (kA m (s1.mask fx)) k)
   | .exit id=>Q (.exit id) w'
   | .ret=>Q .ret w') (WH m))
 | .exit id,w,Q=>Q (.exit id) w
 | .ret,w,Q=>Q .ret w
 |_,_,_=>False
def Al6 (s:Spec) (fn:Func) (P:s.res.den->Prop) (st:St):Prop:=
 Hy (om T s fn st) λp=>match p.1||!s.fresh with|true=>P p.2|false=>False
def jM (st:St) (K:Prop):List AC->List (Bool×CK)->Prop
 | .own l off len::as,(true,_)::r=>match st.at l with
  |some (.arr _ _ _ _ xs)=>(off=0/\len=xs.length)/\jM st K as r
  |some (.Gz _ _ xs)=>(off=0/\len=xs.length)/\jM st K as r
  |_=>False
 |_::as,(false,_)::r=>jM st K as r
 |_,_=>K
def qJ (st:St):(cs:List CK)->List AC->(CKs.den cs->List Nat->Prop)->Prop
 | [],[],K=>K () []
 | .Bp e te _::r, .own l off len::as,K=>match st.at l with
  |some (.Bp e' Rv rows none _)=>if h:e'=e/\Rv=te then (off=0/\len=rows.length)/\qJ st r as λy t=>K ((h.1▸rows:List (List e.den)),y) (l::t) else False
  |_=>False
 |c::r,a::as,K=>Hy (lK st c a) λp=>qJ st r as λy t=>K (p.1,y) (p.2++t)
 |_,_,_=>False
def CV (st:St) (n:Nat) (as:List AC):List (Nat×Nat)->Prop->Prop
 | [],K=>K
 |(k,j)::r,K=>match as[j]? with
  |some (.own l _ _)=>match st.at l with
   |some (.Bp _ _ _ _ (some p))=>match Nat.beq p.1 (Dt false k)&&Nat.blt k 1000 with
    |true=>n<=p.2/\CV st n as r K
    |false=>False
   |_=>False
  |_=>False
def wD (s:MSpec) (fn:Func) (x:Ins.den s.ins) (st:St) (cs:List AC) (P:CKs.den s.outs×IOs.den s.ins->Prop):Prop:=
 Hy (eo T st fn.results.toList) λl=>Hy (SI s st l) λp=>qJ st s.outs (cs++p.1) λr ls=>Hy (Pc st 0 s.ins) λo=>
  match aW (p.2++ls++Qi 0 s.ins)&&Nat.blt s.ins.length 1000&&Nat.blt s.outs.length 1000&&s.Adx with
  |true=>CV st (s.Fg x) (cs++p.1) s.keeps (P (r,o))
  |false=>False
def WB (s:MSpec) (fn:Func) (x:Ins.den s.ins) (st:St) (P:CKs.den s.outs×IOs.den s.ins->Prop):Prop:=
 match s.ptr with
 |none=>wD T s fn x st [] P
 |some p=>match st.at Pn with
  |some (.var tid vs)=>match Nat.beq tid p.1&&Nat.beq vs.length p.2 with
   |true=>Hy (Jm 0 s.ins vs) λcs=>jM st (wD T s fn x st cs P) vs s.ins
   |false=>False
  |_=>False
@[irreducible] def fnMW (s:MSpec) (fn:Func) (x:Ins.den s.ins) (P:CKs.den s.outs×IOs.den s.ins->Prop):Prop:=
 match Nat.blt s.ins.length 1000&&EA s with
 |false=>False
 |true=>Hy fn.body λc=>eK T Γ (DA T.marks fn c) c {kn:= [],st:= {tmps:=bn s (cF 0 s.ins x)++List.replicate (fn.ntmps-(bn s (cF 0 s.ins x)).length) .undef,heap:=s8 s x} } λe w=>match e with
  | .normal=>WB T s fn x w.st P
  | .ret=>WB T s fn x w.st P
  | .exit _=>False
@[irreducible] def fnW (s:Spec) (fn:Func) (x:s.arg.den) (P:s.res.den->Prop):Prop:=
 Hy fn.body λc=>eK T Γ (DA T.marks fn c) c {kn:= [],st:= {tmps:=Tt s.arg x++List.replicate (fn.ntmps-(Tt s.arg x).length) .undef,heap:= []} } λe w=>match e with
  | .normal=>Al6 T s fn P w.st
  | .ret=>Al6 T s fn P w.st
  | .exit _=>False
end Go.Proofs.YtfgfigkbgecfnaaGreat
