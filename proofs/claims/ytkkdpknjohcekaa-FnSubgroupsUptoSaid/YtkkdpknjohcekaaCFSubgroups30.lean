/-
  Part 31 of the proof that the statement FnSubgroups holds.
-/
import Derived.Test.YtkkdpknjohcekaaCFSubgroups29
namespace Go.Proofs.Ytkkdpknjohcekaa
open Go.RowKit
inductive Br (b:Bool) (A B:Prop):Prop
 |mk (t:b=true->A) (f:b=false->B)
inductive Ev {V:Type} (step:V->(V->Prop)->Prop) (v0:V):Prop
 |mk (I:V->Prop) (μ:V->Nat) (h0:I v0) (h: ∀v,I v->step v (λv'=>I v'/\μ v'<μ v))
structure WS where
 kn:List (Nat×Bool)
 st:St
def o9:List (Nat×Bool)->Nat->Option Bool
 | [],_=>none
 |(k,b)::r,t=>if k=t then some b else o9 r t
def xE:List (Nat×Bool)->Nat->List (Nat×Bool)
 | [],_=> []
 |(k,b)::r,t=>if k=t then xE r t else (k,b)::xE r t
def WS.put (w:WS) (dst:Option Tmp) (v:AV):WS:=
 match dst with
 |some d=> {kn:=xE w.kn d,st:=w.st.put (some d) v}
 |none=>w
def Wm (kn:List (Nat×Bool)):Operand->Option Bool
 | .const (.bool b)=>some b
 | .tmp t=>o9 kn t
 |_=>none
def Hf (kn:List (Nat×Bool)) (o:Oper):Option Bool:=
 match o.op with
 | .assign x=>Wm kn x
 | .move x=>Wm kn x
 | .unOp .not _ x=>(Wm kn x).map (!·)
 | .pick c a b=>match Wm kn c with
  |some true=>Wm kn a
  |some false=>Wm kn b
  |none=>none
 |_=>none
def WS.wz (w:WS) (o:Oper) (v:AV):WS:=
 match o.dst,Hf w.kn o with
 |some d,some b=>match (w.st.put (some d) v).get d with
  | .at (.data _ .bool _)=> {kn:=(d,b)::xE w.kn d,st:=w.st.put (some d) v}
  |_=>w.put (some d) v
 |dst,_=>w.put dst v
def WS.to (w:WS) (st:St):WS:= {kn:=w.kn,st:=st}
def brT (w:WS) (t:Nat) (K:Bool->WS->Prop):Prop:=
 match o9 w.kn t with
 |some b=>K b w
 |none=>match w.st.get t with
  | .at (.data _ .bool b)=>Br b (K true {kn:=(t,true)::w.kn,st:=w.st}) (K false {kn:=(t,false)::w.kn,st:=w.st})
  |_=>False
def brO (w:WS) (c:Operand) (K:Bool->WS->Prop):Prop:=
 match c with
 | .tmp t=>brT w t K
 | .const (.bool b)=>K b w
 |_=>False
def Hr {α:Type} (o:Option α) (K:α->Prop):Prop:=match o with|some x=>K x|none=>False
def Al2 (T:Tab) (st:St) (t:TypeId) (x:AV) (l h:Int):Option AV:=
 match x with
 | .at (.data fr (.slice e) xs)=>if (T.elem t).bind T.ty=some e then some (.at (.data fr (.slice e) ((xs.take h.toNat).drop l.toNat))) else none
 | .at (.own k off _)=>match st.at k with
  |some (.arr _ _ e tid _)=>if T.elem t=some tid/\T.ty tid=some e then some (.at (.own k (off+l.toNat) (h.toNat-l.toNat))) else none
  |_=>none
 | .at (.data _ .str s)=>if T.ty t=some .str then some (.at (.data true .str (s.extract l.toNat h.toNat))) else none
 |_=>none
variable (T:Tab) (Γ:Env)
def Aiq (op:BinOp) (t:TypeId) (x y:AV) (K:AV->Prop):Prop:=
 match op,x,y with
 | .quo, .at (.data _ (.int k) a), .at (.data _ (.int k') b)=>if k=k' then b≠0/\K (.at (.data true (.int k) (k.wrap (a.tdiv b)))) else False
 | .rem, .at (.data _ (.int k) a), .at (.data _ (.int k') b)=>if k=k' then b≠0/\K (.at (.data true (.int k) (a.tmod b))) else False
 | .shl, .at (.data _ (.int k) a), .at (.data _ (.int _) b)=> ¬b<0/\K (.at (.data true (.int k) (k.wrap (a*2^(min b.toNat k.bits)))))
 | .shr, .at (.data _ (.int k) a), .at (.data _ (.int _) b)=> ¬b<0/\K (.at (.data true (.int k) (a.fdiv (2^(min b.toNat k.bits)))))
 | .add, .at (.data _ .str a), .at (.data _ .str b)=>a.size+b.size<=4294967296/\K (.at (.data true .str (a++b)))
 |op,x,y=>Hr (Tr T op t x y) K
def Aak (st:St) (t:TypeId) (p:AV) (K:AV->Prop):Prop:=
 match p with
 | .at (.Jv l i)=>Hr (T.ty t) λτ=>match st.at l with
  |some (.arr fr _ e _ xs)=>if e=τ then ∃x,xs[i]?=some x/\K (.at (.data (fr||e.flat) e x)) else False
  |some (.Gx e _ xs)=>if e=τ then ∃x,xs[i]?=some x/\K (if e.Ap then .agg (gf l i 0 e x) else .at ((gf l i 0 e x).headD .undef)) else False
  |some (.Bo _ _ _ none _)=>if τ.Ap then False else K (.at (.sub l i 0))
  |_=>False
 | .at (.data fr (.optr Nv) x)=>Hr (T.ty t) λτ=>if Nv=τ then ∃y,x=some y/\K (.at (.data (fr||Nv.flat) Nv y)) else False
 |p=>Hr (Px T st t p) K
def mj (s:TypeId) (x:AV) (f:Nat) (K:AV->Prop):Prop:=
 match x with
 | .at (.data fr (.optr τ) x)=> ∃y,x=some y/\Hr (Nq T s (.at (.data fr (.ptr τ) y)) f) K
 |x=>Hr (Nq T s x f) K
def xQ (st:St) (x:Operand) (K:AV->Prop) (d:Option AV):Prop:=
 match st.ev x with
 | .at (.data fr (.optr τ) x)=> ∃y,x=some y/\K (.at (.data fr (.ptr τ) y))
 |_=>Hr d K
def OF (st:St) (t:TypeId) (x:AV) (lo hi:Option AV) (K:AV->Prop):Prop:=
 Hr (GD x) λn=>Hr (XL lo 0) λl=>Hr (XL hi n) λh=>(0<=l/\l<=h/\h<=n)/\Hr (Al2 T st t x l h) K
def mA (st:St) (t:TypeId) (x i:AV) (K:AV->Prop):Prop:=
 match x,i with
 | .at (.data fr (.slice e) xs), .at (.data _ (.int _) n)=>if (T.elem t).bind T.ty=some e then ∃x,idx xs n=some x/\K (.at (.data fr (.ptr e) x)) else False
 | .at (.own l off len), .at (.data _ (.int _) n)=>match st.at l with
  |some (.arr _ _ e tid _)=>if T.elem t=some tid/\T.ty tid=some e then (0<=n/\n<len)/\K (.at (.Jv l (off+n.toNat))) else False
  |some (.Gx e tid _)=>if T.elem t=some tid/\T.ty tid=some e then (0<=n/\n<len)/\K (.at (.Jv l (off+n.toNat))) else False
  |some (.Bo _ te _ _ _)=>if T.elem t=some te/\(T.ty te).map Ty.size=some 1 then (0<=n/\n<len)/\K (.at (.Jv l (off+n.toNat))) else False
  |_=>False
 | .at (.sub l i _), .at (.data _ (.int _) n)=>match st.at l with
  |some (.Bo e _ rows none _)=>if ((T.elem t).bind T.ty).map Ty.size=some e.size then (0<=n/\n<(rows.getD i []).length)/\K (.at (.Js l i n.toNat)) else False
  |_=>False
 |_,_=>False
def MB (t:TypeId) (x i:AV) (K:AV->Prop):Prop:=
 match x,i with
 | .at (.data _ .str s), .at (.data _ (.int _) n)=>if T.ty t=some .str then 0<=n/\ ∃b,s[n.toNat]?=some b/\K (.at (.data true (.int .u8) b.toNat)) else False
 |_,_=>False
def xc (st:St) (f:FuncId) (args:List AV) (K:AV->Prop):Prop:=
 Hr (match Γ f with|some (.q s)=>some s|_=>none) λs=>match s.fresh||s.res.flat||args.all (·.settled) with
  |true=>Hr (Ec st s.arg args) λp=> ∃y,s.fn p.2=some y/\K (if s.Gl then .bp (s.fresh||s.res.flat) s.res y else .at (.data (s.fresh||s.res.flat) s.res y))
  |false=>False
def KS (st:St) (v:AV) (args:List AV) (K:AV->Prop):Prop:=
 match v with
 | .at (.data fr (.clo f τ) x)=>match τ.chain with|true=>(match Nat.blt f 1000000000 with|true=>xc Γ st f (args++bB fr τ x) K|false=>xc Γ st (f-1000000000) (bB fr τ x++args) K)|false=>False
 | .at (.clo f Ek)=>xc Γ st f (args++Ek.map λp=> .at (.He p.1 p.2)) K
 |_=>False
def qW (w:WS) (o:Oper) (K:AV->WS->Prop):Prop:=
 match o.op with
 | .pick c a b=>brO w c λt w'=>match t with|true=>K (w'.st.ev a) w'|false=>K (w'.st.ev b) w'
 | .load t a=>Aak T w.st t (w.st.ev a) λv=>K v w
 | .binOp op t x y _=>Aiq T op t (w.st.ev x) (w.st.ev y) λv=>K v w
 | .slice t x lo hi mx=>match mx with
  |none=>OF T w.st t (w.st.ev x) (lo.map w.st.ev) (hi.map w.st.ev) λv=>K v w
  |some _=>False
 | .indexAddr t x i=>mA T w.st t (pU (w.st.ev x)) (w.st.ev i) λv=>K v w
 | .index t x i=>MB T t (w.st.ev x) (w.st.ev i) λv=>K v w
 | .call {callee:= .value (.func f),args, .. } =>xc Γ w.st f (args.toList.map w.st.ev) λv=>K v w
 | .call {callee:= .value (.tmp t),args, .. } =>KS Γ w.st (w.st.get t) (args.toList.map w.st.ev) λv=>K v w
 | .fieldAddr s x f=>mj T s (w.st.ev x) f λv=>K v w
 | .nilCheck x=>xQ w.st x (λv=>K v w) (Fl T Γ w.st o)
 |_=>Hr (Fl T Γ w.st o) λv=>K v w
def OT (st:St) (t:TypeId) (p v:AV) (K:St->Prop):Prop:=
 match p with
 | .at (.Jv l j)=>Hr (T.ty t) λτ=>Hr (settle st v) λq=>match q.2.at l with
  |some (.arr fr tr e tid xs)=>Hr (Fv q.2 τ q.1) λu=>if h:τ=e then j<xs.length/\K (q.2.Jr l (.arr (fr&&u.1) (tr&&(Th st v&&e.tree)) e tid (xs.set j (h▸u.2)))) else False
  |_=>False
 |p=>Hr (Vb T st t p v) K
def SM (st:St) (t:TypeId) (p v:AV) (K:St->Prop):Prop:=
 match p with
 | .at (.Js l i j)=>Hr (T.ty t) λτ=>Hr (settle st v) λq=>match q.2.at l with
  |some (.Bo e te rows none kp)=>Hr (Fv q.2 τ q.1) λu=>if h:τ=e then K (q.2.Jr l (.Bo e te (rows.set i ((rows.getD i []).set j (h▸u.2))) none kp)) else False
  |_=>False
 | .at (.Jv l j)=>Hr (T.ty t) λτ=>match st.at l,v with
  |some (.Bo e te rows out kp), .at (.own m off len)=>match st.at m with
   |some (.arr _ _ e' _ xs)=>if h:e'=e/\(Nat.blt l Bp&&(!Nat.beq m l&&!τ.Ap))=true then
     off=0/\len=xs.length/\(match out with|none=>True|some i=>i=j)/\K (Tp st l j m e te rows (h.1▸xs) (bS j kp))
    else False
   |_=>False
  |_,_=>False
 |_=>False
def BS (st:St) (t:TypeId) (p v:AV) (K:St->Prop):Prop:=match QV st p with
 |true=>SM T st t p v K
 |false=>OT T st t p v K
def nq (st:St) (dst:Nat) (t:TypeId) (x y:Operand) (K:AV->St->Prop):Prop:=
 Hr (T.elem t) λte=>Hr (T.ty te) λe=>Hr (settle st (st.ev y)) λq=>Hr (Fv q.2 (.slice e) q.1) λu=>match q.2.ev x with
  | .at .Lp=>match Nat.blt dst Bp with
   |true=>List.length u.2<=Dn/\K (.at (.own dst 0 (List.length u.2))) ((q.2.new dst (.arr (T.sl||e.flat) T.yC e te [])).new dst (.arr ((T.sl||e.flat)&&(u.1||e.flat)) (T.yC&&(e.flat||(Th st (st.ev y)&&e.tree))) e te u.2))
   |false=>False
  | .at (.own l off len)=>match q.2.at l with
   |some (.arr fr tr e' tid xs)=>if h:e'=e/\tid=te/\Nat.blt l Bp=true then
     off=0/\len=xs.length/\len+List.length u.2<=Dn/\K (.at (.own l 0 (List.length ((h.1▸xs:List e.den)++u.2)))) (q.2.new l (.arr (fr&&(u.1||e.flat)) (tr&&(e.flat||(Th st (st.ev y)&&e.tree))) e te ((h.1▸xs:List e.den)++u.2)))
    else False
   |_=>False
  |_=>False
def sH (st:St) (dst:Nat) (t:TypeId) (x y:Operand) (K:AV->St->Prop):Prop:=
 match x with
 | .tmp tx=>match st.get tx with
  | .at (.sub l i _)=>Hr (T.elem t) λtid=>match st.at l with
   |some (.Bo e te rows none kp)=>match Nat.blt l Bp&&(Nat.blt dst Bp&&!Nat.beq dst l) with
    |true=>nq T ((Pw st l i dst e te tid rows kp).put (some tx) (.at (.own dst 0 (rows.getD i []).length))) dst t x y K
    |false=>False
   |_=>False
  |_=>nq T st dst t x y K
 |_=>nq T st dst t x y K
def Aaq (st:St) (dst:Nat) (t:TypeId) (l c:AV) (K:AV->St->Prop):Prop:=
 match l,c with
 | .at (.data _ (.int _) n), .at (.data _ (.int _) m)=>Hr (T.elem t) λte=>Hr (T.ty te) λe=>match gx e&&Nat.blt dst Bp with
  |true=>(0<=n/\n<Dn+1)/\n=m/\K (.at (.own dst 0 (List.replicate n.toNat e.zero).length)) (st.new dst (.arr (T.sl||e.flat) (T.yC&&e.tree) e te (List.replicate n.toNat e.zero)))
  |false=>False
 |_,_=>False
def MN (st:St) (dst:Nat) (t:TypeId) (l c:AV) (K:AV->St->Prop):Prop:=
 match eo T t with
 |none=>Aaq T st dst t l c K
 |some p=>match l,c with
  | .at (.data _ (.int _) n), .at (.data _ (.int _) m)=>match Nat.blt dst Bp with
   |true=>(0<=n/\n<Dn+1)/\n=m/\K (.at (.own dst 0 (List.replicate n.toNat ([]:List p.2.den)).length)) (Qs st dst dst (.Bo p.2 p.1 (List.replicate n.toNat []) none none))
   |false=>False
  |_,_=>False
def fh (st:St) (dst:Nat) (t:TypeId) (len:Nat) (parts:Array (Nat×Operand)) (K:AV->St->Prop):Prop:=
 match eo T t with
 |none=>Hr (Mf T st dst t len parts) λr=>K r.1 r.2
 |some p=>match parts.toList with
  | [(0,x)]=>match st.ev x with
   | .at (.own m off ln)=>match st.at m with
    |some (.arr _ _ e' _ xs)=>if h:e'=p.2/\(Nat.beq len 1&&(Nat.blt dst Bp&&Nat.blt m Bp))=true then off=0/\ln=xs.length/\K (.at (.own dst 0 1)) (Qs st dst m (.Bo p.2 p.1 [h.1▸xs] none none)) else False
    |_=>False
   |_=>False
  |_=>False
def sJ (st:St) (dst:Nat) (t:TypeId) (x y:Operand) (K:AV->St->Prop):Prop:=
 match eo T t with
 |none=>sH T st dst t x y K
 |some p=>match st.ev x,st.ev y with
  | .at (.own l off len), .at (.own m Aay GC)=>match st.at l,st.at m with
   |some (.Bo e1 te1 A none _),some (.Bo e2 wR B none _)=>
    if h:(e1=p.2/\e2=p.2)/\(decide (te1=p.1)&&decide (wR=p.1)&&(Nat.blt l Bp&&(Nat.blt m Bp&&!Nat.beq m l)))=true then
     (off=0/\len=A.length)/\(Aay=0/\GC=B.length)/\0<B.length/\A.length+B.length<=Dn/\
      K (.at (.own l 0 (List.length ((h.1.1▸A:List (List p.2.den))++(h.1.2▸B:List (List p.2.den)))))) (Qs st l m (.Bo p.2 p.1 ((h.1.1▸A:List (List p.2.den))++(h.1.2▸B:List (List p.2.den))) none none))
    else False
   |_,_=>False
  |_,_=>False
def gm (st:St) (io:Bool) (k:Nat):(c:CK)->AC->(c.den->List (Nat×Loc)->Prop)->Prop
 | .Fe τ, .own l off len,K=>Hr (Dx st τ (.own l off len)) λp=>K p.2 [(Ed false k, .view l)]
 | .Fe τ, .clo g Ek,K=>match cj st (Ek.map (·.1))&&!τ.Ap with
  |true=>Hr (Jp st τ (.clo g Ek)) λp=>K p.2 (views k (Ek.map (·.1)))
  |false=>False
 | .Fe τ, .He l i,K=>match cj st [l]&&!τ.Ap with
  |true=>Hr (Jp st τ (.He l i)) λp=>K p.2 (views k [l])
  |false=>False
 | .Fe τ, .sub l i c,K=>Hr (Dx st τ (.sub l i c)) λp=>K p.2 [(Ed false k, .view l)]
 | .Fe τ,a,K=>match τ.flat||a.settled with
  |true=>Hr (Dx st τ a) λp=>K p.2 []
  |false=>False
 | .row e te, .own l off len,K=>match st.at l with
  |some (.arr _ _ e' Qx xs)=>if h:e'=e/\Qx=te then off=0/\len=xs.length/\K (h.1▸xs:List e.den) [(Ed io k, .row l)] else False
  |_=>False
 | .row e _, .sub l i c,K=>match st.at l with
  |some (.Gx e' _ xs)=>if h:e'= .slice e/\e.flat=true/\io=true/\c=0 then ∃y,xs[i]?=some y/\K (h.1▸y:(Ty.slice e).den) [(Ed io k, .sub l i c)] else False
  |_=>False
 | .row _ _, .Lp,K=>K [] []
 | .Ho e te, .own l off len,K=>match st.at l with
  |some (.Gx e' Qx xs)=>if h:e'=e/\Qx=te then off=0/\len=xs.length/\K (h.1▸xs:List e.den) [(Ed io k, .row l)] else False
  |_=>False
 | .Ho e _, .sub l i c,K=>match st.at l with
  |some (.Gx e' _ xs)=>if h:e'= .slice e/\io=true/\c=0 then ∃y,xs[i]?=some y/\K (h.1▸y:(Ty.slice e).den) [(Ed io k, .sub l i c)] else False
  |_=>False
 | .Ho _ _, .Lp,K=>K [] []
 | .part e te, .own l off len,K=>match st.at l with
  |some (.arr _ _ e' Qx xs)=>if h:e'=e/\Qx=te/\e.flat=true/\io=true then K ((h.1▸xs:List e.den),off,len) [(Ed io k, .row l)] else False
  |_=>False
 | .Bo e te _, .own l off len,K=>match st.at l with
  |some (.Bo e' Qx rows none _)=>if h:e'=e/\Qx=te/\io=false then off=0/\len=rows.length/\K (h.1▸rows:List (List e.den)) [(Ed io k, .row l)] else False
  |_=>False
 |_,_,_=>False
def CH (st:St):(k:Nat)->(cs:List (Bool×CK))->List AC->(Ins.den cs->List (Nat×Loc)->Prop)->Prop
 |_,[],[],K=>K () []
 |k,p::r,a::as,K=>gm st p.1 k p.2 a λx t1=>CH st (k+1) r as λy t2=>K (x,y) (t1++t2)
 |_,_,_,_=>False
def re (st:St):(c:CK)->c.den->AC->(St->Prop)->Prop
 | .row e _,ys, .own l _ len,K=>match st.at l with
  |some (.arr fr tr e' te xs)=>if h:e=e' then (List.length ys=len/\xs.length=len)/\K (st.Jr l (.arr (fr&&e'.flat) (tr&&e'.flat) e' te (h▸ys))) else False
  |_=>False
 | .Ho e _,ys, .own l _ len,K=>match st.at l with
  |some (.Gx e' te xs)=>if h:e=e' then (List.length ys=len/\xs.length=len)/\K (st.Jr l (.Gx e' te (h▸ys))) else False
  |_=>False
 | .row e _,ys, .sub l i _,K=>match st.at l with
  |some (.Gx e' te xs)=>if h: .slice e=e' then ∃y,xs[i]?=some y/\List.length ys=List.length (h▸y:(Ty.slice e).den)/\K (st.Jr l (.Gx e' te (xs.set i (h▸(ys:(Ty.slice e).den))))) else False
  |_=>False
 | .Ho e _,ys, .sub l i _,K=>match st.at l with
  |some (.Gx e' te xs)=>if h: .slice e=e' then ∃y,xs[i]?=some y/\List.length ys=List.length (h▸y:(Ty.slice e).den)/\K (st.Jr l (.Gx e' te (xs.set i (h▸(ys:(Ty.slice e).den))))) else False
  |_=>False
 |_,_, .Lp,K=>K st
 |_,_,_,_=>False
def Abn (st:St) (e:Ty) (ys:List e.den):AC->(St->Prop)->Prop
 | .own l _ _,K=>match st.at l with
  |some (.arr fr tr e' te xs)=>if h:e=e' then List.length ys=xs.length/\K (st.Jr l (.arr fr tr e' te (h▸ys))) else False
  |_=>False
 |_,_=>False
def jw:(cs:List (Bool×CK))->IOs.den cs->List AC->St->(St->Prop)->Prop
 | [],_,_,st,K=>K st
 |(true, .Fe _)::r,x,_::as,st,K=>jw r x as st K
 |(true, .row e te)::r,x,a::as,st,K=>re st (.row e te) x.1 a λst'=>jw r x.2 as st' K
 |(true, .Ho e te)::r,x,a::as,st,K=>re st (.Ho e te) x.1 a λst'=>jw r x.2 as st' K
 |(true, .part e _)::r,x,a::as,st,K=>Abn st e x.1 a λst'=>jw r x.2 as st' K
 |(true, .Bo _ _ _)::r,x,_::as,st,K=>jw r x as st K
 |(false,_)::r,x,_::as,st,K=>jw r x as st K
 |_,_,_,_,_=>False
def vo (H:List (Nat×OB)) (ls:List Nat) (n:Nat):List AV->Prop->Prop
 | [],K=>K
 | .at (.sub l i _)::r,K=>match ls.contains l with
  |true=>(i<n/\i<sn H l)/\vo H ls n r K
  |false=>vo H ls n r K
 |_::r,K=>vo H ls n r K
def KR (st:St) (dst:Option Nat) (s:MSpec) (args:List AV) (K:AV->St->Prop):Prop:=
 Hr (SI st s args) λq=>Hr (ungroup s.Hw q.2.2) λoV=>CH st 0 s.ins (q.2.1++oV) λx tks=>
  match au (tks.map λt=>t.2.Xb)&&zF (Rz s tks (dst.getD 0)) (s.outs.length+(mQ s (dst.getD 0)).length)&&Nat.blt s.outs.length 1000&&Nat.blt s.ins.length 1000&&(Wh s.ins q.2.1&&q.1.all λl=>!((tks.map λt=>t.2.Xb)++Rz s tks (dst.getD 0)).contains l) with
  |true=> ∃p,s.fn x=some p/\jw s.ins p.2 (q.2.1++oV) st λst1=>Hr (Afx s (dst.getD 0) ((bV (Ei (Rz s tks (dst.getD 0))) 0 s.outs p.1).drop s.aJ)) λv=>
    vo (m6 st st1 (dst.getD 0) s q.1 tks p.1).heap (bR st.heap (Rz s tks (dst.getD 0)) tks s.keeps) (s.Fm x) st.tmps
     (K v (mB st (m6 st st1 (dst.getD 0) s q.1 tks p.1) (bR st.heap (Rz s tks (dst.getD 0)) tks s.keeps) (s.Fm x)))
  |false=>False
def opW (w:WS) (o:Oper) (K:AV->WS->Prop):Prop:=
 match o.op with
 | .store t p x=>BS T (Oe T w.st p x) t ((Oe T w.st p x).ev p) ((Oe T w.st p x).ev x) λs=>K .undef (w.to s)
 | .makeSlice t l c=>Hr o.dst λd=>MN T w.st d t (w.st.ev l) (w.st.ev c) λv s=>K v (w.to s)
 | .call {callee:= .builtin .append,args,argTypes} =>match o.dst,args.toList,argTypes.toList with
  |some d,[x,y],[t,t']=>if t=t' then sJ T w.st d t x y λv s=>K v (w.to s) else False
  |_,_,_=>False
 | .assign _=>Hr (evalOp T Γ w.st o) λr=>K r.1 (w.to r.2)
 | .alloc _=>Hr (evalOp T Γ w.st o) λr=>K r.1 (w.to r.2)
 | .box _ _=>Hr (evalOp T Γ w.st o) λr=>K r.1 (w.to r.2)
 | .buildSlice t len parts=>Hr o.dst λd=>fh T w.st d t len parts λv s=>K v (w.to s)
 | .build _ _=>Hr (evalOp T Γ w.st o) λr=>K r.1 (w.to r.2)
 | .makeMap _ _=>Hr (evalOp T Γ w.st o) λr=>K r.1 (w.to r.2)
 | .mapUpdate _ _ _ _=>Hr (evalOp T Γ w.st o) λr=>K r.1 (w.to r.2)
 | .insert _ _ _ _=>Hr (evalOp T Γ w.st o) λr=>K r.1 (w.to r.2)
 | .call {callee:= .builtin .copy, .. } =>Hr (evalOp T Γ w.st o) λr=>K r.1 (w.to r.2)
 | .call {callee:= .builtin .clear, .. } =>Hr (evalOp T Γ w.st o) λr=>K r.1 (w.to r.2)
 | .call {callee:= .value (.func f),args, .. } =>match Γ f with
  |some (.m s)=>KR w.st o.dst s (args.toList.map w.st.ev) λv s'=>K v (w.to s')
  |some (.q s)=>match fI s (args.toList.map w.st.ev) with
   |true=>Hr (Mz args.toList w.st) λst1=>qW T Γ (w.to st1) o K
   |false=>qW T Γ w o K
  |_=>qW T Γ w o K
 |_=>qW T Γ w o K
def AV.Aaf:AV->Bool
 | .at .skip=>true
 |_=>false
def bW (w:WS) (o:Oper) (K:AV->WS->Prop):Prop:=
 match o.op with
 | .buildSlice t len parts=>Hr (bE T w.st t len parts) λv=>K v w
 | .build t parts=>Hr (Xq T w.st t parts) λv=>K v w
 |_=>qW T Γ w o K
def jQ (ops:Array Oper) (w:WS) (o:Oper) (run:(AV->WS->Prop)->WS->Prop) (K:WS->Prop):Prop:=
 match o.guard with
 |none=>run (λv w'=>K (w'.wz o v)) w
 |some (j,want)=>Hr ((ops[j]?).bind (·.dst)) λt=>match (w.st.get t).Aaf with
  |true=>K (w.put o.dst (.at .skip))
  |false=>brT w t λb w'=>match b,want with
   |true,true=>run (λv rE=>K (rE.wz o v)) w'
   |false,false=>run (λv rE=>K (rE.wz o v)) w'
   |_,_=>K (w'.put o.dst (.at .skip))
def Akm (ops:Array Oper):List Oper->WS->(WS->Prop)->Prop
 | [],w,K=>K w
 |o::r,w,K=>jQ ops w o (λk w'=>opW T Γ w' o k) λw'=>Akm ops r w' K
def Aa9 (ops:Array Oper):List Nat->WS->(WS->Prop)->Prop
 | [],w,K=>K w
 |i::r,w,K=>Hr ops[i]? λo=>jQ ops w o (λk w'=>opW T Γ w' o k) λw'=>Aa9 ops r w' K
def lh (ops:Array Oper):List Nat->WS->(WS->Prop)->Prop
 | [],w,K=>K w
 |i::r,w,K=>Hr ops[i]? λo=>jQ ops w o (λk w'=>bW T Γ w' o k) λw'=>lh ops r w' K
def YI:List Nat->(Nat->Prop)->Prop
 | [],_=>True
 | [i],P=>P i
 |i::j::r,P=>P i/\YI (j::r) P
def SZ (ops:Array Oper):Nat->Array Bool->WS->(WS->Prop)->Prop
 |0,Aj,w,K=>match Region.ready .any ops Aj with
  | []=>K w
  |_::_=>False
 |f+1,Aj,w,K=>match Region.ready .any ops Aj with
  | []=>False
  |i::r=>YI (i::r) λk=>Hr ops[k]? λo=>jQ ops w o (λkk w'=>opW T Γ w' o kk) λw'=>SZ ops f (Aj.setIfInBounds k true) w' K
def acV:AC->Type->Type
 | .data _ τ _,R=>τ.den×R
 | .sub _ _ _,R=>Nat×R
 | .Jv _ _,R=>Nat×R
 | .Js _ _ _,R=>Nat×Nat×R
 |_,R=>R
def KH:List AC->Type->Type
 | [],R=>R
 |c::r,R=>acV c (KH r R)
def avV:AV->Type->Type
 | .at a,R=>acV a R
 | .agg cs,R=>KH cs R
 | .bp _ τ _,R=>τ.den×R
 | .Mn _,R=>R
def obV:OB->Type->Type
 | .arr _ _ e _ _,R=>List e.den×R
 | .Gx e _ _,R=>List e.den×R
 | .var _ vs,R=>KH vs R
 | .Bo e _ _ _ none,R=>List (List e.den)×R
 | .Bo e _ _ _ (some _),R=>List (List e.den)×(Nat×R)
 | .Vq v _,R=>(ByteArray->Option v.den)×R
def rC:List AV->Type->Type
 | [],R=>R
 |v::r,R=>avV v (rC r R)
def xq:List (Nat×OB)->Type->Type
 | [],R=>R
 |p::r,R=>obV p.2 (xq r R)
def stV (s:St):Type:=rC s.tmps (xq s.heap Unit)
def PX:(c:AC)-> {R:Type} ->R->acV c R
 | .data _ _ x,_,r=>(x,r)
 | .undef,_,r=>r
 | .skip,_,r=>r
 | .Lp,_,r=>r
 | .Vp,_,r=>r
 | .own _ _ _,_,r=>r
 | .He _ _,_,r=>r
 | .Jv _ i,_,r=>(i,r)
 | .clo _ _,_,r=>r
 | .Kh _,_,r=>r
 | .sub _ i _,_,r=>(i,r)
 | .Js _ i j,_,r=>(i,j,r)
def sE:(l:List AC)-> {R:Type} ->R->KH l R
 | [],_,r=>r
 |c::l,_,r=>PX c (sE l r)
def Agt:(c:AV)-> {R:Type} ->R->avV c R
 | .at a,_,r=>PX a r
 | .agg cs,_,r=>sE cs r
 | .bp _ _ x,_,r=>(x,r)
 | .Mn _,_,r=>r
def Ai8:(b:OB)-> {R:Type} ->R->obV b R
 | .arr _ _ _ _ xs,_,r=>(xs,r)
 | .Gx _ _ xs,_,r=>(xs,r)
 | .var _ vs,_,r=>sE vs r
 | .Bo _ _ rows _ none,_,r=>(rows,r)
 | .Bo _ _ rows _ (some p),_,r=>(rows,p.2,r)
 | .Vq _ m,_,r=>(m,r)
def su:(l:List AV)-> {R:Type} ->R->rC l R
 | [],_,r=>r
 |c::l,_,r=>Agt c (su l r)
def so:(l:List (Nat×OB))-> {R:Type} ->R->xq l R
 | [],_,r=>r
 |p::l,_,r=>Ai8 p.2 (so l r)
def SL (s:St):stV s:=su s.tmps (so s.heap ())
def p9:(c d:AC)-> {R:Type} ->R->Option (acV c R)
 | .data fr τ _, .data Wd Nv x,_,r=>if h:Nv=τ/\Wd=fr then some (h.1▸x,r) else none
 | .undef, .undef,_,r=>some r
 | .skip, .skip,_,r=>some r
 | .Lp, .Lp,_,r=>some r
 | .Vp, .Vp,_,r=>some r
 | .own l _ _, .own l' _ _,_,r=>if l=l' then some r else none
 | .He l i, .He l' i',_,r=>if l=l'/\i=i' then some r else none
 | .Jv l _, .Jv l' i',_,r=>if l=l' then some (i',r) else none
 | .clo f c, .clo f' c',_,r=>if f=f'/\c=c' then some r else none
 | .Kh l, .Kh l',_,r=>if l=l' then some r else none
 | .sub l _ c, .sub l' i' c',_,r=>if l=l'/\c=c' then some (i',r) else none
 | .Js l _ _, .Js l' i' j',_,r=>if l=l' then some (i',j',r) else none
 |_,_,_,_=>none
def Ry:(l m:List AC)-> {R:Type} ->R->Option (KH l R)
 | [],[],_,r=>some r
 |c::l,d::m,_,r=>(Ry l m r).bind λr'=>p9 c d r'
 |_,_,_,_=>none
def ma:(c d:AV)-> {R:Type} ->R->Option (avV c R)
 | .at a, .at b,_,r=>p9 a b r
 | .agg cs, .agg ds,_,r=>Ry cs ds r
 | .bp fr τ _, .bp Wd Nv x,_,r=>if h:Nv=τ/\Wd=fr then some (h.1▸x,r) else none
 |_,_,_,_=>none
def Tb:(b d:OB)-> {R:Type} ->R->Option (obV b R)
 | .arr fr tr e tid _, .arr Wd tr' e' Ux xs,_,r=>if h:e'=e/\Wd=fr/\tr'=tr/\Ux=tid then some (h.1▸xs,r) else none
 | .Gx e tid _, .Gx e' Ux xs,_,r=>if h:e'=e/\Ux=tid then some (h.1▸xs,r) else none
 | .Vq v _, .Vq v' m,_,r=>if h:v'=v then some (h▸m,r) else none
 | .var t vs, .var t' us,_,r=>if t'=t then Ry vs us r else none
 | .Bo e te _ out none, .Bo e' Qx rows ij none,_,r=>if h:e'=e/\Qx=te/\ij=out then some (h.1▸rows,r) else none
 | .Bo e te _ out (some p), .Bo e' Qx rows ij (some p'),_,r=>if h:e'=e/\Qx=te/\ij=out/\p'.1=p.1 then some (h.1▸rows,p'.2,r) else none
 |_,_,_,_=>none
def Ot:(l m:List AV)-> {R:Type} ->R->Option (rC l R)
 | [],[],_,r=>some r
 |c::l,d::m,_,r=>(Ot l m r).bind λr'=>ma c d r'
 |_,_,_,_=>none
def Pz:(l m:List (Nat×OB))-> {R:Type} ->R->Option (xq l R)
 | [],[],_,r=>some r
 |p::l,q::m,_,r=>if q.1=p.1 then (Pz l m r).bind λr'=>Tb p.2 q.2 r' else none
 |_,_,_,_=>none
def jN (s t:St):Option (stV s):=(Pz s.heap t.heap ()).bind λr=>Ot s.tmps t.tmps r
def m4:(c:AC)-> {R:Type} ->acV c R->AC×R
 | .data fr τ _,_,v=>(.data fr τ v.1,v.2)
 | .undef,_,r=>(.undef,r)
 | .skip,_,r=>(.skip,r)
 | .Lp,_,r=>(.Lp,r)
 | .Vp,_,r=>(.Vp,r)
 | .own l off len,_,r=>(.own l off len,r)
 | .He l i,_,r=>(.He l i,r)
 | .Jv l _,_,v=>(.Jv l v.1,v.2)
 | .clo f c,_,r=>(.clo f c,r)
 | .Kh l,_,r=>(.Kh l,r)
 | .sub l _ c,_,v=>(.sub l v.1 c,v.2)
 | .Js l _ _,_,v=>(.Js l v.1 v.2.1,v.2.2)
def aL:(l:List AC)-> {R:Type} ->KH l R->List AC×R
 | [],_,r=>([],r)
 |c::l,_,v=>((m4 c v).1::(aL l (m4 c v).2).1,(aL l (m4 c v).2).2)
def sN:(c:AV)-> {R:Type} ->avV c R->AV×R
 | .at a,_,v=>(.at (m4 a v).1,(m4 a v).2)
 | .agg cs,_,v=>(.agg (aL cs v).1,(aL cs v).2)
 | .bp fr τ _,_,v=>(.bp fr τ v.1,v.2)
 | .Mn l,_,r=>(.Mn l,r)
def uf:(b:OB)-> {R:Type} ->obV b R->OB×R
 | .arr fr tr e tid _,_,v=>(.arr fr tr e tid v.1,v.2)
 | .Gx e tid _,_,v=>(.Gx e tid v.1,v.2)
 | .Vq w _,_,v=>(.Vq w v.1,v.2)
 | .var t vs,_,v=>(.var t (aL vs v).1,(aL vs v).2)
 | .Bo e te _ out none,_,v=>(.Bo e te v.1 out none,v.2)
 | .Bo e te _ out (some p),_,v=>(.Bo e te v.1 out (some (p.1,v.2.1)),v.2.2)
def Wv:(l:List AV)-> {R:Type} ->rC l R->List AV×R
 | [],_,r=>([],r)
 |c::l,_,v=>((sN c v).1::(Wv l (sN c v).2).1,(Wv l (sN c v).2).2)
def ew:(l:List (Nat×OB))-> {R:Type} ->xq l R->List (Nat×OB)×R
 | [],_,r=>([],r)
 |p::l,_,v=>((p.1,(uf p.2 v).1)::(ew l (uf p.2 v).2).1,(ew l (uf p.2 v).2).2)
def jM (s:St) (v:stV s):St:= {tmps:=(Wv s.tmps v).1,heap:=(ew s.heap (Wv s.tmps v).2).1}
def lenOf (H:List (Nat×OB)) (l:Nat):Nat:=match Aw H l with|some (.arr _ _ _ _ xs)=>xs.length|some (.Gx _ _ xs)=>xs.length|some (.Bo _ _ rows _ _)=>rows.length|_=>0
def al (ps:List Nat):List AV->List (Nat×Nat×Nat)
 | []=> []
 | .at (.own l off len)::r=>if ps.contains l then (l,off,len)::al ps r else al ps r
 |_::r=>al ps r
def Akj:List (Nat×Nat×Nat)->Nat->Nat
 | [],_=>0
 |(k,o,_)::r,l=>if k=l then o else Akj r l
def UE:List (Nat×Nat×Nat)->List (Nat×OB)->Nat->Nat
 | [],H,l=>lenOf H l
 |(k,_,n)::r,H,l=>if k=l then n else UE r H l
def gw (B:List (Nat×Nat×Nat)) (H:List (Nat×OB)):AC->AC
 | .own l _ _=> .own l (Akj B l) (UE B H l)
 |c=>c
def St.whole (B:List (Nat×Nat×Nat)) (s:St):St:=s.Kv (gw B s.heap)
def yM (B:List (Nat×Nat×Nat)) (H:List (Nat×OB)) (c:AC) (K:Prop):Prop:=match c with
 | .own l off len=>off=Akj B l/\len=UE B H l/\K
 |_=>K
def dU (B:List (Nat×Nat×Nat)) (H:List (Nat×OB)):List AC->Prop->Prop
 | [],K=>K
 |c::r,K=>yM B H c (dU B H r K)
def QE (B:List (Nat×Nat×Nat)) (H:List (Nat×OB)) (c:AV) (K:Prop):Prop:=match c with
 | .at a=>yM B H a K
 | .agg cs=>dU B H cs K
 | .bp _ _ _=>K
 | .Mn _=>False
def bo (B:List (Nat×Nat×Nat)) (H:List (Nat×OB)):List AV->Prop->Prop
 | [],K=>K
 |c::r,K=>QE B H c (bo B H r K)
def ku (B:List (Nat×Nat×Nat)) (H:List (Nat×OB)):List (Nat×OB)->Prop->Prop
 | [],K=>K
 |p::r,K=>match p.2 with
  | .var _ vs=>dU B H vs (ku B H r K)
  |_=>ku B H r K
def BP (B:List (Nat×Nat×Nat)) (s:St) (K:Prop):Prop:=bo B s.heap s.tmps (ku B s.heap s.heap K)
def AV.Xy:AV->Bool
 | .at (.data _ _ _)=>true
 |_=>false
def Kd (p:Nat->Bool):Nat->List AV->List Bool
 |_,[]=> []
 |i,v::r=>(v.Xy&&p i)::Kd p (i+1) r
def stays (live:Nat->List Nat) (c:Code) (t:Nat):Bool:=!(writes c).contains t&&bQ live c t
def Tt:List Bool->List AV->List AV
 |true::f,_::r=> .undef::Tt f r
 |false::f,v::r=>v::Tt f r
 |_,l=>l
def Vh:List Bool->List AV->List AV->List AV
 |true::f,a::s,_::r=>a::Vh f s r
 |false::f,_::s,v::r=>v::Vh f s r
 |_,_,l=>l
def St.mask (fx:List Bool) (s:St):St:= {tmps:=Tt fx s.tmps,heap:=s.heap}
def St.wm (fx:List Bool) (s0 s:St):St:= {tmps:=Vh fx s0.tmps s.tmps,heap:=s.heap}
def sk (c:AC) (k:AC->Prop):Prop:=match c with
 | .undef=>k .undef
 | .skip=>k .skip
 | .Lp=>k .Lp
 | .Vp=>k .Vp
 | .data fr τ x=>match fr with
  |true=>k (.data true τ x)
  |false=>k (.data false τ x)
 | .own l off len=>k (.own l off len)
 | .He l i=>k (.He l i)
 | .Jv l i=>k (.Jv l i)
 | .clo f c=>k (.clo f c)
 | .Kh l=>k (.Kh l)
 | .sub l i c=>k (.sub l i c)
 | .Js l i c=>k (.Js l i c)
def iY:List AC->(List AC->Prop)->Prop
 | [],k=>k []
 |c::r,k=>sk c λc'=>iY r λr'=>k (c'::r')
def zf (c:AV) (k:AV->Prop):Prop:=match c with
 | .at a=>sk a λa'=>k (.at a')
 | .agg cs=>iY cs λiP=>k (.agg iP)
 | .bp fr τ x=>k (.bp fr τ x)
 | .Mn l=>k (.Mn l)
def iZ:List AV->(List AV->Prop)->Prop
 | [],k=>k []
 |c::r,k=>zf c λc'=>iZ r λr'=>k (c'::r')
def zg (b:OB) (k:OB->Prop):Prop:=match b with
 | .arr fr tr e tid xs=>match fr,tr with
  |true,true=>k (.arr true true e tid xs)
  |true,false=>k (.arr true false e tid xs)
  |false,true=>k (.arr false true e tid xs)
  |false,false=>k (.arr false false e tid xs)
 | .Gx e tid xs=>k (.Gx e tid xs)
 | .var t vs=>iY vs λvs'=>k (.var t vs')
 | .Bo e te rows out kp=>match out,kp with
  |none,none=>k (.Bo e te rows none none)
  |none,some (l,n)=>k (.Bo e te rows none (some (l,n)))
  |some i,none=>k (.Bo e te rows (some i) none)
  |some i,some (l,n)=>k (.Bo e te rows (some i) (some (l,n)))
 | .Vq v m=>k (.Vq v m)
def tq:List (Nat×OB)->(List (Nat×OB)->Prop)->Prop
 | [],k=>k []
 |(l,b)::r,k=>zg b λb'=>tq r λr'=>k ((l,b')::r')
def ar (w:WS) (k:WS->Prop):Prop:=iZ w.st.tmps λt=>tq w.st.heap λh=>k {kn:=w.kn,st:= {tmps:=t,heap:=h} }
def pw (s:St) (k:St->Prop):Prop:=iZ s.tmps λt=>tq s.heap λh=>k {tmps:=t,heap:=h}
def fq:List Bool->(List Bool->Prop)->Prop
 | [],k=>k []
 |true::r,k=>fq r λr'=>k (true::r')
 |false::r,k=>fq r λr'=>k (false::r')
theorem qH {c:AC} {k:AC->Prop} :sk c k↔k c:=by
 cases c<;>simp only [sk]
 split<;>rfl
theorem fo: ∀ {l:List AC} {k:List AC->Prop},iY l k↔k l
 | [],k=>Iff.rfl
 |c::r,k=>by simp only [iY];rw [qH,fo]
theorem EU {c:AV} {k:AV->Prop} :zf c k↔k c:=by
 cases c<;>simp only [zf]
 ·exact qH
 ·exact fo
theorem fp: ∀ {l:List AV} {k:List AV->Prop},iZ l k↔k l
 | [],k=>Iff.rfl
 |c::r,k=>by simp only [iZ];rw [EU,fp]
theorem EV {b:OB} {k:OB->Prop} :zg b k↔k b:=by
 cases b<;>simp only [zg]
 ·split<;>rfl
 ·exact fo
 ·split<;>rfl
theorem mo: ∀ {l:List (Nat×OB)} {k:List (Nat×OB)->Prop},tq l k↔k l
 | [],k=>Iff.rfl
 |(l,b)::r,k=>by simp only [tq];rw [EV,mo]
theorem TQ {s:St} {k:St->Prop} :pw s k=k s:=by
 unfold pw
 exact propext (by rw [fp,mo])
theorem fu: ∀ {l:List Bool} {k:List Bool->Prop},fq l k=k l
 | [],k=>rfl
 |true::r,k=>by simp only [fq];rw [fu]
 |false::r,k=>by simp only [fq];rw [fu]
theorem Nr {w:WS} {k:WS->Prop} :ar w k↔k w:=by
 unfold ar
 rw [fp,mo]
def bx:AC->List (Nat×Nat)
 | .own _ off len=> [(off,len)]
 |_=> []
def bA:AV->List (Nat×Nat)
 | .at a=>bx a
 | .agg cs=>cs.flatMap bx
 |_=> []
def mM:OB->List (Nat×Nat)
 | .var _ vs=>vs.flatMap bx
 |_=> []
def OR (s:St):List (Nat×Nat):=s.tmps.flatMap bA++s.heap.flatMap λp=>mM p.2
def eqW (s0 s:St):Prop:=OR s=OR s0/\Hr (jN s0 s) λv=>v=SL s0
def bI (ops:Array Oper):Nat->Array Bool->WS->(WS->Prop)->Prop
 |0,Aj,w,K=>match Region.ready .any ops Aj with
  | []=>K w
  |_::_=>False
 |f+1,Aj,w,K=>match Region.ready .any ops Aj with
  | []=>False
  |k::_=>Hr ops[k]? λo=>jQ ops w o (λkk w'=>opW T Γ w' o kk) λw'=>bI ops f (Aj.setIfInBounds k true) w' K
def DP (P:List (Nat×Nat×AV×OB)) (ops:Array Oper):Nat->Array Bool->WS->(WS->Prop)->Prop
 |0,Aj,w,K=>match Region.ready .any ops Aj with
  | []=>K w
  |_::_=>False
 |f+1,Aj,w,K=>match Region.ready .any ops Aj with
  | []=>False
  |i::r=>YI (i::r) λk=>Hr ops[k]? λo=>match MW P Γ ops w.st o k with
   |true=>jQ ops w o (λkk w'=>opW T Γ w' o kk) λw'=>DP P ops f (Aj.setIfInBounds k true) w' K
   |false=>False
def yy (ops:Array Oper) (E:List Nat) (Aj:Array Bool) (w:WS):List Nat->Prop->Prop
 | [],K=>K
 |r::R,K=>match sv ops E Aj r with
  |true=>yy ops E Aj w R K
  |false=>(lh T Γ ops [r] w λw'=>Hr ((ops[r]?).bind (·.dst)) λd=>match Nat.blt d w.st.tmps.length with
    |true=>eqW ⟨[w.st.get d],[]⟩ ⟨[w'.st.get d],[]⟩
    |false=>False)/\yy ops E Aj w R K
def sF (ops:Array Oper) (E:List Nat):Nat->Array Bool->WS->(WS->Prop)->Prop
 |0,Aj,w,K=>yy T Γ ops E Aj w E (match Region.ready .any ops Aj with
  | []=>K w
  |_::_=>False)
 |f+1,Aj,w,K=>yy T Γ ops E Aj w E (match Region.ready .any ops Aj with
  | []=>False
  |i::r=>YI (i::r) λk=>Hr ops[k]? λo=>jQ ops w o (λkk w'=>opW T Γ w' o kk) λw'=>sF ops E f (Aj.setIfInBounds k true) w' K)
def NS (E:List Nat) (n:Nat) (L0:Array Bool) (ops:Array Oper) (w:WS) (K:WS->Prop):Prop:=
 match cU ops E L0&&(Nat.ble E.length n&&Nat.ble (n-E.length) 10) with
 |true=>lh T Γ ops E w λw1=>ar w1 λw1=>bI T Γ ops (n-E.length) (Eo E L0) w1 λw0=>ar w0 λw0=>K w0/\sF T Γ ops E (n-E.length) (Eo E L0) w1 λw2=>ar w2 λw2=>eqW w0.st w2.st
 |false=>False
def yS (P:List (Nat×Nat×AV×OB)) (n:Nat) (L0:Array Bool) (ops:Array Oper) (w:WS) (K:WS->Prop):Prop:=
 match (au (P.map (·.1))&&au (P.map (·.2.1)))&&((P.all λa=>pM a.2.1 w.st)&&(Nat.ble P.length n&&Nat.ble (n-P.length) 10)) with
 |true=>Aa9 T Γ ops (P.map (·.1)) w λw1=>ar w1 λw1=>bI T Γ ops (n-P.length) (Eo (P.map (·.1)) L0) w1 λw0=>ar w0 λw0=>K w0/\DP T Γ P ops (n-P.length) (Eo (P.map (·.1)) L0) w1 λw2=>eqW w0.st w2.st
 |false=>NS T Γ (kD ops (List.range ops.size) L0) n L0 ops w K
def jq:Nat:=800000000
def HK (ops:Array Oper):Nat->Array Bool->Bool
 |0,Aj=>(Region.ready .any ops Aj).isEmpty
 |f+1,Aj=>match Region.ready .any ops Aj with
  | [i]=>HK ops f (Aj.setIfInBounds i true)
  |_=>false
def SG (ops:Array Oper) (L0:Array Bool):List Nat:=kD ops (List.range ops.size) L0
def xR (ops:Array Oper):Array Bool:=Eo (Ki ops) (Array.replicate ops.size false)
def Aaz (ops:Array Oper):Bool:=Region.noSelect ops&&(cU ops (SG ops (xR ops)) (xR ops)&&(Nat.ble (SG ops (xR ops)).length (ops.size-(Ki ops).length)&&Nat.ble ((ops.size-(Ki ops).length)-(SG ops (xR ops)).length) 10))
def eqM (fx:List Bool) (s0 s:St):Prop:=eqW (s0.mask fx) (s.mask fx)
def Sq (ops:Array Oper) (t:Nat):Bool:=!Yy ops t
def vD (ops:Array Oper):List Nat:=(ops.toList.filterMap λo=>match o.op with
 | .alloc _=>none
 | .box _ _=>none
 | .assign _=>none
 |_=>o.dst).filter λd=>ops.toList.any λo=>(o.looksAt ops).contains d
def WS.Qc (dead:List Nat) (w:WS):WS:= {kn:=w.kn.filter λp=>!dead.contains p.1,st:=w.st.Qc dead}
def Ab0 (dead E:List Nat) (n:Nat) (L0:Array Bool) (ops:Array Oper) (w:WS) (K:WS->Prop):Prop:=
 match cU ops E L0&&Nat.ble E.length n with
 |true=>lh T Γ ops E w λw1=>ar w1 λw1=>match HK ops (n-E.length) (Eo E L0) with
  |true=>sF T Γ ops E (n-E.length) (Eo E L0) w1 λw2=>K (w2.Qc dead)
  |false=>fq (Kd (Sq ops) 0 w1.st.tmps) λfx=>bI T Γ ops (n-E.length) (Eo E L0) w1 λw0=>ar (w0.Qc dead) λw0=>K w0/\sF T Γ ops E (n-E.length) (Eo E L0) w1 λw2=>ar (w2.Qc dead) λw2=>eqM fx w0.st w2.st
 |false=>False
def sr (ops:Array Oper) (draw:Bool) (w:WS) (K:WS->Prop):Prop:=
 match draw with
 |true=>match cT false Γ ops with
  |true=>lh T Γ ops (kr false Γ ops) w λw'=>Aa9 T Γ ops (Jd false Γ ops) w' K
  |false=>match cT true Γ ops with
   |true=>lh T Γ ops (kr true Γ ops) w λw'=>Aa9 T Γ ops (Jd true Γ ops) w' K
   |false=>match Region.noSelect ops&&Nat.ble (ops.size-(Ki ops).length) 8 with
    |true=>lh T Γ ops (Ki ops) w λw'=>match ki false ops&&!T.marks.contains jq with
     |true=>SZ T Γ ops (ops.size-(Ki ops).length) (Eo (Ki ops) (Array.replicate ops.size false)) w' K
     |false=>bI T Γ ops (ops.size-(Ki ops).length) (Eo (Ki ops) (Array.replicate ops.size false)) w' λw0=>ar w0 λw0=>K w0/\SZ T Γ ops (ops.size-(Ki ops).length) (Eo (Ki ops) (Array.replicate ops.size false)) w' λw1=>eqW w0.st w1.st
    |false=>match Region.noSelect ops with
     |true=>lh T Γ ops (Ki ops) w λw'=>yS T Γ (Zp T ops (Eo (Ki ops) (Array.replicate ops.size false))) (ops.size-(Ki ops).length) (Eo (Ki ops) (Array.replicate ops.size false)) ops w' K
     |false=>False
 |false=>Akm T Γ ops ops.toList w K
def AP (ops:Array Oper) (draw:Bool) (w:WS) (K:WS->Prop):Prop:=
 match T.marks.contains jq&&(vD ops).all (Yy ops) with
 |true=>match draw&&(!(cT false Γ ops||cT true Γ ops)&&Aaz ops) with
  |true=>lh T Γ ops (Ki ops) w λw'=>Ab0 T Γ (vD ops) (SG ops (xR ops)) (ops.size-(Ki ops).length) (xR ops) ops w' K
  |false=>sr T Γ ops draw w λw'=>K (w'.Qc (vD ops))
 |false=>sr T Γ ops draw w K
def dX (live:Nat->List Nat):Code->WS->(Lh->WS->Prop)->Prop
 | .skip,w,Q=>Q .normal w
 | .label _,w,Q=>Q .normal w
 | .region _ ops draw,w,Q=>AP T (AO Γ draw) ops draw {w with st:=w.st.nA ops} λw'=>ar w' (Q .normal)
 | .seq a b,w,Q=>dX live a w λe w'=>match e with
  | .normal=>dX live b w' Q
  | .exit id=>Q (.exit id) w'
  | .ret=>Q .ret w'
 | .cond c a b,w,Q=>brO w c λt w'=>match t with
  |true=>dX live a w' Q
  |false=>dX live b w' Q
 | .block id c,w,Q=>dX live c w λe w'=>match e with
  | .normal=>Q .normal w'
  | .exit UA=>if UA=id then Q .normal w' else Q (.exit UA) w'
  | .ret=>Q .ret w'
 | .loop c,w,Q=>
  pw (w.st.clean (live (Fg c))) λs0=>fq (Kd (stays live c) 0 s0.tmps) λfx=>pw (s0.mask fx) λm=>
  BP (al T.parts s0.tmps) s0 (Ev (V:=stV m) (λv k=>pw ((St.wm fx s0 (jM m v)).whole (al T.parts s0.tmps)) λsb=>dX live c ⟨[],sb⟩ λe w'=>match e with
   | .normal=>pw (w'.st.clean (live (Fg c))) λs1=>BP (al T.parts s0.tmps) s1 (Hr (jN m (s1.mask fx)) k)
   | .exit id=>Q (.exit id) w'
   | .ret=>Q .ret w') (SL m))
 | .exit id,w,Q=>Q (.exit id) w
 | .ret,w,Q=>Q .ret w
 |_,_,_=>False
def Ais (s:Spec) (fn:Func) (P:s.res.den->Prop) (st:St):Prop:=
 Hr (nL T s fn st) λp=>match p.1||!s.fresh with|true=>P p.2|false=>False
def jf (st:St) (K:Prop):List AC->List (Bool×CK)->Prop
 | .own l off len::as,(true,_)::r=>match st.at l with
  |some (.arr _ _ _ _ xs)=>(off=0/\len=xs.length)/\jf st K as r
  |some (.Gx _ _ xs)=>(off=0/\len=xs.length)/\jf st K as r
  |_=>False
 |_::as,(false,_)::r=>jf st K as r
 |_,_=>K
def pP (st:St):(cs:List CK)->List AC->(CKs.den cs->List Nat->Prop)->Prop
 | [],[],K=>K () []
 | .Bo e te _::r, .own l off len::as,K=>match st.at l with
  |some (.Bo e' Qx rows none _)=>if h:e'=e/\Qx=te then (off=0/\len=rows.length)/\pP st r as λy t=>K ((h.1▸rows:List (List e.den)),y) (l::t) else False
  |_=>False
 |c::r,a::as,K=>Hr (kV st c a) λp=>pP st r as λy t=>K (p.1,y) (p.2++t)
 |_,_,_=>False
def zE (st:St) (n:Nat) (as:List AC):List (Nat×Nat)->Prop->Prop
 | [],K=>K
 |(k,j)::r,K=>match as[j]? with
  |some (.own l _ _)=>match st.at l with
   |some (.Bo _ _ _ _ (some p))=>match Nat.beq p.1 (Ed false k)&&Nat.blt k 1000 with
    |true=>n<=p.2/\zE st n as r K
    |false=>False
   |_=>False
  |_=>False
def uE (s:MSpec) (fn:Func) (x:Ins.den s.ins) (st:St) (cs:List AC) (P:CKs.den s.outs×IOs.den s.ins->Prop):Prop:=
 Hr (dA T st fn.results.toList) λl=>Hr (NW s st l) λp=>pP st s.outs (cs++p.1) λr ls=>Hr (Oh st 0 s.ins) λo=>
  match au (p.2++ls++Pl 0 s.ins)&&Nat.blt s.ins.length 1000&&Nat.blt s.outs.length 1000&&s.Aar with
  |true=>zE st (s.Fm x) (cs++p.1) s.keeps (P (r,o))
  |false=>False
def SJ (s:MSpec) (fn:Func) (x:Ins.den s.ins) (st:St) (P:CKs.den s.outs×IOs.den s.ins->Prop):Prop:=
 match s.ptr with
 |none=>uE T s fn x st [] P
 |some p=>match st.at Ov with
  |some (.var tid vs)=>match Nat.beq tid p.1&&Nat.beq vs.length p.2 with
   |true=>Hr (Ix 0 s.ins vs) λcs=>jf st (uE T s fn x st cs P) vs s.ins
   |false=>False
  |_=>False
@[irreducible] def fnMW (s:MSpec) (fn:Func) (x:Ins.den s.ins) (P:CKs.den s.outs×IOs.den s.ins->Prop):Prop:=
 match Nat.blt s.ins.length 1000&&AJ s with
 |false=>False
 |true=>Hr fn.body λc=>dX T Γ (zJ T.marks fn c) c {kn:= [],st:= {tmps:=aG s (bP 0 s.ins x)++List.replicate (fn.ntmps-(aG s (bP 0 s.ins x)).length) .undef,heap:=qQ s x} } λe w=>match e with
  | .normal=>SJ T s fn x w.st P
  | .ret=>SJ T s fn x w.st P
  | .exit _=>False
@[irreducible] def fnW (s:Spec) (fn:Func) (x:s.arg.den) (P:s.res.den->Prop):Prop:=
 Hr fn.body λc=>dX T Γ (zJ T.marks fn c) c {kn:= [],st:= {tmps:=Sw s.arg x++List.replicate (fn.ntmps-(Sw s.arg x).length) .undef,heap:= []} } λe w=>match e with
  | .normal=>Ais T s fn P w.st
  | .ret=>Ais T s fn P w.st
  | .exit _=>False
end Go.Proofs.Ytkkdpknjohcekaa
