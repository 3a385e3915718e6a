/-
  Part 31 of the proof that the statement FnIterativeDeepening holds.
-/
import Derived.Test.YtkkdpknjohcekaaGreatCFIterativeDeepening29
namespace Go.Proofs.YtkkdpknjohcekaaGreat
open Go.RowKit
inductive Br (b:Bool) (A B:Prop):Prop
 |mk (t:b=true->A) (f:b=false->B)
inductive Di {V:Type} (step:V->(V->Prop)->Prop) (v0:V):Prop
 |mk (I:V->Prop) (μ:V->Nat) (h0:I v0) (h: ∀v,I v->step v (λv'=>I v'/\μ v'<μ v))
structure WS where
 kn:List (Nat×Bool)
 st:St
def nG:List (Nat×Bool)->Nat->Option Bool
 | [],_=>none
 |(k,b)::r,t=>if k=t then some b else nG r t
def xm:List (Nat×Bool)->Nat->List (Nat×Bool)
 | [],_=> []
 |(k,b)::r,t=>if k=t then xm r t else (k,b)::xm r t
def WS.put (w:WS) (dst:Option Tmp) (v:AV):WS:=
 match dst with
 |some d=> {kn:=xm w.kn d,st:=w.st.put (some d) v}
 |none=>w
def Wq (kn:List (Nat×Bool)):Operand->Option Bool
 | .const (.bool b)=>some b
 | .tmp t=>nG kn t
 |_=>none
def Hu (kn:List (Nat×Bool)) (o:Oper):Option Bool:=
 match o.op with
 | .assign x=>Wq kn x
 | .move x=>Wq kn x
 | .unOp .not _ x=>(Wq kn x).map (!·)
 | .pick c a b=>match Wq kn c with
  |some true=>Wq kn a
  |some false=>Wq kn b
  |none=>none
 |_=>none
def WS.wa (w:WS) (o:Oper) (v:AV):WS:=
 match o.dst,Hu w.kn o with
 |some d,some b=>match (w.st.put (some d) v).get d with
  | .at (.data _ .bool _)=> {kn:=(d,b)::xm w.kn d,st:=w.st.put (some d) v}
  |_=>w.put (some d) v
 |dst,_=>w.put dst v
def WS.to (w:WS) (st:St):WS:= {kn:=w.kn,st:=st}
def brT (w:WS) (t:Nat) (K:Bool->WS->Prop):Prop:=
 match nG w.kn t with
 |some b=>K b w
 |none=>match w.st.get t with
  | .at (.data _ .bool b)=>Br b (K true {kn:=(t,true)::w.kn,st:=w.st}) (K false {kn:=(t,false)::w.kn,st:=w.st})
  |_=>False
def brO (w:WS) (c:Operand) (K:Bool->WS->Prop):Prop:=
 match c with
 | .tmp t=>brT w t K
 | .const (.bool b)=>K b w
 |_=>False
def Il {α:Type} (o:Option α) (K:α->Prop):Prop:=match o with|some x=>K x|none=>False
def Aj4 (T:Tab) (st:St) (t:TypeId) (x:AV) (l h:Int):Option AV:=
 match x with
 | .at (.data fr (.slice e) xs)=>if (T.elem t).bind T.ty=some e then some (.at (.data fr (.slice e) ((xs.take h.toNat).drop l.toNat))) else none
 | .at (.own k off _)=>match st.at k with
  |some (.arr _ _ e tid _)=>if T.elem t=some tid/\T.ty tid=some e then some (.at (.own k (off+l.toNat) (h.toNat-l.toNat))) else none
  |_=>none
 | .at (.data _ .str s)=>if T.ty t=some .str then some (.at (.data true .str (s.extract l.toNat h.toNat))) else none
 |_=>none
variable (T:Tab) (Γ:Env)
def Agp (op:BinOp) (t:TypeId) (x y:AV) (K:AV->Prop):Prop:=
 match op,x,y with
 | .quo, .at (.data _ (.int k) a), .at (.data _ (.int k') b)=>if k=k' then b≠0/\K (.at (.data true (.int k) (k.wrap (a.tdiv b)))) else False
 | .rem, .at (.data _ (.int k) a), .at (.data _ (.int k') b)=>if k=k' then b≠0/\K (.at (.data true (.int k) (a.tmod b))) else False
 | .shl, .at (.data _ (.int k) a), .at (.data _ (.int _) b)=> ¬b<0/\K (.at (.data true (.int k) (k.wrap (a*2^(min b.toNat k.bits)))))
 | .shr, .at (.data _ (.int k) a), .at (.data _ (.int _) b)=> ¬b<0/\K (.at (.data true (.int k) (a.fdiv (2^(min b.toNat k.bits)))))
 | .add, .at (.data _ .str a), .at (.data _ .str b)=>a.size+b.size<=4294967296/\K (.at (.data true .str (a++b)))
 |op,x,y=>Il (Uf T op t x y) K
def ZL (st:St) (t:TypeId) (p:AV) (K:AV->Prop):Prop:=
 match p with
 | .at (.Ku l i)=>Il (T.ty t) λτ=>match st.at l with
  |some (.arr fr _ e _ xs)=>if e=τ then ∃x,xs[i]?=some x/\K (.at (.data (fr||e.flat) e x)) else False
  |some (.Hf e _ xs)=>if e=τ then ∃x,xs[i]?=some x/\K (if e.Aq then .agg (fV l i 0 e x) else .at ((fV l i 0 e x).headD .undef)) else False
  |some (.Bn _ _ _ none _)=>if τ.Aq then False else K (.at (.sub l i 0))
  |_=>False
 | .at (.data fr (.optr Ov) x)=>Il (T.ty t) λτ=>if Ov=τ then ∃y,x=some y/\K (.at (.data (fr||Ov.flat) Ov y)) else False
 |p=>Il (Qr T st t p) K
def lT (s:TypeId) (x:AV) (f:Nat) (K:AV->Prop):Prop:=
 match x with
 | .at (.data fr (.optr τ) x)=> ∃y,x=some y/\Il (Oj T s (.at (.data fr (.ptr τ) y)) f) K
 |x=>Il (Oj T s x f) K
def xx (st:St) (x:Operand) (K:AV->Prop) (d:Option AV):Prop:=
 match st.ev x with
 | .at (.data fr (.optr τ) x)=> ∃y,x=some y/\K (.at (.data fr (.ptr τ) y))
 |_=>Il d K
def MK (st:St) (t:TypeId) (x:AV) (lo hi:Option AV) (K:AV->Prop):Prop:=
 Il (EE x) λn=>Il (VX lo 0) λl=>Il (VX hi n) λh=>(0<=l/\l<=h/\h<=n)/\Il (Aj4 T st t x l h) K
def m5 (st:St) (t:TypeId) (x i:AV) (K:AV->Prop):Prop:=
 match x,i with
 | .at (.data fr (.slice e) xs), .at (.data _ (.int _) n)=>if (T.elem t).bind T.ty=some e then ∃x,idx xs n=some x/\K (.at (.data fr (.ptr e) x)) else False
 | .at (.own l off len), .at (.data _ (.int _) n)=>match st.at l with
  |some (.arr _ _ e tid _)=>if T.elem t=some tid/\T.ty tid=some e then (0<=n/\n<len)/\K (.at (.Ku l (off+n.toNat))) else False
  |some (.Hf e tid _)=>if T.elem t=some tid/\T.ty tid=some e then (0<=n/\n<len)/\K (.at (.Ku l (off+n.toNat))) else False
  |some (.Bn _ te _ _ _)=>if T.elem t=some te/\(T.ty te).map Ty.size=some 1 then (0<=n/\n<len)/\K (.at (.Ku l (off+n.toNat))) else False
  |_=>False
 | .at (.sub l i _), .at (.data _ (.int _) n)=>match st.at l with
  |some (.Bn e _ rows none _)=>if ((T.elem t).bind T.ty).map Ty.size=some e.size then (0<=n/\n<(rows.getD i []).length)/\K (.at (.Kr l i n.toNat)) else False
  |_=>False
 |_,_=>False
def KA (t:TypeId) (x i:AV) (K:AV->Prop):Prop:=
 match x,i with
 | .at (.data _ .str s), .at (.data _ (.int _) n)=>if T.ty t=some .str then 0<=n/\ ∃b,s[n.toNat]?=some b/\K (.at (.data true (.int .u8) b.toNat)) else False
 |_,_=>False
def wZ (st:St) (f:FuncId) (args:List AV) (K:AV->Prop):Prop:=
 Il (match Γ f with|some (.q s)=>some s|_=>none) λs=>match s.fresh||s.res.flat||args.all (·.settled) with
  |true=>Il (Du st s.arg args) λp=> ∃y,s.fn p.2=some y/\K (if s.Ib then .bw (s.fresh||s.res.flat) s.res y else .at (.data (s.fresh||s.res.flat) s.res y))
  |false=>False
def IV (st:St) (v:AV) (args:List AV) (K:AV->Prop):Prop:=
 match v with
 | .at (.data fr (.clo f τ) x)=>match τ.chain with|true=>(match Nat.blt f 1000000000 with|true=>wZ Γ st f (args++bE fr τ x) K|false=>wZ Γ st (f-1000000000) (bE fr τ x++args) K)|false=>False
 | .at (.clo f Ec)=>wZ Γ st f (args++Ec.map λp=> .at (.Hs p.1 p.2)) K
 |_=>False
def qW (w:WS) (o:Oper) (K:AV->WS->Prop):Prop:=
 match o.op with
 | .pick c a b=>brO w c λt w'=>match t with|true=>K (w'.st.ev a) w'|false=>K (w'.st.ev b) w'
 | .load t a=>ZL T w.st t (w.st.ev a) λv=>K v w
 | .binOp op t x y _=>Agp T op t (w.st.ev x) (w.st.ev y) λv=>K v w
 | .slice t x lo hi mx=>match mx with
  |none=>MK T w.st t (w.st.ev x) (lo.map w.st.ev) (hi.map w.st.ev) λv=>K v w
  |some _=>False
 | .indexAddr t x i=>m5 T w.st t (px (w.st.ev x)) (w.st.ev i) λv=>K v w
 | .index t x i=>KA T t (w.st.ev x) (w.st.ev i) λv=>K v w
 | .call {callee:= .value (.func f),args, .. } =>wZ Γ w.st f (args.toList.map w.st.ev) λv=>K v w
 | .call {callee:= .value (.tmp t),args, .. } =>IV Γ w.st (w.st.get t) (args.toList.map w.st.ev) λv=>K v w
 | .fieldAddr s x f=>lT T s (w.st.ev x) f λv=>K v w
 | .nilCheck x=>xx w.st x (λv=>K v w) (Fh T Γ w.st o)
 |_=>Il (Fh T Γ w.st o) λv=>K v w
def MZ (st:St) (t:TypeId) (p v:AV) (K:St->Prop):Prop:=
 match p with
 | .at (.Ku l j)=>Il (T.ty t) λτ=>Il (settle st v) λq=>match q.2.at l with
  |some (.arr fr tr e tid xs)=>Il (Fw q.2 τ q.1) λu=>if h:τ=e then j<xs.length/\K (q.2.Kq l (.arr (fr&&u.1) (tr&&(Tw st v&&e.tree)) e tid (xs.set j (h▸u.2)))) else False
  |_=>False
 |p=>Il (Vg T st t p v) K
def QO (st:St) (t:TypeId) (p v:AV) (K:St->Prop):Prop:=
 match p with
 | .at (.Kr l i j)=>Il (T.ty t) λτ=>Il (settle st v) λq=>match q.2.at l with
  |some (.Bn e te rows none kp)=>Il (Fw q.2 τ q.1) λu=>if h:τ=e then K (q.2.Kq l (.Bn e te (rows.set i ((rows.getD i []).set j (h▸u.2))) none kp)) else False
  |_=>False
 | .at (.Ku l j)=>Il (T.ty t) λτ=>match st.at l,v with
  |some (.Bn e te rows out kp), .at (.own m off len)=>match st.at m with
   |some (.arr _ _ e' _ xs)=>if h:e'=e/\(Nat.blt l Bl&&(!Nat.beq m l&&!τ.Aq))=true then
     off=0/\len=xs.length/\(match out with|none=>True|some i=>i=j)/\K (Ue st l j m e te rows (h.1▸xs) (bS j kp))
    else False
   |_=>False
  |_,_=>False
 |_=>False
def AG (st:St) (t:TypeId) (p v:AV) (K:St->Prop):Prop:=match OU st p with
 |true=>QO T st t p v K
 |false=>MZ T st t p v K
def mM (st:St) (dst:Nat) (t:TypeId) (x y:Operand) (K:AV->St->Prop):Prop:=
 Il (T.elem t) λte=>Il (T.ty te) λe=>Il (settle st (st.ev y)) λq=>Il (Fw q.2 (.slice e) q.1) λu=>match q.2.ev x with
  | .at .Mo=>match Nat.blt dst Bl with
   |true=>List.length u.2<=Dj/\K (.at (.own dst 0 (List.length u.2))) ((q.2.new dst (.arr (T.vn||e.flat) T.BK e te [])).new dst (.arr ((T.vn||e.flat)&&(u.1||e.flat)) (T.BK&&(e.flat||(Tw st (st.ev y)&&e.tree))) e te u.2))
   |false=>False
  | .at (.own l off len)=>match q.2.at l with
   |some (.arr fr tr e' tid xs)=>if h:e'=e/\tid=te/\Nat.blt l Bl=true then
     off=0/\len=xs.length/\len+List.length u.2<=Dj/\K (.at (.own l 0 (List.length ((h.1▸xs:List e.den)++u.2)))) (q.2.new l (.arr (fr&&(u.1||e.flat)) (tr&&(e.flat||(Tw st (st.ev y)&&e.tree))) e te ((h.1▸xs:List e.den)++u.2)))
    else False
   |_=>False
  |_=>False
def sr (st:St) (dst:Nat) (t:TypeId) (x y:Operand) (K:AV->St->Prop):Prop:=
 match x with
 | .tmp tx=>match st.get tx with
  | .at (.sub l i _)=>Il (T.elem t) λtid=>match st.at l with
   |some (.Bn e te rows none kp)=>match Nat.blt l Bl&&(Nat.blt dst Bl&&!Nat.beq dst l) with
    |true=>mM T ((Qq st l i dst e te tid rows kp).put (some tx) (.at (.own dst 0 (rows.getD i []).length))) dst t x y K
    |false=>False
   |_=>False
  |_=>mM T st dst t x y K
 |_=>mM T st dst t x y K
def ZQ (st:St) (dst:Nat) (t:TypeId) (l c:AV) (K:AV->St->Prop):Prop:=
 match l,c with
 | .at (.data _ (.int _) n), .at (.data _ (.int _) m)=>Il (T.elem t) λte=>Il (T.ty te) λe=>match gh e&&Nat.blt dst Bl with
  |true=>(0<=n/\n<Dj+1)/\n=m/\K (.at (.own dst 0 (List.replicate n.toNat e.zero).length)) (st.new dst (.arr (T.vn||e.flat) (T.BK&&e.tree) e te (List.replicate n.toNat e.zero)))
  |false=>False
 |_,_=>False
def KO (st:St) (dst:Nat) (t:TypeId) (l c:AV) (K:AV->St->Prop):Prop:=
 match eb T t with
 |none=>ZQ T st dst t l c K
 |some p=>match l,c with
  | .at (.data _ (.int _) n), .at (.data _ (.int _) m)=>match Nat.blt dst Bl with
   |true=>(0<=n/\n<Dj+1)/\n=m/\K (.at (.own dst 0 (List.replicate n.toNat ([]:List p.2.den)).length)) (Rn st dst dst (.Bn p.2 p.1 (List.replicate n.toNat []) none none))
   |false=>False
  |_,_=>False
def fa (st:St) (dst:Nat) (t:TypeId) (len:Nat) (parts:Array (Nat×Operand)) (K:AV->St->Prop):Prop:=
 match eb T t with
 |none=>Il (Mx T st dst t len parts) λr=>K r.1 r.2
 |some p=>match parts.toList with
  | [(0,x)]=>match st.ev x with
   | .at (.own m off ln)=>match st.at m with
    |some (.arr _ _ e' _ xs)=>if h:e'=p.2/\(Nat.beq len 1&&(Nat.blt dst Bl&&Nat.blt m Bl))=true then off=0/\ln=xs.length/\K (.at (.own dst 0 1)) (Rn st dst m (.Bn p.2 p.1 [h.1▸xs] none none)) else False
    |_=>False
   |_=>False
  |_=>False
def su (st:St) (dst:Nat) (t:TypeId) (x y:Operand) (K:AV->St->Prop):Prop:=
 match eb T t with
 |none=>sr T st dst t x y K
 |some p=>match st.ev x,st.ev y with
  | .at (.own l off len), .at (.own m ZW tD)=>match st.at l,st.at m with
   |some (.Bn e1 te1 A none _),some (.Bn e2 wA B none _)=>
    if h:(e1=p.2/\e2=p.2)/\(decide (te1=p.1)&&decide (wA=p.1)&&(Nat.blt l Bl&&(Nat.blt m Bl&&!Nat.beq m l)))=true then
     (off=0/\len=A.length)/\(ZW=0/\tD=B.length)/\0<B.length/\A.length+B.length<=Dj/\
      K (.at (.own l 0 (List.length ((h.1.1▸A:List (List p.2.den))++(h.1.2▸B:List (List p.2.den)))))) (Rn st l m (.Bn p.2 p.1 ((h.1.1▸A:List (List p.2.den))++(h.1.2▸B:List (List p.2.den))) none none))
    else False
   |_,_=>False
  |_,_=>False
def fY (st:St) (io:Bool) (k:Nat):(c:CK)->AC->(c.den->List (Nat×Loc)->Prop)->Prop
 | .Eh τ, .own l off len,K=>Il (Dn st τ (.own l off len)) λp=>K p.2 [(Dv false k, .view l)]
 | .Eh τ, .clo g Ec,K=>match ck st (Ec.map (·.1))&&!τ.Aq with
  |true=>Il (Ko st τ (.clo g Ec)) λp=>K p.2 (views k (Ec.map (·.1)))
  |false=>False
 | .Eh τ, .Hs l i,K=>match ck st [l]&&!τ.Aq with
  |true=>Il (Ko st τ (.Hs l i)) λp=>K p.2 (views k [l])
  |false=>False
 | .Eh τ, .sub l i c,K=>Il (Dn st τ (.sub l i c)) λp=>K p.2 [(Dv false k, .view l)]
 | .Eh τ,a,K=>match τ.flat||a.settled with
  |true=>Il (Dn st τ a) λp=>K p.2 []
  |false=>False
 | .row e te, .own l off len,K=>match st.at l with
  |some (.arr _ _ e' Ru xs)=>if h:e'=e/\Ru=te then off=0/\len=xs.length/\K (h.1▸xs:List e.den) [(Dv io k, .row l)] else False
  |_=>False
 | .row e _, .sub l i c,K=>match st.at l with
  |some (.Hf e' _ xs)=>if h:e'= .slice e/\e.flat=true/\io=true/\c=0 then ∃y,xs[i]?=some y/\K (h.1▸y:(Ty.slice e).den) [(Dv io k, .sub l i c)] else False
  |_=>False
 | .row _ _, .Mo,K=>K [] []
 | .Ij e te, .own l off len,K=>match st.at l with
  |some (.Hf e' Ru xs)=>if h:e'=e/\Ru=te then off=0/\len=xs.length/\K (h.1▸xs:List e.den) [(Dv io k, .row l)] else False
  |_=>False
 | .Ij e _, .sub l i c,K=>match st.at l with
  |some (.Hf e' _ xs)=>if h:e'= .slice e/\io=true/\c=0 then ∃y,xs[i]?=some y/\K (h.1▸y:(Ty.slice e).den) [(Dv io k, .sub l i c)] else False
  |_=>False
 | .Ij _ _, .Mo,K=>K [] []
 | .part e te, .own l off len,K=>match st.at l with
  |some (.arr _ _ e' Ru xs)=>if h:e'=e/\Ru=te/\e.flat=true/\io=true then K ((h.1▸xs:List e.den),off,len) [(Dv io k, .row l)] else False
  |_=>False
 | .Bn e te _, .own l off len,K=>match st.at l with
  |some (.Bn e' Ru rows none _)=>if h:e'=e/\Ru=te/\io=false then off=0/\len=rows.length/\K (h.1▸rows:List (List e.den)) [(Dv io k, .row l)] else False
  |_=>False
 |_,_,_=>False
def AQ (st:St):(k:Nat)->(cs:List (Bool×CK))->List AC->(Ins.den cs->List (Nat×Loc)->Prop)->Prop
 |_,[],[],K=>K () []
 |k,p::r,a::as,K=>fY st p.1 k p.2 a λx t1=>AQ st (k+1) r as λy t2=>K (x,y) (t1++t2)
 |_,_,_,_=>False
def qy (st:St):(c:CK)->c.den->AC->(St->Prop)->Prop
 | .row e _,ys, .own l _ len,K=>match st.at l with
  |some (.arr fr tr e' te xs)=>if h:e=e' then (List.length ys=len/\xs.length=len)/\K (st.Kq l (.arr (fr&&e'.flat) (tr&&e'.flat) e' te (h▸ys))) else False
  |_=>False
 | .Ij e _,ys, .own l _ len,K=>match st.at l with
  |some (.Hf e' te xs)=>if h:e=e' then (List.length ys=len/\xs.length=len)/\K (st.Kq l (.Hf e' te (h▸ys))) else False
  |_=>False
 | .row e _,ys, .sub l i _,K=>match st.at l with
  |some (.Hf e' te xs)=>if h: .slice e=e' then ∃y,xs[i]?=some y/\List.length ys=List.length (h▸y:(Ty.slice e).den)/\K (st.Kq l (.Hf e' te (xs.set i (h▸(ys:(Ty.slice e).den))))) else False
  |_=>False
 | .Ij e _,ys, .sub l i _,K=>match st.at l with
  |some (.Hf e' te xs)=>if h: .slice e=e' then ∃y,xs[i]?=some y/\List.length ys=List.length (h▸y:(Ty.slice e).den)/\K (st.Kq l (.Hf e' te (xs.set i (h▸(ys:(Ty.slice e).den))))) else False
  |_=>False
 |_,_, .Mo,K=>K st
 |_,_,_,_=>False
def Aah (st:St) (e:Ty) (ys:List e.den):AC->(St->Prop)->Prop
 | .own l _ _,K=>match st.at l with
  |some (.arr fr tr e' te xs)=>if h:e=e' then List.length ys=xs.length/\K (st.Kq l (.arr fr tr e' te (h▸ys))) else False
  |_=>False
 |_,_=>False
def jb:(cs:List (Bool×CK))->IOs.den cs->List AC->St->(St->Prop)->Prop
 | [],_,_,st,K=>K st
 |(true, .Eh _)::r,x,_::as,st,K=>jb r x as st K
 |(true, .row e te)::r,x,a::as,st,K=>qy st (.row e te) x.1 a λst'=>jb r x.2 as st' K
 |(true, .Ij e te)::r,x,a::as,st,K=>qy st (.Ij e te) x.1 a λst'=>jb r x.2 as st' K
 |(true, .part e _)::r,x,a::as,st,K=>Aah st e x.1 a λst'=>jb r x.2 as st' K
 |(true, .Bn _ _ _)::r,x,_::as,st,K=>jb r x as st K
 |(false,_)::r,x,_::as,st,K=>jb r x as st K
 |_,_,_,_,_=>False
def uS (H:List (Nat×OB)) (ls:List Nat) (n:Nat):List AV->Prop->Prop
 | [],K=>K
 | .at (.sub l i _)::r,K=>match ls.contains l with
  |true=>(i<n/\i<rT H l)/\uS H ls n r K
  |false=>uS H ls n r K
 |_::r,K=>uS H ls n r K
def IU (st:St) (dst:Option Nat) (s:MSpec) (args:List AV) (K:AV->St->Prop):Prop:=
 Il (QF st s args) λq=>Il (ungroup s.Jj q.2.2) λoC=>AQ st 0 s.ins (q.2.1++oC) λx tks=>
  match ar (tks.map λt=>t.2.Xg)&&zb (Sz s tks (dst.getD 0)) (s.outs.length+(mn s (dst.getD 0)).length)&&Nat.blt s.outs.length 1000&&Nat.blt s.ins.length 1000&&(Wm s.ins q.2.1&&q.1.all λl=>!((tks.map λt=>t.2.Xg)++Sz s tks (dst.getD 0)).contains l) with
  |true=> ∃p,s.fn x=some p/\jb s.ins p.2 (q.2.1++oC) st λst1=>Il (Ae9 s (dst.getD 0) ((bX (Ea (Sz s tks (dst.getD 0))) 0 s.outs p.1).drop s.aI)) λv=>
    uS (lG st st1 (dst.getD 0) s q.1 tks p.1).heap (bR st.heap (Sz s tks (dst.getD 0)) tks s.keeps) (s.Ft x) st.tmps
     (K v (m6 st (lG st st1 (dst.getD 0) s q.1 tks p.1) (bR st.heap (Sz s tks (dst.getD 0)) tks s.keeps) (s.Ft x)))
  |false=>False
def opW (w:WS) (o:Oper) (K:AV->WS->Prop):Prop:=
 match o.op with
 | .store t p x=>AG T (Pa T w.st p x) t ((Pa T w.st p x).ev p) ((Pa T w.st p x).ev x) λs=>K .undef (w.to s)
 | .makeSlice t l c=>Il o.dst λd=>KO T w.st d t (w.st.ev l) (w.st.ev c) λv s=>K v (w.to s)
 | .call {callee:= .builtin .append,args,argTypes} =>match o.dst,args.toList,argTypes.toList with
  |some d,[x,y],[t,t']=>if t=t' then su T w.st d t x y λv s=>K v (w.to s) else False
  |_,_,_=>False
 | .assign _=>Il (evalOp T Γ w.st o) λr=>K r.1 (w.to r.2)
 | .alloc _=>Il (evalOp T Γ w.st o) λr=>K r.1 (w.to r.2)
 | .box _ _=>Il (evalOp T Γ w.st o) λr=>K r.1 (w.to r.2)
 | .buildSlice t len parts=>Il o.dst λd=>fa T w.st d t len parts λv s=>K v (w.to s)
 | .build _ _=>Il (evalOp T Γ w.st o) λr=>K r.1 (w.to r.2)
 | .makeMap _ _=>Il (evalOp T Γ w.st o) λr=>K r.1 (w.to r.2)
 | .mapUpdate _ _ _ _=>Il (evalOp T Γ w.st o) λr=>K r.1 (w.to r.2)
 | .insert _ _ _ _=>Il (evalOp T Γ w.st o) λr=>K r.1 (w.to r.2)
 | .call {callee:= .builtin .copy, .. } =>Il (evalOp T Γ w.st o) λr=>K r.1 (w.to r.2)
 | .call {callee:= .builtin .clear, .. } =>Il (evalOp T Γ w.st o) λr=>K r.1 (w.to r.2)
 | .call {callee:= .value (.func f),args, .. } =>match Γ f with
  |some (.m s)=>IU w.st o.dst s (args.toList.map w.st.ev) λv s'=>K v (w.to s')
  |some (.q s)=>match fz s (args.toList.map w.st.ev) with
   |true=>Il (Nu args.toList w.st) λst1=>qW T Γ (w.to st1) o K
   |false=>qW T Γ w o K
  |_=>qW T Γ w o K
 |_=>qW T Γ w o K
def AV.ZH:AV->Bool
 | .at .skip=>true
 |_=>false
def bW (w:WS) (o:Oper) (K:AV->WS->Prop):Prop:=
 match o.op with
 | .buildSlice t len parts=>Il (bG T w.st t len parts) λv=>K v w
 | .build t parts=>Il (Xy T w.st t parts) λv=>K v w
 |_=>qW T Γ w o K
def jx (ops:Array Oper) (w:WS) (o:Oper) (run:(AV->WS->Prop)->WS->Prop) (K:WS->Prop):Prop:=
 match o.guard with
 |none=>run (λv w'=>K (w'.wa o v)) w
 |some (j,want)=>Il ((ops[j]?).bind (·.dst)) λt=>match (w.st.get t).ZH with
  |true=>K (w.put o.dst (.at .skip))
  |false=>brT w t λb w'=>match b,want with
   |true,true=>run (λv qQ=>K (qQ.wa o v)) w'
   |false,false=>run (λv qQ=>K (qQ.wa o v)) w'
   |_,_=>K (w'.put o.dst (.at .skip))
def Aio (ops:Array Oper):List Oper->WS->(WS->Prop)->Prop
 | [],w,K=>K w
 |o::r,w,K=>jx ops w o (λk w'=>opW T Γ w' o k) λw'=>Aio ops r w' K
def YX (ops:Array Oper):List Nat->WS->(WS->Prop)->Prop
 | [],w,K=>K w
 |i::r,w,K=>Il ops[i]? λo=>jx ops w o (λk w'=>opW T Γ w' o k) λw'=>YX ops r w' K
def kS (ops:Array Oper):List Nat->WS->(WS->Prop)->Prop
 | [],w,K=>K w
 |i::r,w,K=>Il ops[i]? λo=>jx ops w o (λk w'=>bW T Γ w' o k) λw'=>kS ops r w' K
def WU:List Nat->(Nat->Prop)->Prop
 | [],_=>True
 | [i],P=>P i
 |i::j::r,P=>P i/\WU (j::r) P
def RH (ops:Array Oper):Nat->Array Bool->WS->(WS->Prop)->Prop
 |0,Ah,w,K=>match Region.ready .any ops Ah with
  | []=>K w
  |_::_=>False
 |f+1,Ah,w,K=>match Region.ready .any ops Ah with
  | []=>False
  |i::r=>WU (i::r) λk=>Il ops[k]? λo=>jx ops w o (λkk w'=>opW T Γ w' o kk) λw'=>RH ops f (Ah.setIfInBounds k true) w' K
def acV:AC->Type->Type
 | .data _ τ _,R=>τ.den×R
 | .sub _ _ _,R=>Nat×R
 | .Ku _ _,R=>Nat×R
 | .Kr _ _ _,R=>Nat×Nat×R
 |_,R=>R
def II:List AC->Type->Type
 | [],R=>R
 |c::r,R=>acV c (II r R)
def avV:AV->Type->Type
 | .at a,R=>acV a R
 | .agg cs,R=>II cs R
 | .bw _ τ _,R=>τ.den×R
 | .Nd _,R=>R
def obV:OB->Type->Type
 | .arr _ _ e _ _,R=>List e.den×R
 | .Hf e _ _,R=>List e.den×R
 | .var _ vs,R=>II vs R
 | .Bn e _ _ _ none,R=>List (List e.den)×R
 | .Bn e _ _ _ (some _),R=>List (List e.den)×(Nat×R)
 | .Vx v _,R=>(ByteArray->Option v.den)×R
def qO:List AV->Type->Type
 | [],R=>R
 |v::r,R=>avV v (qO r R)
def xd:List (Nat×OB)->Type->Type
 | [],R=>R
 |p::r,R=>obV p.2 (xd r R)
def stV (s:St):Type:=qO s.tmps (xd s.heap Unit)
def OE:(c:AC)-> {R:Type} ->R->acV c R
 | .data _ _ x,_,r=>(x,r)
 | .undef,_,r=>r
 | .skip,_,r=>r
 | .Mo,_,r=>r
 | .Vw,_,r=>r
 | .own _ _ _,_,r=>r
 | .Hs _ _,_,r=>r
 | .Ku _ i,_,r=>(i,r)
 | .clo _ _,_,r=>r
 | .Lb _,_,r=>r
 | .sub _ i _,_,r=>(i,r)
 | .Kr _ i j,_,r=>(i,j,r)
def sn:(l:List AC)-> {R:Type} ->R->II l R
 | [],_,r=>r
 |c::l,_,r=>OE c (sn l r)
def Aew:(c:AV)-> {R:Type} ->R->avV c R
 | .at a,_,r=>OE a r
 | .agg cs,_,r=>sn cs r
 | .bw _ _ x,_,r=>(x,r)
 | .Nd _,_,r=>r
def Aga:(b:OB)-> {R:Type} ->R->obV b R
 | .arr _ _ _ _ xs,_,r=>(xs,r)
 | .Hf _ _ xs,_,r=>(xs,r)
 | .var _ vs,_,r=>sn vs r
 | .Bn _ _ rows _ none,_,r=>(rows,r)
 | .Bn _ _ rows _ (some p),_,r=>(rows,p.2,r)
 | .Vx _ m,_,r=>(m,r)
def s8:(l:List AV)-> {R:Type} ->R->qO l R
 | [],_,r=>r
 |c::l,_,r=>Aew c (s8 l r)
def rU:(l:List (Nat×OB))-> {R:Type} ->R->xd l R
 | [],_,r=>r
 |p::l,_,r=>Aga p.2 (rU l r)
def QL (s:St):stV s:=s8 s.tmps (rU s.heap ())
def oK:(c d:AC)-> {R:Type} ->R->Option (acV c R)
 | .data fr τ _, .data Wh Ov x,_,r=>if h:Ov=τ/\Wh=fr then some (h.1▸x,r) else none
 | .undef, .undef,_,r=>some r
 | .skip, .skip,_,r=>some r
 | .Mo, .Mo,_,r=>some r
 | .Vw, .Vw,_,r=>some r
 | .own l _ _, .own l' _ _,_,r=>if l=l' then some r else none
 | .Hs l i, .Hs l' i',_,r=>if l=l'/\i=i' then some r else none
 | .Ku l _, .Ku l' i',_,r=>if l=l' then some (i',r) else none
 | .clo f c, .clo f' c',_,r=>if f=f'/\c=c' then some r else none
 | .Lb l, .Lb l',_,r=>if l=l' then some r else none
 | .sub l _ c, .sub l' i' c',_,r=>if l=l'/\c=c' then some (i',r) else none
 | .Kr l _ _, .Kr l' i' j',_,r=>if l=l' then some (i',j',r) else none
 |_,_,_,_=>none
def Sy:(l m:List AC)-> {R:Type} ->R->Option (II l R)
 | [],[],_,r=>some r
 |c::l,d::m,_,r=>(Sy l m r).bind λr'=>oK c d r'
 |_,_,_,_=>none
def lK:(c d:AV)-> {R:Type} ->R->Option (avV c R)
 | .at a, .at b,_,r=>oK a b r
 | .agg cs, .agg ds,_,r=>Sy cs ds r
 | .bw fr τ _, .bw Wh Ov x,_,r=>if h:Ov=τ/\Wh=fr then some (h.1▸x,r) else none
 |_,_,_,_=>none
def Tr:(b d:OB)-> {R:Type} ->R->Option (obV b R)
 | .arr fr tr e tid _, .arr Wh tr' e' Vd xs,_,r=>if h:e'=e/\Wh=fr/\tr'=tr/\Vd=tid then some (h.1▸xs,r) else none
 | .Hf e tid _, .Hf e' Vd xs,_,r=>if h:e'=e/\Vd=tid then some (h.1▸xs,r) else none
 | .Vx v _, .Vx v' m,_,r=>if h:v'=v then some (h▸m,r) else none
 | .var t vs, .var t' us,_,r=>if t'=t then Sy vs us r else none
 | .Bn e te _ out none, .Bn e' Ru rows gU none,_,r=>if h:e'=e/\Ru=te/\gU=out then some (h.1▸rows,r) else none
 | .Bn e te _ out (some p), .Bn e' Ru rows gU (some p'),_,r=>if h:e'=e/\Ru=te/\gU=out/\p'.1=p.1 then some (h.1▸rows,p'.2,r) else none
 |_,_,_,_=>none
def Pq:(l m:List AV)-> {R:Type} ->R->Option (qO l R)
 | [],[],_,r=>some r
 |c::l,d::m,_,r=>(Pq l m r).bind λr'=>lK c d r'
 |_,_,_,_=>none
def Qs:(l m:List (Nat×OB))-> {R:Type} ->R->Option (xd l R)
 | [],[],_,r=>some r
 |p::l,q::m,_,r=>if q.1=p.1 then (Qs l m r).bind λr'=>Tr p.2 q.2 r' else none
 |_,_,_,_=>none
def jv (s t:St):Option (stV s):=(Qs s.heap t.heap ()).bind λr=>Pq s.tmps t.tmps r
def lF:(c:AC)-> {R:Type} ->acV c R->AC×R
 | .data fr τ _,_,v=>(.data fr τ v.1,v.2)
 | .undef,_,r=>(.undef,r)
 | .skip,_,r=>(.skip,r)
 | .Mo,_,r=>(.Mo,r)
 | .Vw,_,r=>(.Vw,r)
 | .own l off len,_,r=>(.own l off len,r)
 | .Hs l i,_,r=>(.Hs l i,r)
 | .Ku l _,_,v=>(.Ku l v.1,v.2)
 | .clo f c,_,r=>(.clo f c,r)
 | .Lb l,_,r=>(.Lb l,r)
 | .sub l _ c,_,v=>(.sub l v.1 c,v.2)
 | .Kr l _ _,_,v=>(.Kr l v.1 v.2.1,v.2.2)
def aK:(l:List AC)-> {R:Type} ->II l R->List AC×R
 | [],_,r=>([],r)
 |c::l,_,v=>((lF c v).1::(aK l (lF c v).2).1,(aK l (lF c v).2).2)
def sy:(c:AV)-> {R:Type} ->avV c R->AV×R
 | .at a,_,v=>(.at (lF a v).1,(lF a v).2)
 | .agg cs,_,v=>(.agg (aK cs v).1,(aK cs v).2)
 | .bw fr τ _,_,v=>(.bw fr τ v.1,v.2)
 | .Nd l,_,r=>(.Nd l,r)
def tT:(b:OB)-> {R:Type} ->obV b R->OB×R
 | .arr fr tr e tid _,_,v=>(.arr fr tr e tid v.1,v.2)
 | .Hf e tid _,_,v=>(.Hf e tid v.1,v.2)
 | .Vx w _,_,v=>(.Vx w v.1,v.2)
 | .var t vs,_,v=>(.var t (aK vs v).1,(aK vs v).2)
 | .Bn e te _ out none,_,v=>(.Bn e te v.1 out none,v.2)
 | .Bn e te _ out (some p),_,v=>(.Bn e te v.1 out (some (p.1,v.2.1)),v.2.2)
def Xb:(l:List AV)-> {R:Type} ->qO l R->List AV×R
 | [],_,r=>([],r)
 |c::l,_,v=>((sy c v).1::(Xb l (sy c v).2).1,(Xb l (sy c v).2).2)
def ee:(l:List (Nat×OB))-> {R:Type} ->xd l R->List (Nat×OB)×R
 | [],_,r=>([],r)
 |p::l,_,v=>((p.1,(tT p.2 v).1)::(ee l (tT p.2 v).2).1,(ee l (tT p.2 v).2).2)
def ju (s:St) (v:stV s):St:= {tmps:=(Xb s.tmps v).1,heap:=(ee s.heap (Xb s.tmps v).2).1}
def lenOf (H:List (Nat×OB)) (l:Nat):Nat:=match Av H l with|some (.arr _ _ _ _ xs)=>xs.length|some (.Hf _ _ xs)=>xs.length|some (.Bn _ _ rows _ _)=>rows.length|_=>0
def ak (ps:List Nat):List AV->List (Nat×Nat×Nat)
 | []=> []
 | .at (.own l off len)::r=>if ps.contains l then (l,off,len)::ak ps r else ak ps r
 |_::r=>ak ps r
def Aim:List (Nat×Nat×Nat)->Nat->Nat
 | [],_=>0
 |(k,o,_)::r,l=>if k=l then o else Aim r l
def SM:List (Nat×Nat×Nat)->List (Nat×OB)->Nat->Nat
 | [],H,l=>lenOf H l
 |(k,_,n)::r,H,l=>if k=l then n else SM r H l
def gg (B:List (Nat×Nat×Nat)) (H:List (Nat×OB)):AC->AC
 | .own l _ _=> .own l (Aim B l) (SM B H l)
 |c=>c
def St.whole (B:List (Nat×Nat×Nat)) (s:St):St:=s.Ln (gg B s.heap)
def yj (B:List (Nat×Nat×Nat)) (H:List (Nat×OB)) (c:AC) (K:Prop):Prop:=match c with
 | .own l off len=>off=Aim B l/\len=SM B H l/\K
 |_=>K
def dL (B:List (Nat×Nat×Nat)) (H:List (Nat×OB)):List AC->Prop->Prop
 | [],K=>K
 |c::r,K=>yj B H c (dL B H r K)
def OG (B:List (Nat×Nat×Nat)) (H:List (Nat×OB)) (c:AV) (K:Prop):Prop:=match c with
 | .at a=>yj B H a K
 | .agg cs=>dL B H cs K
 | .bw _ _ _=>K
 | .Nd _=>False
def bu (B:List (Nat×Nat×Nat)) (H:List (Nat×OB)):List AV->Prop->Prop
 | [],K=>K
 |c::r,K=>OG B H c (bu B H r K)
def jR (B:List (Nat×Nat×Nat)) (H:List (Nat×OB)):List (Nat×OB)->Prop->Prop
 | [],K=>K
 |p::r,K=>match p.2 with
  | .var _ vs=>dL B H vs (jR B H r K)
  |_=>jR B H r K
def AE (B:List (Nat×Nat×Nat)) (s:St) (K:Prop):Prop:=bu B s.heap s.tmps (jR B s.heap s.heap K)
def AV.Yi:AV->Bool
 | .at (.data _ _ _)=>true
 |_=>false
def La (p:Nat->Bool):Nat->List AV->List Bool
 |_,[]=> []
 |i,v::r=>(v.Yi&&p i)::La p (i+1) r
def stays (live:Nat->List Nat) (c:Code) (t:Nat):Bool:=!(writes c).contains t&&bQ live c t
def Uh:List Bool->List AV->List AV
 |true::f,_::r=> .undef::Uh f r
 |false::f,v::r=>v::Uh f r
 |_,l=>l
def Vo:List Bool->List AV->List AV->List AV
 |true::f,a::s,_::r=>a::Vo f s r
 |false::f,_::s,v::r=>v::Vo f s r
 |_,_,l=>l
def St.mask (fx:List Bool) (s:St):St:= {tmps:=Uh fx s.tmps,heap:=s.heap}
def St.vT (fx:List Bool) (s0 s:St):St:= {tmps:=Vo fx s0.tmps s.tmps,heap:=s.heap}
def rQ (c:AC) (k:AC->Prop):Prop:=match c with
 | .undef=>k .undef
 | .skip=>k .skip
 | .Mo=>k .Mo
 | .Vw=>k .Vw
 | .data fr τ x=>match fr with
  |true=>k (.data true τ x)
  |false=>k (.data false τ x)
 | .own l off len=>k (.own l off len)
 | .Hs l i=>k (.Hs l i)
 | .Ku l i=>k (.Ku l i)
 | .clo f c=>k (.clo f c)
 | .Lb l=>k (.Lb l)
 | .sub l i c=>k (.sub l i c)
 | .Kr l i c=>k (.Kr l i c)
def iJ:List AC->(List AC->Prop)->Prop
 | [],k=>k []
 |c::r,k=>rQ c λc'=>iJ r λr'=>k (c'::r')
def yH (c:AV) (k:AV->Prop):Prop:=match c with
 | .at a=>rQ a λa'=>k (.at a')
 | .agg cs=>iJ cs λiB=>k (.agg iB)
 | .bw fr τ x=>k (.bw fr τ x)
 | .Nd l=>k (.Nd l)
def iK:List AV->(List AV->Prop)->Prop
 | [],k=>k []
 |c::r,k=>yH c λc'=>iK r λr'=>k (c'::r')
def yI (b:OB) (k:OB->Prop):Prop:=match b with
 | .arr fr tr e tid xs=>match fr,tr with
  |true,true=>k (.arr true true e tid xs)
  |true,false=>k (.arr true false e tid xs)
  |false,true=>k (.arr false true e tid xs)
  |false,false=>k (.arr false false e tid xs)
 | .Hf e tid xs=>k (.Hf e tid xs)
 | .var t vs=>iJ vs λvs'=>k (.var t vs')
 | .Bn e te rows out kp=>match out,kp with
  |none,none=>k (.Bn e te rows none none)
  |none,some (l,n)=>k (.Bn e te rows none (some (l,n)))
  |some i,none=>k (.Bn e te rows (some i) none)
  |some i,some (l,n)=>k (.Bn e te rows (some i) (some (l,n)))
 | .Vx v m=>k (.Vx v m)
def sQ:List (Nat×OB)->(List (Nat×OB)->Prop)->Prop
 | [],k=>k []
 |(l,b)::r,k=>yI b λb'=>sQ r λr'=>k ((l,b')::r')
def ao (w:WS) (k:WS->Prop):Prop:=iK w.st.tmps λt=>sQ w.st.heap λh=>k {kn:=w.kn,st:= {tmps:=t,heap:=h} }
def oW (s:St) (k:St->Prop):Prop:=iK s.tmps λt=>sQ s.heap λh=>k {tmps:=t,heap:=h}
def fi:List Bool->(List Bool->Prop)->Prop
 | [],k=>k []
 |true::r,k=>fi r λr'=>k (true::r')
 |false::r,k=>fi r λr'=>k (false::r')
theorem q8 {c:AC} {k:AC->Prop} :rQ c k↔k c:=by
 cases c<;>simp only [rQ]
 split<;>rfl
theorem fg: ∀ {l:List AC} {k:List AC->Prop},iJ l k↔k l
 | [],k=>Iff.rfl
 |c::r,k=>by simp only [iJ];rw [q8,fg]
theorem DB {c:AV} {k:AV->Prop} :yH c k↔k c:=by
 cases c<;>simp only [yH]
 ·exact q8
 ·exact fg
theorem fh: ∀ {l:List AV} {k:List AV->Prop},iK l k↔k l
 | [],k=>Iff.rfl
 |c::r,k=>by simp only [iK];rw [DB,fh]
theorem DC {b:OB} {k:OB->Prop} :yI b k↔k b:=by
 cases b<;>simp only [yI]
 ·split<;>rfl
 ·exact fg
 ·split<;>rfl
theorem lV: ∀ {l:List (Nat×OB)} {k:List (Nat×OB)->Prop},sQ l k↔k l
 | [],k=>Iff.rfl
 |(l,b)::r,k=>by simp only [sQ];rw [DC,lV]
theorem RX {s:St} {k:St->Prop} :oW s k=k s:=by
 unfold oW
 exact propext (by rw [fh,lV])
theorem fj: ∀ {l:List Bool} {k:List Bool->Prop},fi l k=k l
 | [],k=>rfl
 |true::r,k=>by simp only [fi];rw [fj]
 |false::r,k=>by simp only [fi];rw [fj]
theorem Ok {w:WS} {k:WS->Prop} :ao w k↔k w:=by
 unfold ao
 rw [fh,lV]
def bB:AC->List (Nat×Nat)
 | .own _ off len=> [(off,len)]
 |_=> []
def bD:AV->List (Nat×Nat)
 | .at a=>bB a
 | .agg cs=>cs.flatMap bB
 |_=> []
def me:OB->List (Nat×Nat)
 | .var _ vs=>vs.flatMap bB
 |_=> []
def MW (s:St):List (Nat×Nat):=s.tmps.flatMap bD++s.heap.flatMap λp=>me p.2
def eqW (s0 s:St):Prop:=MW s=MW s0/\Il (jv s0 s) λv=>v=QL s0
def bK (ops:Array Oper):Nat->Array Bool->WS->(WS->Prop)->Prop
 |0,Ah,w,K=>match Region.ready .any ops Ah with
  | []=>K w
  |_::_=>False
 |f+1,Ah,w,K=>match Region.ready .any ops Ah with
  | []=>False
  |k::_=>Il ops[k]? λo=>jx ops w o (λkk w'=>opW T Γ w' o kk) λw'=>bK ops f (Ah.setIfInBounds k true) w' K
def BV (P:List (Nat×Nat×AV×OB)) (ops:Array Oper):Nat->Array Bool->WS->(WS->Prop)->Prop
 |0,Ah,w,K=>match Region.ready .any ops Ah with
  | []=>K w
  |_::_=>False
 |f+1,Ah,w,K=>match Region.ready .any ops Ah with
  | []=>False
  |i::r=>WU (i::r) λk=>Il ops[k]? λo=>match KU P Γ ops w.st o k with
   |true=>jx ops w o (λkk w'=>opW T Γ w' o kk) λw'=>BV P ops f (Ah.setIfInBounds k true) w' K
   |false=>False
def xY (ops:Array Oper) (E:List Nat) (Ah:Array Bool) (w:WS):List Nat->Prop->Prop
 | [],K=>K
 |r::R,K=>match sd ops E Ah r with
  |true=>xY ops E Ah w R K
  |false=>(kS T Γ ops [r] w λw'=>Il ((ops[r]?).bind (·.dst)) λd=>match Nat.blt d w.st.tmps.length with
    |true=>eqW ⟨[w.st.get d],[]⟩ ⟨[w'.st.get d],[]⟩
    |false=>False)/\xY ops E Ah w R K
def so (ops:Array Oper) (E:List Nat):Nat->Array Bool->WS->(WS->Prop)->Prop
 |0,Ah,w,K=>xY T Γ ops E Ah w E (match Region.ready .any ops Ah with
  | []=>K w
  |_::_=>False)
 |f+1,Ah,w,K=>xY T Γ ops E Ah w E (match Region.ready .any ops Ah with
  | []=>False
  |i::r=>WU (i::r) λk=>Il ops[k]? λo=>jx ops w o (λkk w'=>opW T Γ w' o kk) λw'=>so ops E f (Ah.setIfInBounds k true) w' K)
def LX (E:List Nat) (n:Nat) (L0:Array Bool) (ops:Array Oper) (w:WS) (K:WS->Prop):Prop:=
 match cQ ops E L0&&(Nat.ble E.length n&&Nat.ble (n-E.length) 10) with
 |true=>kS T Γ ops E w λw1=>ao w1 λw1=>bK T Γ ops (n-E.length) (Ek E L0) w1 λw0=>ao w0 λw0=>K w0/\so T Γ ops E (n-E.length) (Ek E L0) w1 λw2=>ao w2 λw2=>eqW w0.st w2.st
 |false=>False
def yr (P:List (Nat×Nat×AV×OB)) (n:Nat) (L0:Array Bool) (ops:Array Oper) (w:WS) (K:WS->Prop):Prop:=
 match (ar (P.map (·.1))&&ar (P.map (·.2.1)))&&((P.all λa=>pk a.2.1 w.st)&&(Nat.ble P.length n&&Nat.ble (n-P.length) 10)) with
 |true=>YX T Γ ops (P.map (·.1)) w λw1=>ao w1 λw1=>bK T Γ ops (n-P.length) (Ek (P.map (·.1)) L0) w1 λw0=>ao w0 λw0=>K w0/\BV T Γ P ops (n-P.length) (Ek (P.map (·.1)) L0) w1 λw2=>eqW w0.st w2.st
 |false=>LX T Γ (kc ops (List.range ops.size) L0) n L0 ops w K
def j8:Nat:=800000000
def FI (ops:Array Oper):Nat->Array Bool->Bool
 |0,Ah=>(Region.ready .any ops Ah).isEmpty
 |f+1,Ah=>match Region.ready .any ops Ah with
  | [i]=>FI ops f (Ah.setIfInBounds i true)
  |_=>false
def QE (ops:Array Oper) (L0:Array Bool):List Nat:=kc ops (List.range ops.size) L0
def xy (ops:Array Oper):Array Bool:=Ek (Lc ops) (Array.replicate ops.size false)
def ZX (ops:Array Oper):Bool:=Region.noSelect ops&&(cQ ops (QE ops (xy ops)) (xy ops)&&(Nat.ble (QE ops (xy ops)).length (ops.size-(Lc ops).length)&&Nat.ble ((ops.size-(Lc ops).length)-(QE ops (xy ops)).length) 10))
def eqM (fx:List Bool) (s0 s:St):Prop:=eqW (s0.mask fx) (s.mask fx)
def Th (ops:Array Oper) (t:Nat):Bool:=!Zf ops t
def uX (ops:Array Oper):List Nat:=(ops.toList.filterMap λo=>match o.op with
 | .alloc _=>none
 | .box _ _=>none
 | .assign _=>none
 |_=>o.dst).filter λd=>ops.toList.any λo=>(o.looksAt ops).contains d
def WS.Qw (dead:List Nat) (w:WS):WS:= {kn:=w.kn.filter λp=>!dead.contains p.1,st:=w.st.Qw dead}
def ZY (dead E:List Nat) (n:Nat) (L0:Array Bool) (ops:Array Oper) (w:WS) (K:WS->Prop):Prop:=
 match cQ ops E L0&&Nat.ble E.length n with
 |true=>kS T Γ ops E w λw1=>ao w1 λw1=>match FI ops (n-E.length) (Ek E L0) with
  |true=>so T Γ ops E (n-E.length) (Ek E L0) w1 λw2=>K (w2.Qw dead)
  |false=>fi (La (Th ops) 0 w1.st.tmps) λfx=>bK T Γ ops (n-E.length) (Ek E L0) w1 λw0=>ao (w0.Qw dead) λw0=>K w0/\so T Γ ops E (n-E.length) (Ek E L0) w1 λw2=>ao (w2.Qw dead) λw2=>eqM fx w0.st w2.st
 |false=>False
def s5 (ops:Array Oper) (draw:Bool) (w:WS) (K:WS->Prop):Prop:=
 match draw with
 |true=>match cP false Γ ops with
  |true=>kS T Γ ops (jQ false Γ ops) w λw'=>YX T Γ ops (Kd false Γ ops) w' K
  |false=>match cP true Γ ops with
   |true=>kS T Γ ops (jQ true Γ ops) w λw'=>YX T Γ ops (Kd true Γ ops) w' K
   |false=>match Region.noSelect ops&&Nat.ble (ops.size-(Lc ops).length) 8 with
    |true=>kS T Γ ops (Lc ops) w λw'=>match jN false ops&&!T.marks.contains j8 with
     |true=>RH T Γ ops (ops.size-(Lc ops).length) (Ek (Lc ops) (Array.replicate ops.size false)) w' K
     |false=>bK T Γ ops (ops.size-(Lc ops).length) (Ek (Lc ops) (Array.replicate ops.size false)) w' λw0=>ao w0 λw0=>K w0/\RH T Γ ops (ops.size-(Lc ops).length) (Ek (Lc ops) (Array.replicate ops.size false)) w' λw1=>eqW w0.st w1.st
    |false=>match Region.noSelect ops with
     |true=>kS T Γ ops (Lc ops) w λw'=>yr T Γ (Zq T ops (Ek (Lc ops) (Array.replicate ops.size false))) (ops.size-(Lc ops).length) (Ek (Lc ops) (Array.replicate ops.size false)) ops w' K
     |false=>False
 |false=>Aio T Γ ops ops.toList w K
def zI (ops:Array Oper) (draw:Bool) (w:WS) (K:WS->Prop):Prop:=
 match T.marks.contains j8&&(uX ops).all (Zf ops) with
 |true=>match draw&&(!(cP false Γ ops||cP true Γ ops)&&ZX ops) with
  |true=>kS T Γ ops (Lc ops) w λw'=>ZY T Γ (uX ops) (QE ops (xy ops)) (ops.size-(Lc ops).length) (xy ops) ops w' K
  |false=>s5 T Γ ops draw w λw'=>K (w'.Qw (uX ops))
 |false=>s5 T Γ ops draw w K
def dP (live:Nat->List Nat):Code->WS->(Lz->WS->Prop)->Prop
 | .skip,w,Q=>Q .normal w
 | .label _,w,Q=>Q .normal w
 | .region _ ops draw,w,Q=>zI T (zH Γ draw) ops draw {w with st:=w.st.mU ops} λw'=>ao w' (Q .normal)
 | .seq a b,w,Q=>dP live a w λe w'=>match e with
  | .normal=>dP live b w' Q
  | .exit id=>Q (.exit id) w'
  | .ret=>Q .ret w'
 | .cond c a b,w,Q=>brO w c λt w'=>match t with
  |true=>dP live a w' Q
  |false=>dP live b w' Q
 | .block id c,w,Q=>dP live c w λe w'=>match e with
  | .normal=>Q .normal w'
  | .exit SJ=>if SJ=id then Q .normal w' else Q (.exit SJ) w'
  | .ret=>Q .ret w'
 | .loop c,w,Q=>
  oW (w.st.clean (live (Fb c))) λs0=>fi (La (stays live c) 0 s0.tmps) λfx=>oW (s0.mask fx) λm=>
  AE (ak T.parts s0.tmps) s0 (Di (V:=stV m) (λv k=>oW ((St.vT fx s0 (ju m v)).whole (ak T.parts s0.tmps)) λsb=>dP live c ⟨[],sb⟩ λe w'=>match e with
   | .normal=>oW (w'.st.clean (live (Fb c))) λs1=>AE (ak T.parts s0.tmps) s1 (Il (jv m (s1.mask fx)) k)
   | .exit id=>Q (.exit id) w'
   | .ret=>Q .ret w') (QL m))
 | .exit id,w,Q=>Q (.exit id) w
 | .ret,w,Q=>Q .ret w
 |_,_,_=>False
def Agr (s:Spec) (fn:Func) (P:s.res.den->Prop) (st:St):Prop:=
 Il (nh T s fn st) λp=>match p.1||!s.fresh with|true=>P p.2|false=>False
def iY (st:St) (K:Prop):List AC->List (Bool×CK)->Prop
 | .own l off len::as,(true,_)::r=>match st.at l with
  |some (.arr _ _ _ _ xs)=>(off=0/\len=xs.length)/\iY st K as r
  |some (.Hf _ _ xs)=>(off=0/\len=xs.length)/\iY st K as r
  |_=>False
 |_::as,(false,_)::r=>iY st K as r
 |_,_=>K
def po (st:St):(cs:List CK)->List AC->(CKs.den cs->List Nat->Prop)->Prop
 | [],[],K=>K () []
 | .Bn e te _::r, .own l off len::as,K=>match st.at l with
  |some (.Bn e' Ru rows none _)=>if h:e'=e/\Ru=te then (off=0/\len=rows.length)/\po st r as λy t=>K ((h.1▸rows:List (List e.den)),y) (l::t) else False
  |_=>False
 |c::r,a::as,K=>Il (ky st c a) λp=>po st r as λy t=>K (p.1,y) (p.2++t)
 |_,_,_=>False
def za (st:St) (n:Nat) (as:List AC):List (Nat×Nat)->Prop->Prop
 | [],K=>K
 |(k,j)::r,K=>match as[j]? with
  |some (.own l _ _)=>match st.at l with
   |some (.Bn _ _ _ _ (some p))=>match Nat.beq p.1 (Dv false k)&&Nat.blt k 1000 with
    |true=>n<=p.2/\za st n as r K
    |false=>False
   |_=>False
  |_=>False
def uk (s:MSpec) (fn:Func) (x:Ins.den s.ins) (st:St) (cs:List AC) (P:CKs.den s.outs×IOs.den s.ins->Prop):Prop:=
 Il (dz T st fn.results.toList) λl=>Il (MB s st l) λp=>po st s.outs (cs++p.1) λr ls=>Il (Pc st 0 s.ins) λo=>
  match ar (p.2++ls++Qg 0 s.ins)&&Nat.blt s.ins.length 1000&&Nat.blt s.outs.length 1000&&s.ZR with
  |true=>za st (s.Ft x) (cs++p.1) s.keeps (P (r,o))
  |false=>False
def QG (s:MSpec) (fn:Func) (x:Ins.den s.ins) (st:St) (P:CKs.den s.outs×IOs.den s.ins->Prop):Prop:=
 match s.ptr with
 |none=>uk T s fn x st [] P
 |some p=>match st.at Pr with
  |some (.var tid vs)=>match Nat.beq tid p.1&&Nat.beq vs.length p.2 with
   |true=>Il (Kb 0 s.ins vs) λcs=>iY st (uk T s fn x st cs P) vs s.ins
   |false=>False
  |_=>False
@[irreducible] def fnMW (s:MSpec) (fn:Func) (x:Ins.den s.ins) (P:CKs.den s.outs×IOs.den s.ins->Prop):Prop:=
 match Nat.blt s.ins.length 1000&&zC s with
 |false=>False
 |true=>Il fn.body λc=>dP T Γ (zf T.marks fn c) c {kn:= [],st:= {tmps:=aF s (bP 0 s.ins x)++List.replicate (fn.ntmps-(aF s (bP 0 s.ins x)).length) .undef,heap:=qh s x} } λe w=>match e with
  | .normal=>QG T s fn x w.st P
  | .ret=>QG T s fn x w.st P
  | .exit _=>False
@[irreducible] def fnW (s:Spec) (fn:Func) (x:s.arg.den) (P:s.res.den->Prop):Prop:=
 Il fn.body λc=>dP T Γ (zf T.marks fn c) c {kn:= [],st:= {tmps:=Tm s.arg x++List.replicate (fn.ntmps-(Tm s.arg x).length) .undef,heap:= []} } λe w=>match e with
  | .normal=>Agr T s fn P w.st
  | .ret=>Agr T s fn P w.st
  | .exit _=>False
end Go.Proofs.YtkkdpknjohcekaaGreat
