/-
  Part 31 of the proof that the statement FnPatterns holds.
-/
import Derived.Test.YtkkdpknjohcekaaGreatCFPatterns29
namespace Go.Proofs.YtkkdpknjohcekaaGreat
open Go.RowKit
inductive Br (b:Bool) (A B:Prop):Prop
 |mk (t:b=true->A) (f:b=false->B)
inductive Dm {V:Type} (step:V->(V->Prop)->Prop) (v0:V):Prop
 |mk (I:V->Prop) (μ:V->Nat) (h0:I v0) (h: ∀v,I v->step v (λv'=>I v'/\μ v'<μ v))
structure WS where
 kn:List (Nat×Bool)
 st:St
def nK:List (Nat×Bool)->Nat->Option Bool
 | [],_=>none
 |(k,b)::r,t=>if k=t then some b else nK r t
def xK:List (Nat×Bool)->Nat->List (Nat×Bool)
 | [],_=> []
 |(k,b)::r,t=>if k=t then xK r t else (k,b)::xK r t
def WS.put (w:WS) (dst:Option Tmp) (v:AV):WS:=
 match dst with
 |some d=> {kn:=xK w.kn d,st:=w.st.put (some d) v}
 |none=>w
def Wp (kn:List (Nat×Bool)):Operand->Option Bool
 | .const (.bool b)=>some b
 | .tmp t=>nK kn t
 |_=>none
def Hs (kn:List (Nat×Bool)) (o:Oper):Option Bool:=
 match o.op with
 | .assign x=>Wp kn x
 | .move x=>Wp kn x
 | .unOp .not _ x=>(Wp kn x).map (!·)
 | .pick c a b=>match Wp kn c with
  |some true=>Wp kn a
  |some false=>Wp kn b
  |none=>none
 |_=>none
def WS.wE (w:WS) (o:Oper) (v:AV):WS:=
 match o.dst,Hs w.kn o with
 |some d,some b=>match (w.st.put (some d) v).get d with
  | .at (.data _ .bool _)=> {kn:=(d,b)::xK w.kn d,st:=w.st.put (some d) v}
  |_=>w.put (some d) v
 |dst,_=>w.put dst v
def WS.to (w:WS) (st:St):WS:= {kn:=w.kn,st:=st}
def brT (w:WS) (t:Nat) (K:Bool->WS->Prop):Prop:=
 match nK w.kn t with
 |some b=>K b w
 |none=>match w.st.get t with
  | .at (.data _ .bool b)=>Br b (K true {kn:=(t,true)::w.kn,st:=w.st}) (K false {kn:=(t,false)::w.kn,st:=w.st})
  |_=>False
def brO (w:WS) (c:Operand) (K:Bool->WS->Prop):Prop:=
 match c with
 | .tmp t=>brT w t K
 | .const (.bool b)=>K b w
 |_=>False
def Ie {α:Type} (o:Option α) (K:α->Prop):Prop:=match o with|some x=>K x|none=>False
def Aka (T:Tab) (st:St) (t:TypeId) (x:AV) (l h:Int):Option AV:=
 match x with
 | .at (.data fr (.slice e) xs)=>if (T.elem t).bind T.ty=some e then some (.at (.data fr (.slice e) ((xs.take h.toNat).drop l.toNat))) else none
 | .at (.own k off _)=>match st.at k with
  |some (.arr _ _ e tid _)=>if T.elem t=some tid/\T.ty tid=some e then some (.at (.own k (off+l.toNat) (h.toNat-l.toNat))) else none
  |_=>none
 | .at (.data _ .str s)=>if T.ty t=some .str then some (.at (.data true .str (s.extract l.toNat h.toNat))) else none
 |_=>none
variable (T:Tab) (Γ:Env)
def Ai1 (op:BinOp) (t:TypeId) (x y:AV) (K:AV->Prop):Prop:=
 match op,x,y with
 | .quo, .at (.data _ (.int k) a), .at (.data _ (.int k') b)=>if k=k' then b≠0/\K (.at (.data true (.int k) (k.wrap (a.tdiv b)))) else False
 | .rem, .at (.data _ (.int k) a), .at (.data _ (.int k') b)=>if k=k' then b≠0/\K (.at (.data true (.int k) (a.tmod b))) else False
 | .shl, .at (.data _ (.int k) a), .at (.data _ (.int _) b)=> ¬b<0/\K (.at (.data true (.int k) (k.wrap (a*2^(min b.toNat k.bits)))))
 | .shr, .at (.data _ (.int k) a), .at (.data _ (.int _) b)=> ¬b<0/\K (.at (.data true (.int k) (a.fdiv (2^(min b.toNat k.bits)))))
 | .add, .at (.data _ .str a), .at (.data _ .str b)=>a.size+b.size<=4294967296/\K (.at (.data true .str (a++b)))
 |op,x,y=>Ie (Tw T op t x y) K
def Aap (st:St) (t:TypeId) (p:AV) (K:AV->Prop):Prop:=
 match p with
 | .at (.Ki l i)=>Ie (T.ty t) λτ=>match st.at l with
  |some (.arr fr _ e _ xs)=>if e=τ then ∃x,xs[i]?=some x/\K (.at (.data (fr||e.flat) e x)) else False
  |some (.Hf e _ xs)=>if e=τ then ∃x,xs[i]?=some x/\K (if e.Ap then .agg (fX l i 0 e x) else .at ((fX l i 0 e x).headD .undef)) else False
  |some (.Bl _ _ _ none _)=>if τ.Ap then False else K (.at (.sub l i 0))
  |_=>False
 | .at (.data fr (.optr Oe) x)=>Ie (T.ty t) λτ=>if Oe=τ then ∃y,x=some y/\K (.at (.data (fr||Oe.flat) Oe y)) else False
 |p=>Ie (Qe T st t p) K
def lV (s:TypeId) (x:AV) (f:Nat) (K:AV->Prop):Prop:=
 match x with
 | .at (.data fr (.optr τ) x)=> ∃y,x=some y/\Ie (Nz T s (.at (.data fr (.ptr τ) y)) f) K
 |x=>Ie (Nz T s x f) K
def xU (st:St) (x:Operand) (K:AV->Prop) (d:Option AV):Prop:=
 match st.ev x with
 | .at (.data fr (.optr τ) x)=> ∃y,x=some y/\K (.at (.data fr (.ptr τ) y))
 |_=>Ie d K
def OR (st:St) (t:TypeId) (x:AV) (lo hi:Option AV) (K:AV->Prop):Prop:=
 Ie (GC x) λn=>Ie (YA lo 0) λl=>Ie (YA hi n) λh=>(0<=l/\l<=h/\h<=n)/\Ie (Aka T st t x l h) K
def m7 (st:St) (t:TypeId) (x i:AV) (K:AV->Prop):Prop:=
 match x,i with
 | .at (.data fr (.slice e) xs), .at (.data _ (.int _) n)=>if (T.elem t).bind T.ty=some e then ∃x,idx xs n=some x/\K (.at (.data fr (.ptr e) x)) else False
 | .at (.own l off len), .at (.data _ (.int _) n)=>match st.at l with
  |some (.arr _ _ e tid _)=>if T.elem t=some tid/\T.ty tid=some e then (0<=n/\n<len)/\K (.at (.Ki l (off+n.toNat))) else False
  |some (.Hf e tid _)=>if T.elem t=some tid/\T.ty tid=some e then (0<=n/\n<len)/\K (.at (.Ki l (off+n.toNat))) else False
  |some (.Bl _ te _ _ _)=>if T.elem t=some te/\(T.ty te).map Ty.size=some 1 then (0<=n/\n<len)/\K (.at (.Ki l (off+n.toNat))) else False
  |_=>False
 | .at (.sub l i _), .at (.data _ (.int _) n)=>match st.at l with
  |some (.Bl e _ rows none _)=>if ((T.elem t).bind T.ty).map Ty.size=some e.size then (0<=n/\n<(rows.getD i []).length)/\K (.at (.Kf l i n.toNat)) else False
  |_=>False
 |_,_=>False
def MF (t:TypeId) (x i:AV) (K:AV->Prop):Prop:=
 match x,i with
 | .at (.data _ .str s), .at (.data _ (.int _) n)=>if T.ty t=some .str then 0<=n/\ ∃b,s[n.toNat]?=some b/\K (.at (.data true (.int .u8) b.toNat)) else False
 |_,_=>False
def xm (st:St) (f:FuncId) (args:List AV) (K:AV->Prop):Prop:=
 Ie (match Γ f with|some (.q s)=>some s|_=>none) λs=>match s.fresh||s.res.flat||args.all (·.settled) with
  |true=>Ie (Dx st s.arg args) λp=> ∃y,s.fn p.2=some y/\K (if s.Hk then .bw (s.fresh||s.res.flat) s.res y else .at (.data (s.fresh||s.res.flat) s.res y))
  |false=>False
def KT (st:St) (v:AV) (args:List AV) (K:AV->Prop):Prop:=
 match v with
 | .at (.data fr (.clo f τ) x)=>match τ.chain with|true=>(match Nat.blt f 1000000000 with|true=>xm Γ st f (args++bF fr τ x) K|false=>xm Γ st (f-1000000000) (bF fr τ x++args) K)|false=>False
 | .at (.clo f Ef)=>xm Γ st f (args++Ef.map λp=> .at (.Hr p.1 p.2)) K
 |_=>False
def qW (w:WS) (o:Oper) (K:AV->WS->Prop):Prop:=
 match o.op with
 | .pick c a b=>brO w c λt w'=>match t with|true=>K (w'.st.ev a) w'|false=>K (w'.st.ev b) w'
 | .load t a=>Aap T w.st t (w.st.ev a) λv=>K v w
 | .binOp op t x y _=>Ai1 T op t (w.st.ev x) (w.st.ev y) λv=>K v w
 | .slice t x lo hi mx=>match mx with
  |none=>OR T w.st t (w.st.ev x) (lo.map w.st.ev) (hi.map w.st.ev) λv=>K v w
  |some _=>False
 | .indexAddr t x i=>m7 T w.st t (py (w.st.ev x)) (w.st.ev i) λv=>K v w
 | .index t x i=>MF T t (w.st.ev x) (w.st.ev i) λv=>K v w
 | .call {callee:= .value (.func f),args, .. } =>xm Γ w.st f (args.toList.map w.st.ev) λv=>K v w
 | .call {callee:= .value (.tmp t),args, .. } =>KT Γ w.st (w.st.get t) (args.toList.map w.st.ev) λv=>K v w
 | .fieldAddr s x f=>lV T s (w.st.ev x) f λv=>K v w
 | .nilCheck x=>xU w.st x (λv=>K v w) (Fh T Γ w.st o)
 |_=>Ie (Fh T Γ w.st o) λv=>K v w
def PB (st:St) (t:TypeId) (p v:AV) (K:St->Prop):Prop:=
 match p with
 | .at (.Ki l j)=>Ie (T.ty t) λτ=>Ie (settle st v) λq=>match q.2.at l with
  |some (.arr fr tr e tid xs)=>Ie (Ga q.2 τ q.1) λu=>if h:τ=e then j<xs.length/\K (q.2.Ke l (.arr (fr&&u.1) (tr&&(Tn st v&&e.tree)) e tid (xs.set j (h▸u.2)))) else False
  |_=>False
 |p=>Ie (Vf T st t p v) K
def SR (st:St) (t:TypeId) (p v:AV) (K:St->Prop):Prop:=
 match p with
 | .at (.Kf l i j)=>Ie (T.ty t) λτ=>Ie (settle st v) λq=>match q.2.at l with
  |some (.Bl e te rows none kp)=>Ie (Ga q.2 τ q.1) λu=>if h:τ=e then K (q.2.Ke l (.Bl e te (rows.set i ((rows.getD i []).set j (h▸u.2))) none kp)) else False
  |_=>False
 | .at (.Ki l j)=>Ie (T.ty t) λτ=>match st.at l,v with
  |some (.Bl e te rows out kp), .at (.own m off len)=>match st.at m with
   |some (.arr _ _ e' _ xs)=>if h:e'=e/\(Nat.blt l Bn&&(!Nat.beq m l&&!τ.Ap))=true then
     off=0/\len=xs.length/\(match out with|none=>True|some i=>i=j)/\K (Tv st l j m e te rows (h.1▸xs) (bV j kp))
    else False
   |_=>False
  |_,_=>False
 |_=>False
def BT (st:St) (t:TypeId) (p v:AV) (K:St->Prop):Prop:=match RH st p with
 |true=>SR T st t p v K
 |false=>PB T st t p v K
def mM (st:St) (dst:Nat) (t:TypeId) (x y:Operand) (K:AV->St->Prop):Prop:=
 Ie (T.elem t) λte=>Ie (T.ty te) λe=>Ie (settle st (st.ev y)) λq=>Ie (Ga q.2 (.slice e) q.1) λu=>match q.2.ev x with
  | .at .Ma=>match Nat.blt dst Bn with
   |true=>List.length u.2<=Db/\K (.at (.own dst 0 (List.length u.2))) ((q.2.new dst (.arr (T.sT||e.flat) T.CH e te [])).new dst (.arr ((T.sT||e.flat)&&(u.1||e.flat)) (T.CH&&(e.flat||(Tn st (st.ev y)&&e.tree))) e te u.2))
   |false=>False
  | .at (.own l off len)=>match q.2.at l with
   |some (.arr fr tr e' tid xs)=>if h:e'=e/\tid=te/\Nat.blt l Bn=true then
     off=0/\len=xs.length/\len+List.length u.2<=Db/\K (.at (.own l 0 (List.length ((h.1▸xs:List e.den)++u.2)))) (q.2.new l (.arr (fr&&(u.1||e.flat)) (tr&&(e.flat||(Tn st (st.ev y)&&e.tree))) e te ((h.1▸xs:List e.den)++u.2)))
    else False
   |_=>False
  |_=>False
def sn (st:St) (dst:Nat) (t:TypeId) (x y:Operand) (K:AV->St->Prop):Prop:=
 match x with
 | .tmp tx=>match st.get tx with
  | .at (.sub l i _)=>Ie (T.elem t) λtid=>match st.at l with
   |some (.Bl e te rows none kp)=>match Nat.blt l Bn&&(Nat.blt dst Bn&&!Nat.beq dst l) with
    |true=>mM T ((Qd st l i dst e te tid rows kp).put (some tx) (.at (.own dst 0 (rows.getD i []).length))) dst t x y K
    |false=>False
   |_=>False
  |_=>mM T st dst t x y K
 |_=>mM T st dst t x y K
def Aau (st:St) (dst:Nat) (t:TypeId) (l c:AV) (K:AV->St->Prop):Prop:=
 match l,c with
 | .at (.data _ (.int _) n), .at (.data _ (.int _) m)=>Ie (T.elem t) λte=>Ie (T.ty te) λe=>match gk e&&Nat.blt dst Bn with
  |true=>(0<=n/\n<Db+1)/\n=m/\K (.at (.own dst 0 (List.replicate n.toNat e.zero).length)) (st.new dst (.arr (T.sT||e.flat) (T.CH&&e.tree) e te (List.replicate n.toNat e.zero)))
  |false=>False
 |_,_=>False
def MT (st:St) (dst:Nat) (t:TypeId) (l c:AV) (K:AV->St->Prop):Prop:=
 match eo T t with
 |none=>Aau T st dst t l c K
 |some p=>match l,c with
  | .at (.data _ (.int _) n), .at (.data _ (.int _) m)=>match Nat.blt dst Bn with
   |true=>(0<=n/\n<Db+1)/\n=m/\K (.at (.own dst 0 (List.replicate n.toNat ([]:List p.2.den)).length)) (Qz st dst dst (.Bl p.2 p.1 (List.replicate n.toNat []) none none))
   |false=>False
  |_,_=>False
def fe (st:St) (dst:Nat) (t:TypeId) (len:Nat) (parts:Array (Nat×Operand)) (K:AV->St->Prop):Prop:=
 match eo T t with
 |none=>Ie (Mo T st dst t len parts) λr=>K r.1 r.2
 |some p=>match parts.toList with
  | [(0,x)]=>match st.ev x with
   | .at (.own m off ln)=>match st.at m with
    |some (.arr _ _ e' _ xs)=>if h:e'=p.2/\(Nat.beq len 1&&(Nat.blt dst Bn&&Nat.blt m Bn))=true then off=0/\ln=xs.length/\K (.at (.own dst 0 1)) (Qz st dst m (.Bl p.2 p.1 [h.1▸xs] none none)) else False
    |_=>False
   |_=>False
  |_=>False
def sq (st:St) (dst:Nat) (t:TypeId) (x y:Operand) (K:AV->St->Prop):Prop:=
 match eo T t with
 |none=>sn T st dst t x y K
 |some p=>match st.ev x,st.ev y with
  | .at (.own l off len), .at (.own m Ab3 tH)=>match st.at l,st.at m with
   |some (.Bl e1 te1 A none _),some (.Bl e2 wV B none _)=>
    if h:(e1=p.2/\e2=p.2)/\(decide (te1=p.1)&&decide (wV=p.1)&&(Nat.blt l Bn&&(Nat.blt m Bn&&!Nat.beq m l)))=true then
     (off=0/\len=A.length)/\(Ab3=0/\tH=B.length)/\0<B.length/\A.length+B.length<=Db/\
      K (.at (.own l 0 (List.length ((h.1.1▸A:List (List p.2.den))++(h.1.2▸B:List (List p.2.den)))))) (Qz st l m (.Bl p.2 p.1 ((h.1.1▸A:List (List p.2.den))++(h.1.2▸B:List (List p.2.den))) none none))
    else False
   |_,_=>False
  |_,_=>False
def ga (st:St) (io:Bool) (k:Nat):(c:CK)->AC->(c.den->List (Nat×Loc)->Prop)->Prop
 | .Fz τ, .own l off len,K=>Ie (Dr st τ (.own l off len)) λp=>K p.2 [(Dy false k, .view l)]
 | .Fz τ, .clo g Ef,K=>match ck st (Ef.map (·.1))&&!τ.Ap with
  |true=>Ie (Kb st τ (.clo g Ef)) λp=>K p.2 (views k (Ef.map (·.1)))
  |false=>False
 | .Fz τ, .Hr l i,K=>match ck st [l]&&!τ.Ap with
  |true=>Ie (Kb st τ (.Hr l i)) λp=>K p.2 (views k [l])
  |false=>False
 | .Fz τ, .sub l i c,K=>Ie (Dr st τ (.sub l i c)) λp=>K p.2 [(Dy false k, .view l)]
 | .Fz τ,a,K=>match τ.flat||a.settled with
  |true=>Ie (Dr st τ a) λp=>K p.2 []
  |false=>False
 | .row e te, .own l off len,K=>match st.at l with
  |some (.arr _ _ e' Ri xs)=>if h:e'=e/\Ri=te then off=0/\len=xs.length/\K (h.1▸xs:List e.den) [(Dy io k, .row l)] else False
  |_=>False
 | .row e _, .sub l i c,K=>match st.at l with
  |some (.Hf e' _ xs)=>if h:e'= .slice e/\e.flat=true/\io=true/\c=0 then ∃y,xs[i]?=some y/\K (h.1▸y:(Ty.slice e).den) [(Dy io k, .sub l i c)] else False
  |_=>False
 | .row _ _, .Ma,K=>K [] []
 | .Hz e te, .own l off len,K=>match st.at l with
  |some (.Hf e' Ri xs)=>if h:e'=e/\Ri=te then off=0/\len=xs.length/\K (h.1▸xs:List e.den) [(Dy io k, .row l)] else False
  |_=>False
 | .Hz e _, .sub l i c,K=>match st.at l with
  |some (.Hf e' _ xs)=>if h:e'= .slice e/\io=true/\c=0 then ∃y,xs[i]?=some y/\K (h.1▸y:(Ty.slice e).den) [(Dy io k, .sub l i c)] else False
  |_=>False
 | .Hz _ _, .Ma,K=>K [] []
 | .part e te, .own l off len,K=>match st.at l with
  |some (.arr _ _ e' Ri xs)=>if h:e'=e/\Ri=te/\e.flat=true/\io=true then K ((h.1▸xs:List e.den),off,len) [(Dy io k, .row l)] else False
  |_=>False
 | .Bl e te _, .own l off len,K=>match st.at l with
  |some (.Bl e' Ri rows none _)=>if h:e'=e/\Ri=te/\io=false then off=0/\len=rows.length/\K (h.1▸rows:List (List e.den)) [(Dy io k, .row l)] else False
  |_=>False
 |_,_,_=>False
def CG (st:St):(k:Nat)->(cs:List (Bool×CK))->List AC->(Ins.den cs->List (Nat×Loc)->Prop)->Prop
 |_,[],[],K=>K () []
 |k,p::r,a::as,K=>ga st p.1 k p.2 a λx t1=>CG st (k+1) r as λy t2=>K (x,y) (t1++t2)
 |_,_,_,_=>False
def qI (st:St):(c:CK)->c.den->AC->(St->Prop)->Prop
 | .row e _,ys, .own l _ len,K=>match st.at l with
  |some (.arr fr tr e' te xs)=>if h:e=e' then (List.length ys=len/\xs.length=len)/\K (st.Ke l (.arr (fr&&e'.flat) (tr&&e'.flat) e' te (h▸ys))) else False
  |_=>False
 | .Hz e _,ys, .own l _ len,K=>match st.at l with
  |some (.Hf e' te xs)=>if h:e=e' then (List.length ys=len/\xs.length=len)/\K (st.Ke l (.Hf e' te (h▸ys))) else False
  |_=>False
 | .row e _,ys, .sub l i _,K=>match st.at l with
  |some (.Hf e' te xs)=>if h: .slice e=e' then ∃y,xs[i]?=some y/\List.length ys=List.length (h▸y:(Ty.slice e).den)/\K (st.Ke l (.Hf e' te (xs.set i (h▸(ys:(Ty.slice e).den))))) else False
  |_=>False
 | .Hz e _,ys, .sub l i _,K=>match st.at l with
  |some (.Hf e' te xs)=>if h: .slice e=e' then ∃y,xs[i]?=some y/\List.length ys=List.length (h▸y:(Ty.slice e).den)/\K (st.Ke l (.Hf e' te (xs.set i (h▸(ys:(Ty.slice e).den))))) else False
  |_=>False
 |_,_, .Ma,K=>K st
 |_,_,_,_=>False
def Abp (st:St) (e:Ty) (ys:List e.den):AC->(St->Prop)->Prop
 | .own l _ _,K=>match st.at l with
  |some (.arr fr tr e' te xs)=>if h:e=e' then List.length ys=xs.length/\K (st.Ke l (.arr fr tr e' te (h▸ys))) else False
  |_=>False
 |_,_=>False
def jf:(cs:List (Bool×CK))->IOs.den cs->List AC->St->(St->Prop)->Prop
 | [],_,_,st,K=>K st
 |(true, .Fz _)::r,x,_::as,st,K=>jf r x as st K
 |(true, .row e te)::r,x,a::as,st,K=>qI st (.row e te) x.1 a λst'=>jf r x.2 as st' K
 |(true, .Hz e te)::r,x,a::as,st,K=>qI st (.Hz e te) x.1 a λst'=>jf r x.2 as st' K
 |(true, .part e _)::r,x,a::as,st,K=>Abp st e x.1 a λst'=>jf r x.2 as st' K
 |(true, .Bl _ _ _)::r,x,_::as,st,K=>jf r x as st K
 |(false,_)::r,x,_::as,st,K=>jf r x as st K
 |_,_,_,_,_=>False
def vg (H:List (Nat×OB)) (ls:List Nat) (n:Nat):List AV->Prop->Prop
 | [],K=>K
 | .at (.sub l i _)::r,K=>match ls.contains l with
  |true=>(i<n/\i<rP H l)/\vg H ls n r K
  |false=>vg H ls n r K
 |_::r,K=>vg H ls n r K
def KS (st:St) (dst:Option Nat) (s:MSpec) (args:List AV) (K:AV->St->Prop):Prop:=
 Ie (SM st s args) λq=>Ie (ungroup s.Ii q.2.2) λoB=>CG st 0 s.ins (q.2.1++oB) λx tks=>
  match ao (tks.map λt=>t.2.Xi)&&zK (Sj s tks (dst.getD 0)) (s.outs.length+(mw s (dst.getD 0)).length)&&Nat.blt s.outs.length 1000&&Nat.blt s.ins.length 1000&&(Wl s.ins q.2.1&&q.1.all λl=>!((tks.map λt=>t.2.Xi)++Sj s tks (dst.getD 0)).contains l) with
  |true=> ∃p,s.fn x=some p/\jf s.ins p.2 (q.2.1++oB) st λst1=>Ie (Aff s (dst.getD 0) ((bY (Ee (Sj s tks (dst.getD 0))) 0 s.outs p.1).drop s.aF)) λv=>
    vg (lK st st1 (dst.getD 0) s q.1 tks p.1).heap (bU st.heap (Sj s tks (dst.getD 0)) tks s.keeps) (s.Fk x) st.tmps
     (K v (m8 st (lK st st1 (dst.getD 0) s q.1 tks p.1) (bU st.heap (Sj s tks (dst.getD 0)) tks s.keeps) (s.Fk x)))
  |false=>False
def opW (w:WS) (o:Oper) (K:AV->WS->Prop):Prop:=
 match o.op with
 | .store t p x=>BT T (Ok T w.st p x) t ((Ok T w.st p x).ev p) ((Ok T w.st p x).ev x) λs=>K .undef (w.to s)
 | .makeSlice t l c=>Ie o.dst λd=>MT T w.st d t (w.st.ev l) (w.st.ev c) λv s=>K v (w.to s)
 | .call {callee:= .builtin .append,args,argTypes} =>match o.dst,args.toList,argTypes.toList with
  |some d,[x,y],[t,t']=>if t=t' then sq T w.st d t x y λv s=>K v (w.to s) else False
  |_,_,_=>False
 | .assign _=>Ie (evalOp T Γ w.st o) λr=>K r.1 (w.to r.2)
 | .alloc _=>Ie (evalOp T Γ w.st o) λr=>K r.1 (w.to r.2)
 | .box _ _=>Ie (evalOp T Γ w.st o) λr=>K r.1 (w.to r.2)
 | .buildSlice t len parts=>Ie o.dst λd=>fe T w.st d t len parts λv s=>K v (w.to s)
 | .build _ _=>Ie (evalOp T Γ w.st o) λr=>K r.1 (w.to r.2)
 | .makeMap _ _=>Ie (evalOp T Γ w.st o) λr=>K r.1 (w.to r.2)
 | .mapUpdate _ _ _ _=>Ie (evalOp T Γ w.st o) λr=>K r.1 (w.to r.2)
 | .insert _ _ _ _=>Ie (evalOp T Γ w.st o) λr=>K r.1 (w.to r.2)
 | .call {callee:= .builtin .copy, .. } =>Ie (evalOp T Γ w.st o) λr=>K r.1 (w.to r.2)
 | .call {callee:= .builtin .clear, .. } =>Ie (evalOp T Γ w.st o) λr=>K r.1 (w.to r.2)
 | .call {callee:= .value (.func f),args, .. } =>match Γ f with
  |some (.m s)=>KS w.st o.dst s (args.toList.map w.st.ev) λv s'=>K v (w.to s')
  |some (.q s)=>match fF s (args.toList.map w.st.ev) with
   |true=>Ie (Nl args.toList w.st) λst1=>qW T Γ (w.to st1) o K
   |false=>qW T Γ w o K
  |_=>qW T Γ w o K
 |_=>qW T Γ w o K
def AV.Aak:AV->Bool
 | .at .skip=>true
 |_=>false
def bW (w:WS) (o:Oper) (K:AV->WS->Prop):Prop:=
 match o.op with
 | .buildSlice t len parts=>Ie (bI T w.st t len parts) λv=>K v w
 | .build t parts=>Ie (Yb T w.st t parts) λv=>K v w
 |_=>qW T Γ w o K
def jB (ops:Array Oper) (w:WS) (o:Oper) (run:(AV->WS->Prop)->WS->Prop) (K:WS->Prop):Prop:=
 match o.guard with
 |none=>run (λv w'=>K (w'.wE o v)) w
 |some (j,want)=>Ie ((ops[j]?).bind (·.dst)) λt=>match (w.st.get t).Aak with
  |true=>K (w.put o.dst (.at .skip))
  |false=>brT w t λb w'=>match b,want with
   |true,true=>run (λv qX=>K (qX.wE o v)) w'
   |false,false=>run (λv qX=>K (qX.wE o v)) w'
   |_,_=>K (w'.put o.dst (.at .skip))
def Ajy (ops:Array Oper):List Oper->WS->(WS->Prop)->Prop
 | [],w,K=>K w
 |o::r,w,K=>jB ops w o (λk w'=>opW T Γ w' o k) λw'=>Ajy ops r w' K
def Aad (ops:Array Oper):List Nat->WS->(WS->Prop)->Prop
 | [],w,K=>K w
 |i::r,w,K=>Ie ops[i]? λo=>jB ops w o (λk w'=>opW T Γ w' o k) λw'=>Aad ops r w' K
def kV (ops:Array Oper):List Nat->WS->(WS->Prop)->Prop
 | [],w,K=>K w
 |i::r,w,K=>Ie ops[i]? λo=>jB ops w o (λk w'=>bW T Γ w' o k) λw'=>kV ops r w' K
def YT:List Nat->(Nat->Prop)->Prop
 | [],_=>True
 | [i],P=>P i
 |i::j::r,P=>P i/\YT (j::r) P
def TE (ops:Array Oper):Nat->Array Bool->WS->(WS->Prop)->Prop
 |0,Ah,w,K=>match Region.ready .any ops Ah with
  | []=>K w
  |_::_=>False
 |f+1,Ah,w,K=>match Region.ready .any ops Ah with
  | []=>False
  |i::r=>YT (i::r) λk=>Ie ops[k]? λo=>jB ops w o (λkk w'=>opW T Γ w' o kk) λw'=>TE ops f (Ah.setIfInBounds k true) w' K
def acV:AC->Type->Type
 | .data _ τ _,R=>τ.den×R
 | .sub _ _ _,R=>Nat×R
 | .Ki _ _,R=>Nat×R
 | .Kf _ _ _,R=>Nat×Nat×R
 |_,R=>R
def KJ:List AC->Type->Type
 | [],R=>R
 |c::r,R=>acV c (KJ r R)
def avV:AV->Type->Type
 | .at a,R=>acV a R
 | .agg cs,R=>KJ cs R
 | .bw _ τ _,R=>τ.den×R
 | .Mt _,R=>R
def obV:OB->Type->Type
 | .arr _ _ e _ _,R=>List e.den×R
 | .Hf e _ _,R=>List e.den×R
 | .var _ vs,R=>KJ vs R
 | .Bl e _ _ _ none,R=>List (List e.den)×R
 | .Bl e _ _ _ (some _),R=>List (List e.den)×(Nat×R)
 | .Vw v _,R=>(ByteArray->Option v.den)×R
def qU:List AV->Type->Type
 | [],R=>R
 |v::r,R=>avV v (qU r R)
def xA:List (Nat×OB)->Type->Type
 | [],R=>R
 |p::r,R=>obV p.2 (xA r R)
def stV (s:St):Type:=qU s.tmps (xA s.heap Unit)
def QM:(c:AC)-> {R:Type} ->R->acV c R
 | .data _ _ x,_,r=>(x,r)
 | .undef,_,r=>r
 | .skip,_,r=>r
 | .Ma,_,r=>r
 | .Vv,_,r=>r
 | .own _ _ _,_,r=>r
 | .Hr _ _,_,r=>r
 | .Ki _ i,_,r=>(i,r)
 | .clo _ _,_,r=>r
 | .Kq _,_,r=>r
 | .sub _ i _,_,r=>(i,r)
 | .Kf _ i j,_,r=>(i,j,r)
def sk:(l:List AC)-> {R:Type} ->R->KJ l R
 | [],_,r=>r
 |c::l,_,r=>QM c (sk l r)
def Ag7:(c:AV)-> {R:Type} ->R->avV c R
 | .at a,_,r=>QM a r
 | .agg cs,_,r=>sk cs r
 | .bw _ _ x,_,r=>(x,r)
 | .Mt _,_,r=>r
def Ahi:(b:OB)-> {R:Type} ->R->obV b R
 | .arr _ _ _ _ xs,_,r=>(xs,r)
 | .Hf _ _ xs,_,r=>(xs,r)
 | .var _ vs,_,r=>sk vs r
 | .Bl _ _ rows _ none,_,r=>(rows,r)
 | .Bl _ _ rows _ (some p),_,r=>(rows,p.2,r)
 | .Vw _ m,_,r=>(m,r)
def rY:(l:List AV)-> {R:Type} ->R->qU l R
 | [],_,r=>r
 |c::l,_,r=>Ag7 c (rY l r)
def rQ:(l:List (Nat×OB))-> {R:Type} ->R->xA l R
 | [],_,r=>r
 |p::l,_,r=>Ahi p.2 (rQ l r)
def SQ (s:St):stV s:=rY s.tmps (rQ s.heap ())
def oJ:(c d:AC)-> {R:Type} ->R->Option (acV c R)
 | .data fr τ _, .data Wh Oe x,_,r=>if h:Oe=τ/\Wh=fr then some (h.1▸x,r) else none
 | .undef, .undef,_,r=>some r
 | .skip, .skip,_,r=>some r
 | .Ma, .Ma,_,r=>some r
 | .Vv, .Vv,_,r=>some r
 | .own l _ _, .own l' _ _,_,r=>if l=l' then some r else none
 | .Hr l i, .Hr l' i',_,r=>if l=l'/\i=i' then some r else none
 | .Ki l _, .Ki l' i',_,r=>if l=l' then some (i',r) else none
 | .clo f c, .clo f' c',_,r=>if f=f'/\c=c' then some r else none
 | .Kq l, .Kq l',_,r=>if l=l' then some r else none
 | .sub l _ c, .sub l' i' c',_,r=>if l=l'/\c=c' then some (i',r) else none
 | .Kf l _ _, .Kf l' i' j',_,r=>if l=l' then some (i',j',r) else none
 |_,_,_,_=>none
def Si:(l m:List AC)-> {R:Type} ->R->Option (KJ l R)
 | [],[],_,r=>some r
 |c::l,d::m,_,r=>(Si l m r).bind λr'=>oJ c d r'
 |_,_,_,_=>none
def lO:(c d:AV)-> {R:Type} ->R->Option (avV c R)
 | .at a, .at b,_,r=>oJ a b r
 | .agg cs, .agg ds,_,r=>Si cs ds r
 | .bw fr τ _, .bw Wh Oe x,_,r=>if h:Oe=τ/\Wh=fr then some (h.1▸x,r) else none
 |_,_,_,_=>none
def Tf:(b d:OB)-> {R:Type} ->R->Option (obV b R)
 | .arr fr tr e tid _, .arr Wh tr' e' Vc xs,_,r=>if h:e'=e/\Wh=fr/\tr'=tr/\Vc=tid then some (h.1▸xs,r) else none
 | .Hf e tid _, .Hf e' Vc xs,_,r=>if h:e'=e/\Vc=tid then some (h.1▸xs,r) else none
 | .Vw v _, .Vw v' m,_,r=>if h:v'=v then some (h▸m,r) else none
 | .var t vs, .var t' us,_,r=>if t'=t then Si vs us r else none
 | .Bl e te _ out none, .Bl e' Ri rows hY none,_,r=>if h:e'=e/\Ri=te/\hY=out then some (h.1▸rows,r) else none
 | .Bl e te _ out (some p), .Bl e' Ri rows hY (some p'),_,r=>if h:e'=e/\Ri=te/\hY=out/\p'.1=p.1 then some (h.1▸rows,p'.2,r) else none
 |_,_,_,_=>none
def Ow:(l m:List AV)-> {R:Type} ->R->Option (qU l R)
 | [],[],_,r=>some r
 |c::l,d::m,_,r=>(Ow l m r).bind λr'=>lO c d r'
 |_,_,_,_=>none
def Qf:(l m:List (Nat×OB))-> {R:Type} ->R->Option (xA l R)
 | [],[],_,r=>some r
 |p::l,q::m,_,r=>if q.1=p.1 then (Qf l m r).bind λr'=>Tf p.2 q.2 r' else none
 |_,_,_,_=>none
def jz (s t:St):Option (stV s):=(Qf s.heap t.heap ()).bind λr=>Ow s.tmps t.tmps r
def lI:(c:AC)-> {R:Type} ->acV c R->AC×R
 | .data fr τ _,_,v=>(.data fr τ v.1,v.2)
 | .undef,_,r=>(.undef,r)
 | .skip,_,r=>(.skip,r)
 | .Ma,_,r=>(.Ma,r)
 | .Vv,_,r=>(.Vv,r)
 | .own l off len,_,r=>(.own l off len,r)
 | .Hr l i,_,r=>(.Hr l i,r)
 | .Ki l _,_,v=>(.Ki l v.1,v.2)
 | .clo f c,_,r=>(.clo f c,r)
 | .Kq l,_,r=>(.Kq l,r)
 | .sub l _ c,_,v=>(.sub l v.1 c,v.2)
 | .Kf l _ _,_,v=>(.Kf l v.1 v.2.1,v.2.2)
def aI:(l:List AC)-> {R:Type} ->KJ l R->List AC×R
 | [],_,r=>([],r)
 |c::l,_,v=>((lI c v).1::(aI l (lI c v).2).1,(aI l (lI c v).2).2)
def sw:(c:AV)-> {R:Type} ->avV c R->AV×R
 | .at a,_,v=>(.at (lI a v).1,(lI a v).2)
 | .agg cs,_,v=>(.agg (aI cs v).1,(aI cs v).2)
 | .bw fr τ _,_,v=>(.bw fr τ v.1,v.2)
 | .Mt l,_,r=>(.Mt l,r)
def tZ:(b:OB)-> {R:Type} ->obV b R->OB×R
 | .arr fr tr e tid _,_,v=>(.arr fr tr e tid v.1,v.2)
 | .Hf e tid _,_,v=>(.Hf e tid v.1,v.2)
 | .Vw w _,_,v=>(.Vw w v.1,v.2)
 | .var t vs,_,v=>(.var t (aI vs v).1,(aI vs v).2)
 | .Bl e te _ out none,_,v=>(.Bl e te v.1 out none,v.2)
 | .Bl e te _ out (some p),_,v=>(.Bl e te v.1 out (some (p.1,v.2.1)),v.2.2)
def Xa:(l:List AV)-> {R:Type} ->qU l R->List AV×R
 | [],_,r=>([],r)
 |c::l,_,v=>((sw c v).1::(Xa l (sw c v).2).1,(Xa l (sw c v).2).2)
def ew:(l:List (Nat×OB))-> {R:Type} ->xA l R->List (Nat×OB)×R
 | [],_,r=>([],r)
 |p::l,_,v=>((p.1,(tZ p.2 v).1)::(ew l (tZ p.2 v).2).1,(ew l (tZ p.2 v).2).2)
def jy (s:St) (v:stV s):St:= {tmps:=(Xa s.tmps v).1,heap:=(ew s.heap (Xa s.tmps v).2).1}
def lenOf (H:List (Nat×OB)) (l:Nat):Nat:=match At H l with|some (.arr _ _ _ _ xs)=>xs.length|some (.Hf _ _ xs)=>xs.length|some (.Bl _ _ rows _ _)=>rows.length|_=>0
def aj (ps:List Nat):List AV->List (Nat×Nat×Nat)
 | []=> []
 | .at (.own l off len)::r=>if ps.contains l then (l,off,len)::aj ps r else aj ps r
 |_::r=>aj ps r
def Ajw:List (Nat×Nat×Nat)->Nat->Nat
 | [],_=>0
 |(k,o,_)::r,l=>if k=l then o else Ajw r l
def UL:List (Nat×Nat×Nat)->List (Nat×OB)->Nat->Nat
 | [],H,l=>lenOf H l
 |(k,_,n)::r,H,l=>if k=l then n else UL r H l
def gi (B:List (Nat×Nat×Nat)) (H:List (Nat×OB)):AC->AC
 | .own l _ _=> .own l (Ajw B l) (UL B H l)
 |c=>c
def St.whole (B:List (Nat×Nat×Nat)) (s:St):St:=s.Lb (gi B s.heap)
def yP (B:List (Nat×Nat×Nat)) (H:List (Nat×OB)) (c:AC) (K:Prop):Prop:=match c with
 | .own l off len=>off=Ajw B l/\len=UL B H l/\K
 |_=>K
def dQ (B:List (Nat×Nat×Nat)) (H:List (Nat×OB)):List AC->Prop->Prop
 | [],K=>K
 |c::r,K=>yP B H c (dQ B H r K)
def QS (B:List (Nat×Nat×Nat)) (H:List (Nat×OB)) (c:AV) (K:Prop):Prop:=match c with
 | .at a=>yP B H a K
 | .agg cs=>dQ B H cs K
 | .bw _ _ _=>K
 | .Mt _=>False
def bu (B:List (Nat×Nat×Nat)) (H:List (Nat×OB)):List AV->Prop->Prop
 | [],K=>K
 |c::r,K=>QS B H c (bu B H r K)
def jW (B:List (Nat×Nat×Nat)) (H:List (Nat×OB)):List (Nat×OB)->Prop->Prop
 | [],K=>K
 |p::r,K=>match p.2 with
  | .var _ vs=>dQ B H vs (jW B H r K)
  |_=>jW B H r K
def BR (B:List (Nat×Nat×Nat)) (s:St) (K:Prop):Prop:=bu B s.heap s.tmps (jW B s.heap s.heap K)
def AV.Yj:AV->Bool
 | .at (.data _ _ _)=>true
 |_=>false
def Kp (p:Nat->Bool):Nat->List AV->List Bool
 |_,[]=> []
 |i,v::r=>(v.Yj&&p i)::Kp p (i+1) r
def stays (live:Nat->List Nat) (c:Code) (t:Nat):Bool:=!(writes c).contains t&&bT live c t
def Ua:List Bool->List AV->List AV
 |true::f,_::r=> .undef::Ua f r
 |false::f,v::r=>v::Ua f r
 |_,l=>l
def Vm:List Bool->List AV->List AV->List AV
 |true::f,a::s,_::r=>a::Vm f s r
 |false::f,_::s,v::r=>v::Vm f s r
 |_,_,l=>l
def St.mask (fx:List Bool) (s:St):St:= {tmps:=Ua fx s.tmps,heap:=s.heap}
def St.wj (fx:List Bool) (s0 s:St):St:= {tmps:=Vm fx s0.tmps s.tmps,heap:=s.heap}
def rM (c:AC) (k:AC->Prop):Prop:=match c with
 | .undef=>k .undef
 | .skip=>k .skip
 | .Ma=>k .Ma
 | .Vv=>k .Vv
 | .data fr τ x=>match fr with
  |true=>k (.data true τ x)
  |false=>k (.data false τ x)
 | .own l off len=>k (.own l off len)
 | .Hr l i=>k (.Hr l i)
 | .Ki l i=>k (.Ki l i)
 | .clo f c=>k (.clo f c)
 | .Kq l=>k (.Kq l)
 | .sub l i c=>k (.sub l i c)
 | .Kf l i c=>k (.Kf l i c)
def iQ:List AC->(List AC->Prop)->Prop
 | [],k=>k []
 |c::r,k=>rM c λc'=>iQ r λr'=>k (c'::r')
def zj (c:AV) (k:AV->Prop):Prop:=match c with
 | .at a=>rM a λa'=>k (.at a')
 | .agg cs=>iQ cs λiH=>k (.agg iH)
 | .bw fr τ x=>k (.bw fr τ x)
 | .Mt l=>k (.Mt l)
def iR:List AV->(List AV->Prop)->Prop
 | [],k=>k []
 |c::r,k=>zj c λc'=>iR r λr'=>k (c'::r')
def zk (b:OB) (k:OB->Prop):Prop:=match b with
 | .arr fr tr e tid xs=>match fr,tr with
  |true,true=>k (.arr true true e tid xs)
  |true,false=>k (.arr true false e tid xs)
  |false,true=>k (.arr false true e tid xs)
  |false,false=>k (.arr false false e tid xs)
 | .Hf e tid xs=>k (.Hf e tid xs)
 | .var t vs=>iQ vs λvs'=>k (.var t vs')
 | .Bl e te rows out kp=>match out,kp with
  |none,none=>k (.Bl e te rows none none)
  |none,some (l,n)=>k (.Bl e te rows none (some (l,n)))
  |some i,none=>k (.Bl e te rows (some i) none)
  |some i,some (l,n)=>k (.Bl e te rows (some i) (some (l,n)))
 | .Vw v m=>k (.Vw v m)
def sS:List (Nat×OB)->(List (Nat×OB)->Prop)->Prop
 | [],k=>k []
 |(l,b)::r,k=>zk b λb'=>sS r λr'=>k ((l,b')::r')
def an (w:WS) (k:WS->Prop):Prop:=iR w.st.tmps λt=>sS w.st.heap λh=>k {kn:=w.kn,st:= {tmps:=t,heap:=h} }
def oW (s:St) (k:St->Prop):Prop:=iR s.tmps λt=>sS s.heap λh=>k {tmps:=t,heap:=h}
def fm:List Bool->(List Bool->Prop)->Prop
 | [],k=>k []
 |true::r,k=>fm r λr'=>k (true::r')
 |false::r,k=>fm r λr'=>k (false::r')
theorem qf {c:AC} {k:AC->Prop} :rM c k↔k c:=by
 cases c<;>simp only [rM]
 split<;>rfl
theorem fj: ∀ {l:List AC} {k:List AC->Prop},iQ l k↔k l
 | [],k=>Iff.rfl
 |c::r,k=>by simp only [iQ];rw [qf,fj]
theorem EV {c:AV} {k:AV->Prop} :zj c k↔k c:=by
 cases c<;>simp only [zj]
 ·exact qf
 ·exact fj
theorem fk: ∀ {l:List AV} {k:List AV->Prop},iR l k↔k l
 | [],k=>Iff.rfl
 |c::r,k=>by simp only [iR];rw [EV,fk]
theorem EW {b:OB} {k:OB->Prop} :zk b k↔k b:=by
 cases b<;>simp only [zk]
 ·split<;>rfl
 ·exact fj
 ·split<;>rfl
theorem lX: ∀ {l:List (Nat×OB)} {k:List (Nat×OB)->Prop},sS l k↔k l
 | [],k=>Iff.rfl
 |(l,b)::r,k=>by simp only [sS];rw [EW,lX]
theorem TV {s:St} {k:St->Prop} :oW s k=k s:=by
 unfold oW
 exact propext (by rw [fk,lX])
theorem fo: ∀ {l:List Bool} {k:List Bool->Prop},fm l k=k l
 | [],k=>rfl
 |true::r,k=>by simp only [fm];rw [fo]
 |false::r,k=>by simp only [fm];rw [fo]
theorem Oa {w:WS} {k:WS->Prop} :an w k↔k w:=by
 unfold an
 rw [fk,lX]
def bC:AC->List (Nat×Nat)
 | .own _ off len=> [(off,len)]
 |_=> []
def bE:AV->List (Nat×Nat)
 | .at a=>bC a
 | .agg cs=>cs.flatMap bC
 |_=> []
def mn:OB->List (Nat×Nat)
 | .var _ vs=>vs.flatMap bC
 |_=> []
def PA (s:St):List (Nat×Nat):=s.tmps.flatMap bE++s.heap.flatMap λp=>mn p.2
def eqW (s0 s:St):Prop:=PA s=PA s0/\Ie (jz s0 s) λv=>v=SQ s0
def bM (ops:Array Oper):Nat->Array Bool->WS->(WS->Prop)->Prop
 |0,Ah,w,K=>match Region.ready .any ops Ah with
  | []=>K w
  |_::_=>False
 |f+1,Ah,w,K=>match Region.ready .any ops Ah with
  | []=>False
  |k::_=>Ie ops[k]? λo=>jB ops w o (λkk w'=>opW T Γ w' o kk) λw'=>bM ops f (Ah.setIfInBounds k true) w' K
def DQ (P:List (Nat×Nat×AV×OB)) (ops:Array Oper):Nat->Array Bool->WS->(WS->Prop)->Prop
 |0,Ah,w,K=>match Region.ready .any ops Ah with
  | []=>K w
  |_::_=>False
 |f+1,Ah,w,K=>match Region.ready .any ops Ah with
  | []=>False
  |i::r=>YT (i::r) λk=>Ie ops[k]? λo=>match NB P Γ ops w.st o k with
   |true=>jB ops w o (λkk w'=>opW T Γ w' o kk) λw'=>DQ P ops f (Ah.setIfInBounds k true) w' K
   |false=>False
def yE (ops:Array Oper) (E:List Nat) (Ah:Array Bool) (w:WS):List Nat->Prop->Prop
 | [],K=>K
 |r::R,K=>match rZ ops E Ah r with
  |true=>yE ops E Ah w R K
  |false=>(kV T Γ ops [r] w λw'=>Ie ((ops[r]?).bind (·.dst)) λd=>match Nat.blt d w.st.tmps.length with
    |true=>eqW ⟨[w.st.get d],[]⟩ ⟨[w'.st.get d],[]⟩
    |false=>False)/\yE ops E Ah w R K
def sl (ops:Array Oper) (E:List Nat):Nat->Array Bool->WS->(WS->Prop)->Prop
 |0,Ah,w,K=>yE T Γ ops E Ah w E (match Region.ready .any ops Ah with
  | []=>K w
  |_::_=>False)
 |f+1,Ah,w,K=>yE T Γ ops E Ah w E (match Region.ready .any ops Ah with
  | []=>False
  |i::r=>YT (i::r) λk=>Ie ops[k]? λo=>jB ops w o (λkk w'=>opW T Γ w' o kk) λw'=>sl ops E f (Ah.setIfInBounds k true) w' K)
def OE (E:List Nat) (n:Nat) (L0:Array Bool) (ops:Array Oper) (w:WS) (K:WS->Prop):Prop:=
 match cV ops E L0&&(Nat.ble E.length n&&Nat.ble (n-E.length) 10) with
 |true=>kV T Γ ops E w λw1=>an w1 λw1=>bM T Γ ops (n-E.length) (Em E L0) w1 λw0=>an w0 λw0=>K w0/\sl T Γ ops E (n-E.length) (Em E L0) w1 λw2=>an w2 λw2=>eqW w0.st w2.st
 |false=>False
def yY (P:List (Nat×Nat×AV×OB)) (n:Nat) (L0:Array Bool) (ops:Array Oper) (w:WS) (K:WS->Prop):Prop:=
 match (ao (P.map (·.1))&&ao (P.map (·.2.1)))&&((P.all λa=>pj a.2.1 w.st)&&(Nat.ble P.length n&&Nat.ble (n-P.length) 10)) with
 |true=>Aad T Γ ops (P.map (·.1)) w λw1=>an w1 λw1=>bM T Γ ops (n-P.length) (Em (P.map (·.1)) L0) w1 λw0=>an w0 λw0=>K w0/\DQ T Γ P ops (n-P.length) (Em (P.map (·.1)) L0) w1 λw2=>eqW w0.st w2.st
 |false=>OE T Γ (ki ops (List.range ops.size) L0) n L0 ops w K
def ja:Nat:=800000000
def HF (ops:Array Oper):Nat->Array Bool->Bool
 |0,Ah=>(Region.ready .any ops Ah).isEmpty
 |f+1,Ah=>match Region.ready .any ops Ah with
  | [i]=>HF ops f (Ah.setIfInBounds i true)
  |_=>false
def SL (ops:Array Oper) (L0:Array Bool):List Nat:=ki ops (List.range ops.size) L0
def xV (ops:Array Oper):Array Bool:=Em (Kr ops) (Array.replicate ops.size false)
def Ab4 (ops:Array Oper):Bool:=Region.noSelect ops&&(cV ops (SL ops (xV ops)) (xV ops)&&(Nat.ble (SL ops (xV ops)).length (ops.size-(Kr ops).length)&&Nat.ble ((ops.size-(Kr ops).length)-(SL ops (xV ops)).length) 10))
def eqM (fx:List Bool) (s0 s:St):Prop:=eqW (s0.mask fx) (s.mask fx)
def Sv (ops:Array Oper) (t:Nat):Bool:=!Zd ops t
def vA (ops:Array Oper):List Nat:=(ops.toList.filterMap λo=>match o.op with
 | .alloc _=>none
 | .box _ _=>none
 | .assign _=>none
 |_=>o.dst).filter λd=>ops.toList.any λo=>(o.looksAt ops).contains d
def WS.Qk (dead:List Nat) (w:WS):WS:= {kn:=w.kn.filter λp=>!dead.contains p.1,st:=w.st.Qk dead}
def Ab5 (dead E:List Nat) (n:Nat) (L0:Array Bool) (ops:Array Oper) (w:WS) (K:WS->Prop):Prop:=
 match cV ops E L0&&Nat.ble E.length n with
 |true=>kV T Γ ops E w λw1=>an w1 λw1=>match HF ops (n-E.length) (Em E L0) with
  |true=>sl T Γ ops E (n-E.length) (Em E L0) w1 λw2=>K (w2.Qk dead)
  |false=>fm (Kp (Sv ops) 0 w1.st.tmps) λfx=>bM T Γ ops (n-E.length) (Em E L0) w1 λw0=>an (w0.Qk dead) λw0=>K w0/\sl T Γ ops E (n-E.length) (Em E L0) w1 λw2=>an (w2.Qk dead) λw2=>eqM fx w0.st w2.st
 |false=>False
def rW (ops:Array Oper) (draw:Bool) (w:WS) (K:WS->Prop):Prop:=
 match draw with
 |true=>match cU false Γ ops with
  |true=>kV T Γ ops (jV false Γ ops) w λw'=>Aad T Γ ops (Jq false Γ ops) w' K
  |false=>match cU true Γ ops with
   |true=>kV T Γ ops (jV true Γ ops) w λw'=>Aad T Γ ops (Jq true Γ ops) w' K
   |false=>match Region.noSelect ops&&Nat.ble (ops.size-(Kr ops).length) 8 with
    |true=>kV T Γ ops (Kr ops) w λw'=>match jQ false ops&&!T.marks.contains ja with
     |true=>TE T Γ ops (ops.size-(Kr ops).length) (Em (Kr ops) (Array.replicate ops.size false)) w' K
     |false=>bM T Γ ops (ops.size-(Kr ops).length) (Em (Kr ops) (Array.replicate ops.size false)) w' λw0=>an w0 λw0=>K w0/\TE T Γ ops (ops.size-(Kr ops).length) (Em (Kr ops) (Array.replicate ops.size false)) w' λw1=>eqW w0.st w1.st
    |false=>match Region.noSelect ops with
     |true=>kV T Γ ops (Kr ops) w λw'=>yY T Γ (Zr T ops (Em (Kr ops) (Array.replicate ops.size false))) (ops.size-(Kr ops).length) (Em (Kr ops) (Array.replicate ops.size false)) ops w' K
     |false=>False
 |false=>Ajy T Γ ops ops.toList w K
def AW (ops:Array Oper) (draw:Bool) (w:WS) (K:WS->Prop):Prop:=
 match T.marks.contains ja&&(vA ops).all (Zd ops) with
 |true=>match draw&&(!(cU false Γ ops||cU true Γ ops)&&Ab4 ops) with
  |true=>kV T Γ ops (Kr ops) w λw'=>Ab5 T Γ (vA ops) (SL ops (xV ops)) (ops.size-(Kr ops).length) (xV ops) ops w' K
  |false=>rW T Γ ops draw w λw'=>K (w'.Qk (vA ops))
 |false=>rW T Γ ops draw w K
def dW (live:Nat->List Nat):Code->WS->(Lp->WS->Prop)->Prop
 | .skip,w,Q=>Q .normal w
 | .label _,w,Q=>Q .normal w
 | .region _ ops draw,w,Q=>AW T (AU Γ draw) ops draw {w with st:=w.st.mU ops} λw'=>an w' (Q .normal)
 | .seq a b,w,Q=>dW live a w λe w'=>match e with
  | .normal=>dW live b w' Q
  | .exit id=>Q (.exit id) w'
  | .ret=>Q .ret w'
 | .cond c a b,w,Q=>brO w c λt w'=>match t with
  |true=>dW live a w' Q
  |false=>dW live b w' Q
 | .block id c,w,Q=>dW live c w λe w'=>match e with
  | .normal=>Q .normal w'
  | .exit UG=>if UG=id then Q .normal w' else Q (.exit UG) w'
  | .ret=>Q .ret w'
 | .loop c,w,Q=>
  oW (w.st.clean (live (Fe c))) λs0=>fm (Kp (stays live c) 0 s0.tmps) λfx=>oW (s0.mask fx) λm=>
  BR (aj T.parts s0.tmps) s0 (Dm (V:=stV m) (λv k=>oW ((St.wj fx s0 (jy m v)).whole (aj T.parts s0.tmps)) λsb=>dW live c ⟨[],sb⟩ λe w'=>match e with
   | .normal=>oW (w'.st.clean (live (Fe c))) λs1=>BR (aj T.parts s0.tmps) s1 (Ie (jz m (s1.mask fx)) k)
   | .exit id=>Q (.exit id) w'
   | .ret=>Q .ret w') (SQ m))
 | .exit id,w,Q=>Q (.exit id) w
 | .ret,w,Q=>Q .ret w
 |_,_,_=>False
def Ai3 (s:Spec) (fn:Func) (P:s.res.den->Prop) (st:St):Prop:=
 Ie (ni T s fn st) λp=>match p.1||!s.fresh with|true=>P p.2|false=>False
def j4 (st:St) (K:Prop):List AC->List (Bool×CK)->Prop
 | .own l off len::as,(true,_)::r=>match st.at l with
  |some (.arr _ _ _ _ xs)=>(off=0/\len=xs.length)/\j4 st K as r
  |some (.Hf _ _ xs)=>(off=0/\len=xs.length)/\j4 st K as r
  |_=>False
 |_::as,(false,_)::r=>j4 st K as r
 |_,_=>K
def pq (st:St):(cs:List CK)->List AC->(CKs.den cs->List Nat->Prop)->Prop
 | [],[],K=>K () []
 | .Bl e te _::r, .own l off len::as,K=>match st.at l with
  |some (.Bl e' Ri rows none _)=>if h:e'=e/\Ri=te then (off=0/\len=rows.length)/\pq st r as λy t=>K ((h.1▸rows:List (List e.den)),y) (l::t) else False
  |_=>False
 |c::r,a::as,K=>Ie (kI st c a) λp=>pq st r as λy t=>K (p.1,y) (p.2++t)
 |_,_,_=>False
def zJ (st:St) (n:Nat) (as:List AC):List (Nat×Nat)->Prop->Prop
 | [],K=>K
 |(k,j)::r,K=>match as[j]? with
  |some (.own l _ _)=>match st.at l with
   |some (.Bl _ _ _ _ (some p))=>match Nat.beq p.1 (Dy false k)&&Nat.blt k 1000 with
    |true=>n<=p.2/\zJ st n as r K
    |false=>False
   |_=>False
  |_=>False
def uv (s:MSpec) (fn:Func) (x:Ins.den s.ins) (st:St) (cs:List AC) (P:CKs.den s.outs×IOs.den s.ins->Prop):Prop:=
 Ie (dB T st fn.results.toList) λl=>Ie (OI s st l) λp=>pq st s.outs (cs++p.1) λr ls=>Ie (Om st 0 s.ins) λo=>
  match ao (p.2++ls++Pu 0 s.ins)&&Nat.blt s.ins.length 1000&&Nat.blt s.outs.length 1000&&s.Aav with
  |true=>zJ st (s.Fk x) (cs++p.1) s.keeps (P (r,o))
  |false=>False
def SN (s:MSpec) (fn:Func) (x:Ins.den s.ins) (st:St) (P:CKs.den s.outs×IOs.den s.ins->Prop):Prop:=
 match s.ptr with
 |none=>uv T s fn x st [] P
 |some p=>match st.at Ox with
  |some (.var tid vs)=>match Nat.beq tid p.1&&Nat.beq vs.length p.2 with
   |true=>Ie (Jm 0 s.ins vs) λcs=>j4 st (uv T s fn x st cs P) vs s.ins
   |false=>False
  |_=>False
@[irreducible] def fnMW (s:MSpec) (fn:Func) (x:Ins.den s.ins) (P:CKs.den s.outs×IOs.den s.ins->Prop):Prop:=
 match Nat.blt s.ins.length 1000&&AP s with
 |false=>False
 |true=>Ie fn.body λc=>dW T Γ (zO T.marks fn c) c {kn:= [],st:= {tmps:=aC s (bR 0 s.ins x)++List.replicate (fn.ntmps-(aC s (bR 0 s.ins x)).length) .undef,heap:=qp s x} } λe w=>match e with
  | .normal=>SN T s fn x w.st P
  | .ret=>SN T s fn x w.st P
  | .exit _=>False
@[irreducible] def fnW (s:Spec) (fn:Func) (x:s.arg.den) (P:s.res.den->Prop):Prop:=
 Ie fn.body λc=>dW T Γ (zO T.marks fn c) c {kn:= [],st:= {tmps:=Tb s.arg x++List.replicate (fn.ntmps-(Tb s.arg x).length) .undef,heap:= []} } λe w=>match e with
  | .normal=>Ai3 T s fn P w.st
  | .ret=>Ai3 T s fn P w.st
  | .exit _=>False
end Go.Proofs.YtkkdpknjohcekaaGreat
