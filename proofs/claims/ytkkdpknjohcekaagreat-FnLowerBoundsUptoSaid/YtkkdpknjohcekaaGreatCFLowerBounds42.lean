/-
  Part 43 of the proof that the statement FnLowerBounds holds.
-/
import Derived.Test.YtkkdpknjohcekaaGreatCFLowerBounds41
namespace Go.Proofs.YtkkdpknjohcekaaGreat
open Go.RowKit
noncomputable def j7 (p:PP) (s:List Int):Int:=if Pe p s=true then Js (Ba p) (Dm p) s else-1
noncomputable def PV (p:PP) (ts:List TT) (s:List Int):Int:=if (Pe p s&&Dw p ts)=true then Js (Ba p) (Dm p) s-It ts s else-1
noncomputable abbrev eL:Spec:=Gu (.pair Hk (.pair tL .unit)) (.pair bj (.pair tI (.pair .bool .unit))) true false (λx=>Dp x.1/\short x.2.1) (λx=>((Ex x.1).1,j7 x.1 x.2.1,Pe x.1 x.2.1,()))
noncomputable abbrev mz:Spec:=Gu (.pair Hk (.pair tL .unit)) tI false true (λx=>Dp x.1/\short x.2.1) (λx=>j7 x.1 x.2.1)
noncomputable abbrev uh:Spec:=Gu (.pair Hk (.pair tTS (.pair tL .unit))) tI false true (λx=>Dp x.1/\Lw x.2.1/\short x.2.2.1) (λx=>PV x.1 x.2.1 x.2.2.1)
theorem Ab9 (p:Int×ByteArray×List (List Int)×Unit) (s:List Int) (P:((List (List Int)×List Int×List Int×Bool×Unit)×Int×Bool×Unit)->Prop):(∃(y3:(List (List Int)×List Int×List Int×Bool×PUnit)×Bool×PUnit),Zl.fn ((p.1,p.2.1,p.2.2.1,()),())=some y3/\Br (!y3.2.1) (P ((y3.1.1,y3.1.2.1,y3.1.2.2.1,y3.1.2.2.2.1,()),(-1:Int),false,())) (∃(y4:Bool),Ji.fn ((p.1,p.2.1,p.2.2.1,()),s,())=some y4/\Br (!y4) (P ((y3.1.1,y3.1.2.1,y3.1.2.2.1,y3.1.2.2.2.1,()),(-1:Int),false,())) (∃(y5:Int),bu.fn ((y3.1.1,y3.1.2.1,y3.1.2.2.1,y3.1.2.2.2.1,()),s,())=some y5/\P ((y3.1.1,y3.1.2.1,y3.1.2.2.1,y3.1.2.2.2.1,()),y5,decide (y5>=(0:Int)),()))))=fnW Fz (look [(114,Zl),(64,Ji),(115,bu)]) eL Tryz.f52 (p,s,()) P:=by kernel_rfl
theorem Air (p:Int×ByteArray×List (List Int)×Unit) (s:List Int) (P:Int->Prop):(∃(y3:(List (List Int)×List Int×List Int×Bool×PUnit)×Int×Bool×PUnit),eL.fn ((p.1,p.2.1,p.2.2.1,()),s,())=some y3/\Br (!y3.2.2.1) (P (-1:Int)) (P y3.2.1))=fnW Fz (look [(52,eL)]) mz Tryz.f13 (p,s,()) P:=by kernel_rfl
theorem US (p:Int×ByteArray×List (List Int)×Unit) (ts:List (List Int×List (List Int)×List Int×Unit)) (s:List Int) (P:Int->Prop):(∃(y4:Option ((Int×ByteArray×List (List Int)×PUnit)×List (List Int)×List Int×(ByteArray->Option Int)×List Int×List Int×List (List Int)×PUnit)×Int×Bool×PUnit),bx.fn ((p.1,p.2.1,p.2.2.1,()),s,())=some y4/\Br (!y4.2.2.1) (P (-1:Int)) (∃(y5:Bool),Qz.fn ((p.1,p.2.1,p.2.2.1,()),ts,())=some y5/\Br (!y5) (P (-1:Int)) (∃(y6:(Int×ByteArray×List (List Int)×PUnit)×List (List Int)×List Int×(ByteArray->Option Int)×List Int×List Int×List (List Int)×PUnit),y4.1=some y6/\ ∃(y7:Int),idx y6.2.2.1 y4.2.1=some y7/\ ∃(y8:Option (List (List Int×List (List Int)×List Int×PUnit)×List (ByteArray->Option Int)×PUnit)),Ok.fn (ts,())=some y8/\ ∃(y9:Int),Ph.fn (y8,s,())=some y9/\P (IntKind.i64.wrap (y7-y9)))))=fnW Fz (look [(59,bx),(60,Qz),(61,Ok),(57,Ph)]) uh Tryz.f20 (p,ts,s,()) P:=by kernel_rfl
theorem qc {p:PP} {s:List Int} (h:Pe p s=true):Mk p s=true:=by
 obtain ⟨hw,hs⟩:=jQ.1 h
 have hv:=(Gm hw).1
 exact DF hv ((jk hv).gen s hs)
theorem RN {p:PP} {s:List Int} (h:Pe p s=true):0<=Js (Ba p) (Dm p) s/\Js (Ba p) (Dm p) s<=3000:=by
 obtain ⟨hw,hs⟩:=jQ.1 h
 exact oQ hw hs
theorem ZP (p:PP) (s:List Int) (h:Dp p/\short s):fnW Fz (look [(114,Zl),(64,Ji),(115,bu)]) eL Tryz.f52 (p,s,()) (λ(z:SS×Int×Bool×Unit)=>z=((Ex p).1,j7 p s,Pe p s,())):=by
 refine Eq.mp (Ab9 p s _) ⟨_,Ab h.1,?_⟩
 by_cases hw:Fp p=true
 ·have hv:=(Gm hw).1
  have e1:Ex p=(Ka p.2.2.1 (upto p.1.toNat),true,()):=by unfold Ex;rw [Ab hv,hw]
  show Br (!(Ex p).2.1) _ _
  refine ⟨λhb=>by rw [e1] at hb;simp at hb,λ_=>⟨_,Ab h,?_⟩⟩
  show Br (!(Bm p&&Hq p.1 s)) _ _
  rw [hv,Qe]
  unfold j7 Pe
  rw [hw,Qe]
  refine Br.of (λhb=>?_) λhb=>?_
  ·have hm: ¬s∈Ba p:= λhm=>by rw [Aa5 hv hm] at hb;cases hb
   rw [Fu hm,Aj (by decide)]
  ·have hb:Hq p.1 s=true:=by simpa using hb
   have hpm:=JN (valid hv) hb
   refine ⟨_,Ab ⟨by show Gw s.length (Ex p).1.1 (Ex p).1.2.2.1;rw [e1,hpm.1];exact (jB hv).ok,by show (Ex p).1.2.1.length=(Ex p).1.1.length;rw [e1];exact (jB hv).len⟩,?_⟩
   have WY:Js (Ex p).1.1 (Ex p).1.2.1 s=Js (Ba p) (Dm p) s:=by rw [e1];rfl
   by_cases hm:s∈Ba p
   ·have hd:=(oQ hw hm).1
    rw [Ec hm,Ab rfl]
    show (_,Js (Ex p).1.1 (Ex p).1.2.1 s,decide (Js (Ex p).1.1 (Ex p).1.2.1 s>=0),())=_
    rw [WY,Ec hd]
   ·have hd:Js (Ba p) (Dm p) s= -1:=Aj hm
    rw [Fu hm,Aj (by decide)]
    show (_,Js (Ex p).1.1 (Ex p).1.2.1 s,decide (Js (Ex p).1.1 (Ex p).1.2.1 s>=0),())=_
    rw [WY,hd]
    rfl
 ·have e1:(Ex p).2.1=false:=by
   unfold Ex
   by_cases hv:Bm p=true
   ·rw [Ab hv];exact Hc _|>.mp hw
   ·rw [Aj hv]
  show Br (!(Ex p).2.1) _ _
  rw [e1]
  refine ⟨λ_=>?_,λhb=>by simp at hb⟩
  have hf:Pe p s=false:=by unfold Pe;rw [Hc _|>.mp hw,Bool.false_and]
  unfold j7
  rw [hf,Aj (by decide)]
theorem AB:Sound Tryz.prog 52 eL:=
 Sound.Gu Dq (Aw uF (Aw Xp (Aw wa Bn))) mixed Tryz.func52 (by kernel_rfl) (by kernel_rfl) λx h=>ZP x.1 x.2.1 h
theorem Ai3 (p:PP) (s:List Int) (h:Dp p/\short s):fnW Fz (look [(52,eL)]) mz Tryz.f13 (p,s,()) (λ(z:Int)=>z=j7 p s):=by
 refine Eq.mp (Air p s _) ⟨_,Ab h,?_⟩
 show Br (!Pe p s) _ _
 refine Br.of (λhb=>?_) λ_=>rfl
 unfold j7
 rw [Aj (Hy hb)]
theorem MQ:Sound Tryz.prog 13 mz:=
 Sound.Gu Dq (Aw AB Bn) mixed Tryz.func13 (by kernel_rfl) (by kernel_rfl) λx h=>Ai3 x.1 x.2.1 h
theorem SV (p:PP) (ts:List TT) (s:List Int) (h:Dp p/\Lw ts/\short s):fnW Fz (look [(59,bx),(60,Qz),(61,Ok),(57,Ph)]) uh Tryz.f20 (p,ts,s,()) (λ(z:Int)=>z=PV p ts s):=by
 refine Eq.mp (US p ts s _) ⟨_,Ab ⟨h.1,h.2.2⟩,?_⟩
 show Br (!(Vw p s).2.2.1) _ _
 rw [JK]
 unfold PV
 refine Br.of (λhf=>?_) λhf=>?_
 ·rw [Ag2 hf,Bool.false_and,Aj (by decide)]
 have hf:Pe p s=true:=by simpa using hf
 obtain ⟨hw,hm⟩:=jQ.1 hf
 rw [hf,Qe]
 refine ⟨_,Ab ⟨h.1,h.2.1⟩,?_⟩
 show Br (!Dw p ts) _ _
 refine Br.of (λht=>?_) λht=>?_
 ·rw [Aj (Hy ht)]
 have ht:Dw p ts=true:=by simpa using ht
 have hex:Vw p s=(some (Rx p),(pb p s).1,(pb p s).2.1,()):=Ab hw
 obtain ⟨a,b,_⟩:=eu (p:=p) (ts:=ts) (s:=s) (by unfold Sw;rw [qc hf,ht];rfl)
 have hl:=PS a b
 have hd:=RN hf
 have Aqh:(Rx p).2.2.1=Dm p:=Ag9 (e:=Rx p) ⟨hw,rfl⟩
 have hix:(pb p s).1=((Ba p).idxOf s:Nat):=by unfold pb;rw [Ab hm]
 have hlen:(Dm p).length=(Ba p).length:=(jB (Gm hw).1).len
 have hi:=List.idxOf_lt_length_of_mem hm
 have hdi:idx (Dm p) (((Ba p).idxOf s:Nat):Int)=some (Js (Ba p) (Dm p) s):=by
  rw [Cd (by omega),<-Ag4 hm,Ah,Ac (by omega)]
  rfl
 rw [Ab ht]
 refine ⟨Rx p,Dk Prod.fst hex,Js (Ba p) (Dm p) s,?_,_,Ab a,_,Ab ⟨ts,a,rfl,b⟩,?_⟩
 ·show idx (Rx p).2.2.1 (Vw p s).2.1=_
  rw [hex,Aqh]
  show idx (Dm p) (pb p s).1=_
  rw [hix,hdi]
 ·show IntKind.i64.wrap (Js (Ba p) (Dm p) s-It ts s)=_
  rw [Cy (by omega) (by omega)]
theorem we:Sound Tryz.prog 20 uh:=
 Sound.Gu Dq (Aw wb (Aw ct (Aw gN (Aw de Bn)))) mixed Tryz.func20 (by kernel_rfl) (by kernel_rfl) λx h=>SV x.1 x.2.1 x.2.2.1 h
noncomputable abbrev xQ:MSpec:=lg [none,none] [(false, .Ft (.optr dk)),(false, .Ft tL)] false [none] [rL] (λx=>QQ x.1 x.2.1) (λx=>((EI x.1 x.2.1,()),()))
noncomputable def nQ (p:PP) (ts:List TT) (s:List Int):List Int:=if Sw p ts s=true then Hp ts s else []
noncomputable abbrev Zh:MSpec:=lg [some 3,none,none] [(false, .Ft tI),(false, .Ft .str),(false, .Ft mE),(false, .Ft tTS),(false, .Ft tL)] false [none] [rL] (λx=>Dp (x.1,x.2.1,x.2.2.1,())/\Lw x.2.2.2.1/\short x.2.2.2.2.1) (λx=>((nQ (x.1,x.2.1,x.2.2.1,()) x.2.2.2.1 x.2.2.2.2.1,()),()))
abbrev Aaa:Type:=List (List Int×List (List Int)×List Int×PUnit)×List (ByteArray->Option Int)×PUnit
theorem Ani (b:Option (List (List Int×List (List Int)×List Int×Unit)×List (ByteArray->Option Int)×Unit)) (s:List Int) (P:((List Int×Unit)×Unit)->Prop):(∃(y3:Aaa),b=some y3/\0=0/\0=([]:List Int).length/\Dl (λ(v4:Int×List Int×PUnit) (k5:Int×List Int×PUnit->Prop)=>Br (decide (v4.1<(↑y3.1.length:Int))) (∃(y6:List Int×List (List Int)×List Int×PUnit),idx y3.1 v4.1=some y6/\ ∃(y7:Aaa),b=some y7/\ ∃(y8:ByteArray->Option Int),idx y7.2.1 v4.1=some y8/\ ∃(y9:List Int),Tq.fn (s,y6.1,())=some y9/\ ∃(Ki:ByteArray),Dx.fn (y9,())=some Ki/\0=0/\v4.2.1.length=v4.2.1.length/\v4.2.1.length+(List.take 1 (List.drop 0 [(y8 Ki).getD (Int.ofNat (nat_lit 0))])).length<=Cn/\0=0/\(v4.2.1++List.take 1 (List.drop 0 [(y8 Ki).getD (Int.ofNat (nat_lit 0))])).length=(v4.2.1++List.take 1 (List.drop 0 [(y8 Ki).getD (Int.ofNat (nat_lit 0))])).length/\k5 (IntKind.i64.wrap (v4.1+(1:Int)),v4.2.1++List.take 1 (List.drop 0 [(y8 Ki).getD (Int.ofNat (nat_lit 0))]),())) (P ((List.take v4.2.1.length (List.drop 0 v4.2.1),()),()))) ((0:Int),[],PUnit.unit))=fnMW Ul (look [(121,Dx),(79,Tq)]) xQ Tryz.f62 (b,s,()) P:=by kernel_rfl
theorem UT (n:Int) (str:ByteArray) (g:List (List Int)) (ts:List (List Int×List (List Int)×List Int×Unit)) (s:List Int) (P:((List Int×Unit)×Unit)->Prop):(∃(y6:Option (List (List Int×List (List Int)×List Int×PUnit)×List (ByteArray->Option Int)×PUnit)×Bool×PUnit),Ju.fn ((n,str,g,()),ts,s,())=some y6/\Br (!y6.2.1) (P ((List.take 0 (List.drop 0 []),()),())) (∃(y7:(List Int×PUnit)×PUnit),xQ.fn (y6.1,s,())=some y7/\P ((List.take y7.1.1.length (List.drop 0 y7.1.1),()),())))=fnMW Ul (look [(54,Ju),(62,xQ)]) Zh Tryz.f21 (n,str,g,ts,s,()) P:=by kernel_rfl
theorem Amt (b:Option BB) (s:List Int) (h:QQ b s):fnMW Ul (look [(121,Dx),(79,Tq)]) xQ Tryz.f62 (b,s,()) (λ(z:(List Int×Unit)×Unit)=>z=((EI b s,()),())):=by
 obtain ⟨ts,⟨h4,hd⟩,rfl,hs⟩:=h
 refine Eq.mp (Ani _ s _) ⟨Xc ts,rfl,rfl,rfl,?_⟩
 refine Bw ts.length (λv=>v.1) (λi v=>v=((i:Int),Hp (ts.take i) s,())) rfl rfl ?_
 rintro i v K hi hii rfl hK
 dsimp only
 refine Br.dec (λhl=>?_) λhl=>?_
 ·have hl:i<ts.length:=by have hl:(i:Int)<(ts.length:Int):=hl;omega
  have WW:=hd _ (Ak hl)
  obtain ⟨gY,oG⟩:=hs.2 _ (Ak hl)
  have htl:=WW.tl
  have jV:=WW.pl _ oG
  refine ⟨ts[i],Cd hl,Xc ts,rfl,Sy ts[i],?_,_,Ab ⟨by show (ts[i]).1.length<=4294967296;omega,gY⟩,_,Ab (by show (Dv s (ts[i]).1).length<=4294967296;omega),rfl,rfl,?_,rfl,rfl,?_⟩
  ·show idx (ts.map Sy) (i:Int)=_
   rw [Cd (by rw [Dd];exact hl),Tx]
  ·show (Hp (ts.take i) s).length+1<=4294967296
   rw [mS,De];omega
  ·rw [Bv (by omega)]
   refine hK hl _ rfl ?_
   rw [wU hl,show Sy ts[i] (Mp (Dv s (ts[i]).1))=some (Se ts[i] s) from HC WW oG]
   rfl
 ·have:i=ts.length:=by have hl: ¬(i:Int)<(ts.length:Int):=hl;omega
  subst this
  rw [Ch,Ax]
  rfl
theorem TY:Dc Tryz.prog 62 xQ:=
 Dc.lg Tf (Aw Px (Aw lq Bn)) mixed Tryz.func62 (by kernel_rfl) (by kernel_rfl) λx h=>Amt x.1 x.2.1 h
theorem SW (n:Int) (str:ByteArray) (g:List (List Int)) (ts:List TT) (s:List Int) (h:Dp (n,str,g,())/\Lw ts/\short s):fnMW Ul (look [(54,Ju),(62,xQ)]) Zh Tryz.f21 (n,str,g,ts,s,()) (λ(z:(List Int×Unit)×Unit)=>z=((nQ (n,str,g,()) ts s,()),())):=by
 refine Eq.mp (UT n str g ts s _) ?_
 unfold nQ
 by_cases hh:Sw (n,str,g,()) ts s=true
 ·obtain ⟨a,b,_⟩:=eu hh
  rw [Ab hh]
  refine ⟨_,(Ab h).trans (Dk some (Ab hh)),λhb=>by simp at hb,λ_=>⟨_,Ab ⟨ts,a,rfl,b⟩,?_⟩⟩
  dsimp only
  rw [Ch]
  rfl
 ·rw [Aj hh]
  exact ⟨_,(Ab h).trans (Dk some (Aj hh)),λ_=>rfl,λhb=>by simp at hb⟩
theorem wg:Dc Tryz.prog 21 Zh:=
 Dc.lg Tf (Aw Xn (Fv TY Bn)) mixed Tryz.func21 (by kernel_rfl) (by kernel_rfl) λx h=>SW x.1 x.2.1 x.2.2.1 x.2.2.2.1 x.2.2.2.2.1 h
theorem Pl.sub {g:List (List Int)} {ls:List Int} {L:List (List Int)} {S S':List Int->Prop} {d d':List Int->Int} (hc:lI g ls L) (h:Pl g ls L S d) (h':Pl g ls L S' d') (hS: ∀x∈L,S' x->S x):
  ∀(n:Nat) (x:List Int),x∈L->d' x=n->d x<=n
 |0,x,hx,e=>by
  have:=(h.zero x hx).2 (hS x hx ((h'.zero x hx).1 e))
  omega
 |n+1,x,hx,e=>by
  obtain ⟨l,hl,hd⟩:=h'.down x hx (by omega)
  obtain ⟨b1,b2⟩:=hc.back x hx l hl
  have h1:=Pl.sub hc h h' hS n _ (hc.next x hx l hl) (by omega)
  have h2:=h.step _ (hc.next x hx l hl) _ b1
  rw [b2] at h2
  omega
theorem oP {p:PP} {t:TT} (hw:Fp p=true) (ht:Gl p t=true) {s:List Int} (hs:s∈Ba p):Se t s=EJ p t.1 (Dv s t.1):=by
 obtain ⟨_,h3,_,e1,e2⟩:=bH ht
 have hm:=LS hw h3 s hs
 unfold Se
 rw [e1,e2]
 exact (Ab hm).symm
theorem QY {p:PP} {t:TT} (hw:Fp p=true) (ht:Gl p t=true) {s:List Int} (hs:s∈Ba p):Se t s<=Js (Ba p) (Dm p) s:=by
 obtain ⟨_,h3,_,_,_⟩:=bH ht
 have hv:=(Gm hw).1
 rw [oP hw ht hs]
 have hn:=(Wt hw).nn s hs
 have:=Pl.sub (Zn hw) (FV hw h3) (Wt hw) (λx _ hx=>by rw [hx,(Qg hv).1];exact Ahn h3) (Js (Ba p) (Dm p) s).toNat s hs (by omega)
 omega
theorem nv {m:Int} : ∀(xs:List Int) (a:Int),a<=m->(∀x∈xs,x<=m)->xs.foldl max a<=m
 | [],a,h,_=>h
 |x::xs,a,h,hx=>nv xs (max a x) (by have:=hx x (Ky ..);omega) λy hy=>hx y (An _ hy)
theorem jZ: ∀(xs:List Int) (a:Int),a<=xs.foldl max a/\ ∀x∈xs,x<=xs.foldl max a
 | [],a=>⟨Rb _,λx hx=>by cases hx⟩
 |y::xs,a=>by
  obtain ⟨h1,h2⟩:=jZ xs (max a y)
  refine ⟨by show a<=xs.foldl max (max a y);omega,λx hx=>?_⟩
  show x<=xs.foldl max (max a y)
  rcases Bd.1 hx with rfl|hx
  ·omega
  ·exact h2 x hx
theorem PT {p:PP} {ts:List TT} (hw:Fp p=true) (ht:Dw p ts=true) {s:List Int} (hs:s∈Ba p):It ts s<=Js (Ba p) (Dm p) s:=by
 refine nv _ _ ((Wt hw).nn s hs) λx hx=>?_
 obtain ⟨t,Tj,rfl⟩:=Be.1 hx
 exact QY hw ((Qp ht).2.2 t Tj) hs
theorem IU {p:PP} {t:TT} (hw:Fp p=true) (ht:Gl p t=true) {s:List Int} (hs:s∈Ba p) {l:Int} (hl:l∈Bi p.2.2.1.length):
  Se t s-1<=Se t (Ai s (Au p.2.2.1 l))/\Se t (Ai s (Au p.2.2.1 l))<=Se t s+1:=by
 obtain ⟨_,h3,_,_,_⟩:=bH ht
 have hc:=Zn hw
 have hd:=FV hw h3
 rw [oP hw ht hs,oP hw ht (hc.next s hs l hl)]
 exact ⟨Pl.SI hc hd hs hl,hd.step s hs l hl⟩
theorem YQ {p:PP} {ts:List TT} (hw:Fp p=true) (ht:Dw p ts=true) {s:List Int} (hs:s∈Ba p) {l:Int} (hl:l∈Bi p.2.2.1.length):
  It ts s-1<=It ts (Ai s (Au p.2.2.1 l))/\It ts (Ai s (Au p.2.2.1 l))<=It ts s+1:=by
 have hb:= λt Tj=>IU hw ((Qp ht).2.2 t Tj) hs hl
 constructor
 ·have:It ts s<=It ts (Ai s (Au p.2.2.1 l))+1:=by
   refine nv _ _ (by have:=(jZ (Hp ts (Ai s (Au p.2.2.1 l))) 0).1;show (0:Int)<=It ts _+1;unfold It;omega) λx hx=>?_
   obtain ⟨t,Tj,rfl⟩:=Be.1 hx
   have h1:=(jZ (Hp ts (Ai s (Au p.2.2.1 l))) 0).2 _ (Be.2 ⟨t,Tj,rfl⟩)
   have h2:=(hb t Tj).1
   unfold It
   omega
  omega
 ·refine nv _ _ (by have:=(jZ (Hp ts s) 0).1;show (0:Int)<=It ts _+1;unfold It;omega) λx hx=>?_
  obtain ⟨t,Tj,rfl⟩:=Be.1 hx
  have h1:=(jZ (Hp ts s) 0).2 _ (Be.2 ⟨t,Tj,rfl⟩)
  have h2:=(hb t Tj).2
  unfold It
  omega
theorem YP (ts:List TT) (t:TT) (s:List Int):It ts s<=It (ts++ [t]) s:=by
 unfold It Hp
 rw [Iy,cG]
 show _<=max _ _
 omega
theorem mW {p:PP} (hw:Fp p=true): ∀(n:Nat) (x y:List Int),x∈Ba p->y∈Ba p->Js (Ba p) (Dm p) x=n->
  Ai y (Bg x)∈Ba p/\Js (Ba p) (Dm p) (Ai y (Bg x))<=Js (Ba p) (Dm p) y+n
 |0,x,y,hx,hy,e=>by
  have hv:=(Gm hw).1
  have hn:=(valid hv).n
  have h0:=((Wt hw).zero x hx).1 e
  have XE:x=upto p.1.toNat:=by rw [h0];exact (Qg hv).1
  have:Ai y (Bg x)=y:=by
   rw [XE,KF (by omega) (by omega)]
   exact comp_id (gP hv hy)
  rw [this]
  exact ⟨hy,by omega⟩
 |n+1,x,y,hx,hy,e=>by
  have hv:=(Gm hw).1
  have hV:=valid hv
  obtain ⟨l,hl,hd⟩:=(Wt hw).down x hx (by omega)
  have hL:=eB hV (Ku hl)
  have hpx:=gP hv hx
  have hpy:=gP hv hy
  have hc:=Zn hw
  have hx1:=hc.next x hx l hl
  have tb:=gP hv hx1
  have ex:x=Ai (Ai x (Au p.2.2.1 l)) (Bg (Au p.2.2.1 l)):=by
   rw [Hb hpx hL hL.inv,dX hL,comp_id hpx]
  have ei:Bg x=Ai (Au p.2.2.1 l) (Bg (Ai x (Au p.2.2.1 l))):=by
   have:=Dk Bg ex
   rw [inv_mul tb hL.inv,inv_inv hL] at this
   exact this
  obtain ⟨h1,h2⟩:=mW hw n _ (Ai y (Au p.2.2.1 l)) hx1 (hc.next y hy l hl) (by omega)
  have h3:=(Wt hw).step y hy l hl
  rw [ei,<-Hb hpy hL tb.inv]
  exact ⟨h1,by omega⟩
theorem Ac5 {p:PP} (hw:Fp p=true) {s:List Int} (hs:s∈Ba p):Bg s∈Ba p/\Js (Ba p) (Dm p) (Bg s)=Js (Ba p) (Dm p) s:=by
 have hv:=(Gm hw).1
 have hn:=(valid hv).n
 have key: ∀s,s∈Ba p->Bg s∈Ba p/\Js (Ba p) (Dm p) (Bg s)<=Js (Ba p) (Dm p) s:= λs hs=>by
  have h0:=(Wt hw).nn s hs
  obtain ⟨h1,h2⟩:=mW hw (Js (Ba p) (Dm p) s).toNat s (upto p.1.toNat) hs (Qg hv).2 (by omega)
  have hz:=((Wt hw).zero _ (Qg hv).2).2 (Qg hv).1.symm
  rw [id_comp (gP hv hs).inv] at h1 h2
  exact ⟨h1,by omega⟩
 obtain ⟨h1,h2⟩:=key s hs
 have h3:=(key _ h1).2
 rw [inv_inv (gP hv hs)] at h3
 exact ⟨h1,by omega⟩
abbrev tB:Ty:= .slice (.int .u8)
abbrev IF:Ty:= .int .u64
def hN (h:Int):Int:=IntKind.u64.wrap (IntKind.u64.wrap (h*(6364136223846793005:Int))+(1442695040888963407:Int))
def xN (h:Int):Int:=IntKind.i64.wrap (IntKind.u64.wrap (↑(BitVec.ofInt IntKind.u64.bits (h.fdiv ((2:Int)^min (Int.toNat (33:Int)) IntKind.u64.bits))&&&BitVec.ofInt IntKind.u64.bits (16777215:Int)).toNat:Int))
def dI (b:List Int) (i:Int):Int:=if i<(b.length:Int) then i+1 else i
def dR (b:List Int) (i h n:Int):Int:=if i<(b.length:Int) then (xN (hN h)+Hu b i).tmod n else (xN (hN h)).tmod n
structure Ya (b:List Int) (i:Int):Prop where
 len:b.length<=4096
 byte: ∀y∈b,0<=y/\y<256
 lo:0<=i
 hi:i<=b.length
def GD:List Int->Int->Int
 | [],h=>h
 |c::r,h=>GD r (IntKind.u64.wrap (IntKind.u64.wrap (IntKind.u64.wrap (h*(1099511628211:Int))+IntKind.u64.wrap c)+(3:Int)))
def pd (b:List Int) (s:Int):Int:=GD b (IntKind.u64.wrap (IntKind.u64.wrap (s*(7919:Int))+IntKind.u64.wrap (b.length:Int)))
def ag (b:List Int) (i h m:Int):Int×Int×Int:=(dI b (dI b i),hN (hN h),if dR b (dI b i) (hN h) 2=0 then-(1+dR b i h m) else 1+dR b i h m)
def wGo (b:List Int) (m:Int):Nat->Int->Int->List Int->Int×Int×List Int
 |0,i,h,w=>(i,h,w)
 |k+1,i,h,w=>wGo b m k (ag b i h m).1 (ag b i h m).2.1 (w++ [(ag b i h m).2.2])
def Vx (b:List Int) (i h m k:Int):Int×Int×List Int:=wGo b m (dR b i h (k+1)).toNat (dI b i) (hN h) []
def gg (b:List Int) (n:Int):Nat->Int->Int->List Int->Int×Int×List Int
 |0,i,h,mv=>(i,h,mv)
 |k+1,i,h,mv=>gg b n k (dI b (dI b i)) (hN (hN h)) ((mv.set (dR b i h n).toNat (Hu mv (dR b (dI b i) (hN h) n))).set (dR b (dI b i) (hN h) n).toNat (Hu mv (dR b i h n)))
def ph (b:List Int) (n i h:Int):Int×Int×List Int:=gg b n (1+dR b i h 3).toNat (dI b i) (hN h) (upto n.toNat)
def aP (b:List Int) (n:Int):Nat->Int->Int->List (List Int)->Int×Int×List (List Int)
 |0,i,h,ms=>(i,h,ms)
 |k+1,i,h,ms=>aP b n k (ph b n i h).1 (ph b n i h).2.1 (ms++ [(ph b n i h).2.2])
def ZA:ByteArray:= {data:= #[(65:UInt8),(66:UInt8)]}
def aO (b:List Int) (i h:Int):Int×Int×PP:=((aP b (3+dR b i h 3) 2 (dI b i) (hN h) []).1,(aP b (3+dR b i h 3) 2 (dI b i) (hN h) []).2.1,(3+dR b i h 3,ZA,(aP b (3+dR b i h 3) 2 (dI b i) (hN h) []).2.2,()))
def VN (b:List Int) (n:Int):Nat->Int->Int->Int->List Int->Int×Int×List Int
 |0,_,i,h,o=>(i,h,o)
 |f+1,j,i,h,o=>if j<n/\o.length<3 then VN b n f (j+1) (dI b i) (hN h) (if dR b i h 2=0 then o++ [j] else o) else (i,h,o)
def WK (b:List Int) (n:Int) (r:Int×Int×List Int):Int×Int×List Int:=if r.2.2.length=0 then (dI b r.1,hN r.2.1,r.2.2++ [dR b r.1 r.2.1 n]) else r
def Nd (b:List Int) (i h n:Int):Int×Int×List Int:=WK b n (VN b n n.toNat 0 i h [])
noncomputable abbrev Ahp:MSpec:= {Jl:= [none,none],ins:= [(false, .Ft tB),(false, .Ft IF)],Im:=false,Ip:= [none,none,none],outs:= [.Ft tB, .Ft tI, .Ft IF],fn:= λ_=>none,rp:=some 69}
noncomputable abbrev pF:MSpec:=lf Ahp (λx=>List.length x.1<=4096) (λx=>((x.1,0,pd x.1 x.2.1,()),()))
noncomputable abbrev Ad3:MSpec:= {ptr:=some (69,3),Jl:= [none],ins:= [(false, .Ft tB),(false, .Ft tI),(false, .Ft IF),(false, .Ft tI)],Im:=false,Ip:= [none],outs:= [.Ft tB, .Ft tI, .Ft IF, .Ft tI],fn:= λ_=>none}
noncomputable abbrev Iq:MSpec:=lf Ad3 (λx=>Ya x.1 x.2.1/\1<=x.2.2.2.1) (λx=>((x.1,dI x.1 x.2.1,hN x.2.2.1,dR x.1 x.2.1 x.2.2.1 x.2.2.2.1,()),()))
noncomputable abbrev eI:MSpec:=lg [none] [(false, .Ft tI)] false [none] [rL] (λx=>0<=x.1/\x.1<=20) (λx=>((upto x.1.toNat,()),()))
noncomputable abbrev bD:MSpec:=lg [none] [(false, .Ft tI)] false [none] [rL] (λx=>1<=x.1/\x.1<=20) (λx=>((upto x.1.toNat,()),()))
noncomputable abbrev Ux:Spec:=Gu (.pair tI .unit) tL false true (λx=>1<=x.1/\x.1<=20) (λx=>upto x.1.toNat)
noncomputable abbrev xM:Spec:=Gu (.pair tB .unit) .bool false true (λ_=>True) (λx=>decide ((List.length x.1:Int)>4096))
noncomputable abbrev Amd:MSpec:= {ptr:=some (69,3),Jl:= [],ins:= [(false, .Ft tB),(false, .Ft tI),(false, .Ft IF)],Im:=false,Ip:= [some 3],outs:= [.Ft tB, .Ft tI, .Ft IF, .Ft tI, .Ft .str,rLL],fn:= λ_=>none}
noncomputable abbrev xT:MSpec:=lf Amd (λx=>Ya x.1 x.2.1) (λx=>((x.1,(aO x.1 x.2.1 x.2.2.1).1,(aO x.1 x.2.1 x.2.2.1).2.1,(aO x.1 x.2.1 x.2.2.1).2.2.1,(aO x.1 x.2.1 x.2.2.1).2.2.2.1,(aO x.1 x.2.1 x.2.2.1).2.2.2.2.1,()),()))
noncomputable abbrev Amc:MSpec:= {ptr:=some (69,3),Jl:= [none],ins:= [(false, .Ft tB),(false, .Ft tI),(false, .Ft IF),(false, .Ft tI)],Im:=false,Ip:= [none],outs:= [.Ft tB, .Ft tI, .Ft IF, .Ft tI],fn:= λ_=>none}
noncomputable abbrev xS:MSpec:=lf Amc (λx=>Ya x.1 x.2.1/\1<=x.2.2.2.1/\x.2.2.2.1<=8) (λx=>((x.1,(ag x.1 x.2.1 x.2.2.1 x.2.2.2.1).1,(ag x.1 x.2.1 x.2.2.1 x.2.2.2.1).2.1,(ag x.1 x.2.1 x.2.2.1 x.2.2.2.1).2.2,()),()))
noncomputable abbrev Amg:MSpec:= {ptr:=some (69,3),Jl:= [none,none],ins:= [(false, .Ft tB),(false, .Ft tI),(false, .Ft IF),(false, .Ft tI),(false, .Ft tI)],Im:=false,Ip:= [none],outs:= [.Ft tB, .Ft tI, .Ft IF,rL],fn:= λ_=>none}
noncomputable abbrev qF:MSpec:=lf Amg (λx=>Ya x.1 x.2.1/\(1<=x.2.2.2.1/\x.2.2.2.1<=8)/\0<=x.2.2.2.2.1/\x.2.2.2.2.1<=20) (λx=>((x.1,(Vx x.1 x.2.1 x.2.2.1 x.2.2.2.1 x.2.2.2.2.1).1,(Vx x.1 x.2.1 x.2.2.1 x.2.2.2.1 x.2.2.2.2.1).2.1,(Vx x.1 x.2.1 x.2.2.1 x.2.2.2.1 x.2.2.2.2.1).2.2,()),()))
noncomputable abbrev Amf:MSpec:= {ptr:=some (69,3),Jl:= [some 3],ins:= [(false, .Ft tB),(false, .Ft tI),(false, .Ft IF),(false, .Ft tI),(false, .Ft .str),(false, .Ft mE)],Im:=false,Ip:= [none],outs:= [.Ft tB, .Ft tI, .Ft IF,rL],fn:= λ_=>none}
noncomputable abbrev Sf:MSpec:=lf Amf (λx=>Ya x.1 x.2.1/\1<=x.2.2.2.1/\x.2.2.2.1<=20) (λx=>((x.1,(Nd x.1 x.2.1 x.2.2.1 x.2.2.2.1).1,(Nd x.1 x.2.1 x.2.2.1 x.2.2.2.1).2.1,(Nd x.1 x.2.1 x.2.2.1 x.2.2.2.1).2.2,()),()))
theorem Aiw (code:List Int) (MJ:Int) (P:((List Int×Int×Int×Unit)×Unit)->Prop):(Dl (λ(v3:Int×List Int×Int×Int×PUnit) (k4:Int×List Int×Int×Int×PUnit->Prop)=>Br (decide (v3.1<(↑code.length:Int))) (∃(y5:Int),idx code v3.1=some y5/\k4 (IntKind.i64.wrap (v3.1+(1:Int)),v3.2.1,v3.2.2.1,IntKind.u64.wrap (IntKind.u64.wrap (IntKind.u64.wrap (v3.2.2.2.1*(1099511628211:Int))+IntKind.u64.wrap y5)+(3:Int)),())) (P ((v3.2.1,v3.2.2.1,v3.2.2.2.1,()),()))) ((0:Int),code,Int.ofNat (nat_lit 0),IntKind.u64.wrap (IntKind.u64.wrap (MJ*(7919:Int))+IntKind.u64.wrap (↑code.length:Int)),PUnit.unit))=fnMW Ul (look []) pF Tryz.f9 (code,MJ,()) P:=by kernel_rfl
theorem Ae1 (b:List Int) (i h n:Int) (P:((List Int×Int×Int×Int×Unit)×Unit)->Prop):(¬(33:Int)<(0:Int)/\Br (decide (i<(↑b.length:Int))) (∃(y5:Int),idx b i=some y5/\n≠(0:Int)/\P ((b,IntKind.i64.wrap (i+(1:Int)),IntKind.u64.wrap (IntKind.u64.wrap (h*(6364136223846793005:Int))+(1442695040888963407:Int)),(IntKind.i64.wrap (IntKind.i64.wrap (IntKind.u64.wrap (↑(BitVec.ofInt IntKind.u64.bits ((IntKind.u64.wrap (IntKind.u64.wrap (h*(6364136223846793005:Int))+(1442695040888963407:Int))).fdiv ((2:Int)^min (Int.toNat (33:Int)) IntKind.u64.bits))&&&BitVec.ofInt IntKind.u64.bits (16777215:Int)).toNat:Int))+IntKind.i64.wrap y5)).tmod n,()),())) (n≠(0:Int)/\P ((b,i,IntKind.u64.wrap (IntKind.u64.wrap (h*(6364136223846793005:Int))+(1442695040888963407:Int)),(IntKind.i64.wrap (IntKind.u64.wrap (↑(BitVec.ofInt IntKind.u64.bits ((IntKind.u64.wrap (IntKind.u64.wrap (h*(6364136223846793005:Int))+(1442695040888963407:Int))).fdiv ((2:Int)^min (Int.toNat (33:Int)) IntKind.u64.bits))&&&BitVec.ofInt IntKind.u64.bits (16777215:Int)).toNat:Int))).tmod n,()),())))=fnMW Ul (look []) Iq Tryz.f23 (b,i,h,n,()) P:=by kernel_rfl
theorem Ane (code:List Int) (P:Bool->Prop):(P (decide ((↑code.length:Int)>(4096:Int))))=fnW Fz (look []) xM Tryz.f8 (code,()) P:=by kernel_rfl
theorem Ab3 (n:Int) (P:((List Int×Unit)×Unit)->Prop):(0=0/\0=([]:List Int).length/\Dl (λ(v2:Int×List Int×PUnit) (k3:Int×List Int×PUnit->Prop)=>Br (decide (v2.1<n)) (0=0/\v2.2.1.length=v2.2.1.length/\v2.2.1.length+(List.take 1 (List.drop 0 [v2.1])).length<=Cn/\0=0/\(v2.2.1++List.take 1 (List.drop 0 [v2.1])).length=(v2.2.1++List.take 1 (List.drop 0 [v2.1])).length/\k3 (IntKind.i64.wrap (v2.1+(1:Int)),v2.2.1++List.take 1 (List.drop 0 [v2.1]),())) (P ((List.take v2.2.1.length (List.drop 0 v2.2.1),()),()))) ((0:Int),[],PUnit.unit))=fnMW Ul (look []) eI Tryz.f96 (n,()) P:=by kernel_rfl
theorem VC (n:Int) (P:((List Int×Unit)×Unit)->Prop):(∃(y2:Bool),Cr.fn (n,(1:Int),(20:Int),())=some y2/\Br (!y2) (P ((List.take 0 (List.drop 0 []),()),())) (∃(y3:(List Int×PUnit)×PUnit),eI.fn (n,())=some y3/\P ((List.take y3.1.1.length (List.drop 0 y3.1.1),()),())))=fnMW Ul (look [(95,Cr),(96,eI)]) bD Tryz.f42 (n,()) P:=by kernel_rfl
theorem Ab8 (n:Int) (P:List Int->Prop):(∃(y2:Bool),Cr.fn (n,(1:Int),(20:Int),())=some y2/\Br (!y2) (P (List.take 0 (List.drop 0 []))) (∃(y3:List Int),Dj.fn (n,())=some y3/\P y3))=fnW Fz (look [(95,Cr),(96,Dj)]) Ux Tryz.f42 (n,()) P:=by kernel_rfl
abbrev Aac:Type:=Int×Int×ByteArray×Int×ByteArray×List (List Int)×List (List Int)×List Int×List Int×Int×Int×PUnit
abbrev Aag:Type:=Int×ByteArray×Int×ByteArray×List (List Int)×List (List Int)×List Int×Int×Int×PUnit
abbrev AM:Type:=(List Int×Int×Int×Int×PUnit)×PUnit
theorem Anm (b:List Int) (i h:Int) (P:((List Int×Int×Int×Int×ByteArray×List (List Int)×Unit)×Unit)->Prop):(∃(y4:AM),Iq.fn (b,i,h,(3:Int),())=some y4/\0=0/\0=([]:List Int).length/\0=0/\0=([]:List Int).length/\Dl (λ(v5:Aag) (k6:Aag->Prop)=>Br (decide ((↑v5.2.2.2.2.2.1.length:Int)<(2:Int))) (∃(y7:(List Int×PUnit)×PUnit),bD.fn (v5.2.2.1,())=some y7/\ ∃(y8:AM),Iq.fn (v5.2.2.2.2.2.2.1,v5.2.2.2.2.2.2.2.1,v5.2.2.2.2.2.2.2.2.1,(3:Int),())=some y8/\0=0/\y7.1.1.length=y7.1.1.length/\0=0/\v5.2.2.2.2.1.length=v5.2.2.2.2.1.length/\0=0/\v5.2.2.2.2.2.1.length=v5.2.2.2.2.2.1.length/\Dl (λ(v9:Aac) (k10:Aac->Prop)=>Br (decide (v9.1>(0:Int))) (∃(Jp:AM),Iq.fn (v9.2.2.2.2.2.2.2.2.1,v9.2.2.2.2.2.2.2.2.2.1,v9.2.2.2.2.2.2.2.2.2.2.1,v9.2.2.2.1,())=some Jp/\ ∃(Jf:AM),Iq.fn (Jp.1.1,Jp.1.2.1,Jp.1.2.2.1,v9.2.2.2.1,())=some Jf/\((0:Int)<=Jp.1.2.2.2.1/\Jp.1.2.2.2.1<(↑v9.2.2.2.2.2.2.2.1.length:Int))/\ ∃(Ja:Int),v9.2.2.2.2.2.2.2.1[0+Jp.1.2.2.2.1.toNat]?=some Ja/\((0:Int)<=Jf.1.2.2.2.1/\Jf.1.2.2.2.1<(↑v9.2.2.2.2.2.2.2.1.length:Int))/\ ∃(Ie:Int),v9.2.2.2.2.2.2.2.1[0+Jf.1.2.2.2.1.toNat]?=some Ie/\((0:Int)<=Jp.1.2.2.2.1/\Jp.1.2.2.2.1<(↑v9.2.2.2.2.2.2.2.1.length:Int))/\0+Jp.1.2.2.2.1.toNat<v9.2.2.2.2.2.2.2.1.length/\((0:Int)<=Jf.1.2.2.2.1/\Jf.1.2.2.2.1<(↑v9.2.2.2.2.2.2.2.1.length:Int))/\0+Jf.1.2.2.2.1.toNat<(v9.2.2.2.2.2.2.2.1.set (0+Jp.1.2.2.2.1.toNat) Ie).length/\0=0/\v9.2.2.2.2.2.2.2.1.length=((v9.2.2.2.2.2.2.2.1.set (0+Jp.1.2.2.2.1.toNat) Ie).set (0+Jf.1.2.2.2.1.toNat) Ja).length/\0=0/\v9.2.2.2.2.2.1.length=v9.2.2.2.2.2.1.length/\0=0/\v9.2.2.2.2.2.2.1.length=v9.2.2.2.2.2.2.1.length/\k10 (IntKind.i64.wrap (v9.1-(1:Int)),v9.2.1,v9.2.2.1,v9.2.2.2.1,v9.2.2.2.2.1,v9.2.2.2.2.2.1,v9.2.2.2.2.2.2.1,(v9.2.2.2.2.2.2.2.1.set (0+Jp.1.2.2.2.1.toNat) Ie).set (0+Jf.1.2.2.2.1.toNat) Ja,Jf.1.1,Jf.1.2.1,Jf.1.2.2.1,())) (0=0/\v9.2.2.2.2.2.2.1.length=v9.2.2.2.2.2.2.1.length/\v9.2.2.2.2.2.2.1.length+(List.take 1 (List.drop 0 [List.take v9.2.2.2.2.2.2.2.1.length (List.drop 0 v9.2.2.2.2.2.2.2.1)])).length<=Cn/\0=0/\v9.2.2.2.2.2.1.length=v9.2.2.2.2.2.1.length/\0=0/\(v9.2.2.2.2.2.2.1++List.take 1 (List.drop 0 [List.take v9.2.2.2.2.2.2.2.1.length (List.drop 0 v9.2.2.2.2.2.2.2.1)])).length=(v9.2.2.2.2.2.2.1++List.take 1 (List.drop 0 [List.take v9.2.2.2.2.2.2.2.1.length (List.drop 0 v9.2.2.2.2.2.2.2.1)])).length/\k6 (v9.2.1,v9.2.2.1,v9.2.2.2.1,v9.2.2.2.2.1,v9.2.2.2.2.2.1,v9.2.2.2.2.2.2.1++List.take 1 (List.drop 0 [List.take v9.2.2.2.2.2.2.2.1.length (List.drop 0 v9.2.2.2.2.2.2.2.1)]),v9.2.2.2.2.2.2.2.2.1,v9.2.2.2.2.2.2.2.2.2.1,v9.2.2.2.2.2.2.2.2.2.2.1,()))) (IntKind.i64.wrap ((1:Int)+y8.1.2.2.2.1),v5.1,v5.2.1,v5.2.2.1,v5.2.2.2.1,v5.2.2.2.2.1,v5.2.2.2.2.2.1,y7.1.1,y8.1.1,y8.1.2.1,y8.1.2.2.1,PUnit.unit)) (P ((v5.2.2.2.2.2.2.1,v5.2.2.2.2.2.2.2.1,v5.2.2.2.2.2.2.2.2.1,v5.2.2.1,v5.2.2.2.1,List.take v5.2.2.2.2.2.1.length (List.drop 0 v5.2.2.2.2.2.1),()),()))) (Int.ofNat (nat_lit 0), {data:= #[]},IntKind.i64.wrap ((3:Int)+y4.1.2.2.2.1), {data:= #[(65:UInt8),(66:UInt8)]},[],[],y4.1.1,y4.1.2.1,y4.1.2.2.1,PUnit.unit))=fnMW Ul (look [(23,Iq),(42,bD)]) xT Tryz.f10 (b,i,h,()) P:=by kernel_rfl
abbrev Aab:Type:=(List Int×Int×Int×Int×PUnit)×PUnit
theorem Anl (b:List Int) (i h m:Int) (P:((List Int×Int×Int×Int×Unit)×Unit)->Prop):(∃(y5:Aab),Iq.fn (b,i,h,m,())=some y5/\ ∃(y6:Aab),Iq.fn (y5.1.1,y5.1.2.1,y5.1.2.2.1,(2:Int),())=some y6/\Br (y6.1.2.2.2.1==(0:Int)) (P ((y6.1.1,y6.1.2.1,y6.1.2.2.1,IntKind.i64.wrap ((0:Int)-IntKind.i64.wrap ((1:Int)+y5.1.2.2.2.1)),()),())) (P ((y6.1.1,y6.1.2.1,y6.1.2.2.1,IntKind.i64.wrap ((1:Int)+y5.1.2.2.2.1),()),())))=fnMW Ul (look [(23,Iq)]) xS Tryz.f76 (b,i,h,m,()) P:=by kernel_rfl
abbrev Aae:Type:=Int×List Int×List Int×Int×Int×PUnit
abbrev Aah:Type:=(List Int×Int×Int×Int×PUnit)×PUnit
theorem Anp (b:List Int) (i h m k:Int) (P:((List Int×Int×Int×List Int×Unit)×Unit)->Prop):(∃(y6:Aah),Iq.fn (b,i,h,IntKind.i64.wrap (k+(1:Int)),())=some y6/\0=0/\0=([]:List Int).length/\Dl (λ(v7:Aae) (k8:Aae->Prop)=>Br (decide (v7.1>(0:Int))) (∃(y9:Aah),xS.fn (v7.2.2.1,v7.2.2.2.1,v7.2.2.2.2.1,m,())=some y9/\0=0/\v7.2.1.length=v7.2.1.length/\v7.2.1.length+(List.take 1 (List.drop 0 [y9.1.2.2.2.1])).length<=Cn/\0=0/\(v7.2.1++List.take 1 (List.drop 0 [y9.1.2.2.2.1])).length=(v7.2.1++List.take 1 (List.drop 0 [y9.1.2.2.2.1])).length/\k8 (IntKind.i64.wrap (v7.1-(1:Int)),v7.2.1++List.take 1 (List.drop 0 [y9.1.2.2.2.1]),y9.1.1,y9.1.2.1,y9.1.2.2.1,())) (P ((v7.2.2.1,v7.2.2.2.1,v7.2.2.2.2.1,List.take v7.2.1.length (List.drop 0 v7.2.1),()),()))) (y6.1.2.2.2.1,[],y6.1.1,y6.1.2.1,y6.1.2.2.1,PUnit.unit))=fnMW Ul (look [(23,Iq),(76,xS)]) qF Tryz.f32 (b,i,h,m,k,()) P:=by kernel_rfl
abbrev Aad:Type:=Int×Int×ByteArray×List (List Int)×List Int×List Int×Int×Int×PUnit
abbrev NC:Type:=(List Int×Int×Int×Int×PUnit)×PUnit
theorem Ano (b:List Int) (i h n:Int) (str:ByteArray) (g:List (List Int)) (P:((List Int×Int×Int×List Int×Unit)×Unit)->Prop):(0=0/\0=([]:List Int).length/\Dl (λ(v7:Aad) (k8:Aad->Prop)=>Br (decide (v7.1<v7.2.1)) (Br (decide ((↑v7.2.2.2.2.1.length:Int)<(3:Int))) (∃(y9:NC),Iq.fn (v7.2.2.2.2.2.1,v7.2.2.2.2.2.2.1,v7.2.2.2.2.2.2.2.1,(2:Int),())=some y9/\Br (y9.1.2.2.2.1==(0:Int)) (0=0/\v7.2.2.2.2.1.length=v7.2.2.2.2.1.length/\v7.2.2.2.2.1.length+(List.take 1 (List.drop 0 [v7.1])).length<=Cn/\0=0/\(v7.2.2.2.2.1++List.take 1 (List.drop 0 [v7.1])).length=(v7.2.2.2.2.1++List.take 1 (List.drop 0 [v7.1])).length/\k8 (IntKind.i64.wrap (v7.1+(1:Int)),v7.2.1,v7.2.2.1,v7.2.2.2.1,v7.2.2.2.2.1++List.take 1 (List.drop 0 [v7.1]),y9.1.1,y9.1.2.1,y9.1.2.2.1,())) (0=0/\v7.2.2.2.2.1.length=v7.2.2.2.2.1.length/\k8 (IntKind.i64.wrap (v7.1+(1:Int)),v7.2.1,v7.2.2.1,v7.2.2.2.1,v7.2.2.2.2.1,y9.1.1,y9.1.2.1,y9.1.2.2.1,()))) (Br ((↑v7.2.2.2.2.1.length:Int)==(0:Int)) (∃(y9:NC),Iq.fn (v7.2.2.2.2.2.1,v7.2.2.2.2.2.2.1,v7.2.2.2.2.2.2.2.1,v7.2.1,())=some y9/\0=0/\v7.2.2.2.2.1.length=v7.2.2.2.2.1.length/\v7.2.2.2.2.1.length+(List.take 1 (List.drop 0 [y9.1.2.2.2.1])).length<=Cn/\P ((y9.1.1,y9.1.2.1,y9.1.2.2.1,List.take (v7.2.2.2.2.1++List.take 1 (List.drop 0 [y9.1.2.2.2.1])).length (List.drop 0 (v7.2.2.2.2.1++List.take 1 (List.drop 0 [y9.1.2.2.2.1]))),()),())) (P ((v7.2.2.2.2.2.1,v7.2.2.2.2.2.2.1,v7.2.2.2.2.2.2.2.1,List.take v7.2.2.2.2.1.length (List.drop 0 v7.2.2.2.2.1),()),())))) (Br ((↑v7.2.2.2.2.1.length:Int)==(0:Int)) (∃(y9:NC),Iq.fn (v7.2.2.2.2.2.1,v7.2.2.2.2.2.2.1,v7.2.2.2.2.2.2.2.1,v7.2.1,())=some y9/\0=0/\v7.2.2.2.2.1.length=v7.2.2.2.2.1.length/\v7.2.2.2.2.1.length+(List.take 1 (List.drop 0 [y9.1.2.2.2.1])).length<=Cn/\P ((y9.1.1,y9.1.2.1,y9.1.2.2.1,List.take (v7.2.2.2.2.1++List.take 1 (List.drop 0 [y9.1.2.2.2.1])).length (List.drop 0 (v7.2.2.2.2.1++List.take 1 (List.drop 0 [y9.1.2.2.2.1]))),()),())) (P ((v7.2.2.2.2.2.1,v7.2.2.2.2.2.2.1,v7.2.2.2.2.2.2.2.1,List.take v7.2.2.2.2.1.length (List.drop 0 v7.2.2.2.2.1),()),())))) ((0:Int),n,str,g,[],b,i,h,PUnit.unit))=fnMW Ul (look [(23,Iq)]) Sf Tryz.f25 (b,i,h,n,str,g,()) P:=by kernel_rfl
theorem Afu (h:Int):0<=xN h/\xN h<=16777215:=by
 obtain ⟨a,ha⟩: ∃a,BitVec.ofInt IntKind.u64.bits (h.fdiv ((2:Int)^min (Int.toNat (33:Int)) IntKind.u64.bits))=a:=⟨_,rfl⟩
 have h1:(a&&&BitVec.ofInt IntKind.u64.bits (16777215:Int)).toNat<=16777215:=by
  rw [BitVec.toNat_and]
  exact Nat.and_le_right
 unfold xN
 rw [ha]
 obtain ⟨x,hx⟩: ∃x,(a&&&BitVec.ofInt IntKind.u64.bits (16777215:Int)).toNat=x:=⟨_,rfl⟩
 rw [hx] at h1⊢
 have e:IntKind.u64.wrap (x:Int)=x:=by
  unfold IntKind.wrap
  have e1:IntKind.signed .u64=false:=rfl
  have e2:IntKind.bits .u64=64:=rfl
  rw [e1,e2]
  simp only [Bool.false_and,Cz,Sm]
  omega
 rw [e,Cy (by omega) (by omega)]
 omega
theorem Ya.Hu {b:List Int} {i:Int} (h:Ya b i) (hi:i<b.length):0<=Hu b i/\Hu b i<256:=by
 have h0:=h.lo
 have hl:i.toNat<b.length:=by omega
 refine h.byte _ ?_
 unfold Go.Proofs.YtkkdpknjohcekaaGreat.Hu
 rw [Ah,Ac hl]
 exact Ak hl
theorem Ya.next {b:List Int} {i:Int} (h:Ya b i):Ya b (dI b i):=by
 have h0:=h.lo
 have h1:=h.hi
 unfold dI
 split
 ·exact ⟨h.len,h.byte,by omega,by omega⟩
 ·exact h
theorem bR {b:List Int} {i n:Int} (h:Ya b i) (hn:1<=n) (s:Int):0<=dR b i s n/\dR b i s n<n:=by
 have hx:=Afu (hN s)
 unfold dR
 split
 ·rename_i hi
  have:=h.Hu hi
  exact ⟨Int.tmod_nonneg _ (by omega),Int.tmod_lt_of_pos _ (by omega)⟩
 ·exact ⟨Int.tmod_nonneg _ (by omega),Int.tmod_lt_of_pos _ (by omega)⟩
theorem Ai8 (code:List Int) (MJ:Int) (h:code.length<=4096):fnMW Ul (look []) pF Tryz.f9 (code,MJ,()) (λ(z:(List Int×Int×Int×Unit)×Unit)=>z=((code,0,pd code MJ,()),())):=by
 obtain ⟨R,hR⟩: ∃R,pd code MJ=R:=⟨_,rfl⟩
 rw [hR]
 unfold pd at hR
 refine Eq.mp (Aiw code MJ _) ?_
 refine Bw code.length (λv=>v.1) (λj v=>v.2.1=code/\v.2.2.1=0/\GD (code.drop j) v.2.2.2.1=R) rfl ⟨rfl,rfl,hR⟩ ?_
 rintro j ⟨jj,c,i,s,⟨⟩⟩ K hj rT ⟨r1,r2,r3⟩ hK
 dsimp only at rT r1 r2 r3⊢
 subst rT r1 r2
 refine Br.dec (λhl=>?_) λhl=>?_
 ·have hl:j<c.length:=by omega
  refine ⟨_,Cd hl,?_⟩
  rw [Bv (by omega)]
  rw [Fg hl,GD] at r3
  exact hK hl _ rfl ⟨rfl,rfl,r3⟩
 ·have:j=c.length:=by omega
  subst this
  rw [Qd,GD] at r3
  rw [r3]
theorem MU:Dc Tryz.prog 9 pF:=
 Dc.lf Tf Bn mixed Tryz.func9 (by kernel_rfl) (by kernel_rfl) λx h=>Ai8 x.1 x.2.1 h
theorem Adb (b:List Int) (i h n:Int) (hd:Ya b i/\1<=n):fnMW Ul (look []) Iq Tryz.f23 (b,i,h,n,()) (λ(z:(List Int×Int×Int×Int×Unit)×Unit)=>z=((b,dI b i,hN h,dR b i h n,()),())):=by
 obtain ⟨hd,hn⟩:=hd
 have h0:=hd.lo
 have hlen:=hd.len
 have hx:=Afu (hN h)
 refine Eq.mp (Ae1 b i h n _) ⟨by omega,Br.dec (λhl=>?_) λhl=>?_⟩
 ·have hg:=hd.Hu hl
  refine ⟨_,iY h0 hl,by omega,?_⟩
  rw [Cy (n:=Hu b i) (by omega) (by omega)]
  show ((b,IntKind.i64.wrap (i+1),hN h,(IntKind.i64.wrap (xN (hN h)+Hu b i)).tmod n,()),())=_
  rw [Cy (by omega) (by omega),Cy (by omega) (by omega)]
  unfold dI dR
  rw [Ab hl,Ab hl]
 ·refine ⟨by omega,?_⟩
  show ((b,i,hN h,(xN (hN h)).tmod n,()),())=_
  unfold dI dR
  rw [Aj hl,Aj hl]
theorem Wg:Dc Tryz.prog 23 Iq:=
 Dc.lf Tf Bn mixed Tryz.func23 (by kernel_rfl) (by kernel_rfl) λx h=>Adb x.1 x.2.1 x.2.2.1 x.2.2.2.1 h
theorem Amp (code:List Int) (_:True):fnW Fz (look []) xM Tryz.f8 (code,()) (λ(z:Bool)=>z=decide ((code.length:Int)>4096)):=Eq.mp (Ane code _) rfl
theorem TV:Sound Tryz.prog 8 xM:=
 Sound.Gu Dq Bn mixed Tryz.func8 (by kernel_rfl) (by kernel_rfl) λx h=>Amp x.1 h
theorem Amw (b:List Int) (i h m:Int) (hd:Ya b i/\1<=m/\m<=8):fnMW Ul (look [(23,Iq)]) xS Tryz.f76 (b,i,h,m,()) (λ(z:(List Int×Int×Int×Int×Unit)×Unit)=>z=((b,(ag b i h m).1,(ag b i h m).2.1,(ag b i h m).2.2,()),())):=by
 obtain ⟨hd,h1,h8⟩:=hd
 have hr:=bR hd h1 h
 refine Eq.mp (Anl b i h m _) ⟨_,Ab ⟨hd,h1⟩,_,Ab ⟨hd.next,by show (1:Int)<=2;decide⟩,Br.of (λhz=>?_) λhz=>?_⟩
 ·have hz:dR b (dI b i) (hN h) 2=0:=by simpa using hz
  show ((b,dI b (dI b i),hN (hN h),IntKind.i64.wrap (0-IntKind.i64.wrap (1+dR b i h m)),()),())=_
  rw [Cy (n:=1+dR b i h m) (by omega) (by omega),Cy (by omega) (by omega)]
  unfold ag
  rw [Ab hz,Int.zero_sub]
 ·have hz: ¬dR b (dI b i) (hN h) 2=0:=by simpa using hz
  show ((b,dI b (dI b i),hN (hN h),IntKind.i64.wrap (1+dR b i h m),()),())=_
  rw [Cy (by omega) (by omega)]
  unfold ag
  rw [Aj hz]
theorem UB:Dc Tryz.prog 76 xS:=
 Dc.lf Tf (Fv Wg Bn) mixed Tryz.func76 (by kernel_rfl) (by kernel_rfl) λx h=>Amw x.1 x.2.1 x.2.2.1 x.2.2.2.1 h
theorem ZJ (n:Int) (h:0<=n/\n<=20):fnMW Ul (look []) eI Tryz.f96 (n,()) (λ(z:(List Int×Unit)×Unit)=>z=((upto n.toNat,()),())):=by
 refine Eq.mp (Ab3 n _) ⟨rfl,rfl,?_⟩
 refine Bw n.toNat (λv=>v.1) (λj v=>v.2.1=upto j) rfl rfl ?_
 rintro j ⟨i,ys,⟨⟩⟩ K hj hi h1 hK
 dsimp only at hi h1⊢
 subst hi h1
 refine Br.dec (λhl=>?_) λhl=>?_
 ·refine ⟨rfl,rfl,?_,rfl,rfl,?_⟩
  ·show (upto j).length+1<=4294967296
   rw [Ti];omega
  ·rw [Bv (by omega)]
   exact hK (by omega) _ rfl (bG j).symm
 ·have:j=n.toNat:=by omega
  subst this
  rw [Ch]
theorem zW:Dc Tryz.prog 96 eI:=
 Dc.lg Tf Bn mixed Tryz.func96 (by kernel_rfl) (by kernel_rfl) λx h=>ZJ x.1 h
theorem TE (n:Int) (h:1<=n/\n<=20):fnMW Ul (look [(95,Cr),(96,eI)]) bD Tryz.f42 (n,()) (λ(z:(List Int×Unit)×Unit)=>z=((upto n.toNat,()),())):=by
 refine Eq.mp (VC n _) ⟨true,Ab trivial|>.trans (Dk some (Ec ⟨h.1,h.2⟩)),λhc=>(by cases hc),λ_=>⟨_,Ab ⟨by show 0<=n;omega,h.2⟩,?_⟩⟩
 rw [Ch]
theorem wm:Dc Tryz.prog 42 bD:=
 Dc.lg Tf (Aw Rv (Fv zW Bn)) mixed Tryz.func42 (by kernel_rfl) (by kernel_rfl) λx h=>TE x.1 h
theorem ZO (n:Int) (h:1<=n/\n<=20):fnW Fz (look [(95,Cr),(96,Dj)]) Ux Tryz.f42 (n,()) (λ(z:List Int)=>z=upto n.toNat):=
 Eq.mp (Ab8 n _) ⟨true,Ab trivial|>.trans (Dk some (Ec ⟨h.1,h.2⟩)),λhc=>(by cases hc),λ_=>⟨_,Ab ⟨by show 0<=n;omega,h.2⟩,rfl⟩⟩
theorem AA:Sound Tryz.prog 42 Ux:=
 Sound.Gu Dq (Aw Rv (Aw cq Bn)) mixed Tryz.func42 (by kernel_rfl) (by kernel_rfl) λx h=>ZO x.1 h
theorem QO {b:List Int} {i:Int} (hd:Ya b i) (h m:Int):Ya b (ag b i h m).1:=hd.next.next
theorem An0 (b:List Int) (i h m k:Int) (hd:Ya b i/\(1<=m/\m<=8)/\0<=k/\k<=20):fnMW Ul (look [(23,Iq),(76,xS)]) qF Tryz.f32 (b,i,h,m,k,()) (λ(z:(List Int×Int×Int×List Int×Unit)×Unit)=>z=((b,(Vx b i h m k).1,(Vx b i h m k).2.1,(Vx b i h m k).2.2,()),())):=by
 obtain ⟨hd,hm,vf,hk⟩:=hd
 have hr:=bR hd (show 1<=k+1 by omega) h
 obtain ⟨R,hR⟩: ∃R,Vx b i h m k=R:=⟨_,rfl⟩
 rw [hR]
 unfold Vx at hR
 refine Eq.mp (Anp b i h m k _) ?_
 rw [Cy (by omega) (by omega)]
 refine ⟨_,Ab ⟨hd,by show 1<=k+1;omega⟩,rfl,rfl,?_⟩
 refine Dl.mk (λy=> ∃(f:Nat) (i h:Int) (w:List Int),y=((f:Int),w,b,i,h,())/\Ya b i/\f+w.length<=20/\wGo b m f i h w=R) (λy=>y.1.toNat)
  ⟨(dR b i h (k+1)).toNat,dI b i,hN h,[],by rw [Sl hr.1],hd.next,by simp only [Fq];omega,hR⟩ ?_
 rintro y ⟨f,i,h,w,rfl,hd,hl,hv⟩
 dsimp only
 refine Br.dec (λhf=>?_) λhf=>?_
 ·obtain ⟨f,rfl⟩: ∃f',f=f'+1:=⟨f-1,by omega⟩
  refine ⟨_,Ab ⟨hd,hm⟩,rfl,rfl,by show w.length+1<=4294967296;omega,rfl,rfl,?_⟩
  rw [Cy (by omega) (by omega)]
  rw [wGo] at hv
  exact ⟨⟨f,_,_,_,by rw [show ((f+1:Nat):Int)-1=(f:Int) by omega];rfl,QO hd h m,by rw [Av];show f+(w.length+1)<=20;omega,hv⟩,by show ((((f+1:Nat):Int)-1).toNat)<(((f+1:Nat):Int)).toNat;omega⟩
 ·obtain rfl:f=0:=by omega
  rw [wGo] at hv
  rw [<-hv]
  simp only [Ch]
theorem UE:Dc Tryz.prog 32 qF:=
 Dc.lf Tf (Fv Wg (Fv UB Bn)) mixed Tryz.func32 (by kernel_rfl) (by kernel_rfl) λx h=>An0 x.1 x.2.1 x.2.2.1 x.2.2.2.1 x.2.2.2.2.1 h
theorem GV {b:List Int} (n:Int): ∀(k:Nat) (i h:Int) (mv:List Int),Ya b i->Ya b (gg b n k i h mv).1
 |0,_,_,_,hd=>hd
 |k+1,i,h,mv,hd=>by rw [gg];exact GV n k _ _ _ hd.next.next
theorem tG {b:List Int} {n i:Int} (hd:Ya b i) (h:Int):Ya b (ph b n i h).1:=GV n _ _ _ _ hd.next
theorem QA (b:List Int) (n:Int): ∀(k:Nat) (i h:Int) (ms:List (List Int)),(aP b n k i h ms).2.2.length=k+ms.length
 |0,_,_,ms=>by rw [aP];show ms.length=0+ms.length;omega
 |k+1,i,h,ms=>by rw [aP,QA b n k,Av,Cc];omega
theorem PZ {b:List Int} (n:Int): ∀(k:Nat) (i h:Int) (ms:List (List Int)),Ya b i->Ya b (aP b n k i h ms).1
 |0,_,_,_,hd=>hd
 |k+1,i,h,ms,hd=>by rw [aP];exact PZ n k _ _ _ (tG hd h)
theorem Ak0 {xs:List Int} {y:Int} (h0:0<=y) (h:y<xs.length):xs[0+y.toNat]?=some (Hu xs y):=by
 have hl:y.toNat<xs.length:=by omega
 unfold Hu
 rw [Bu,Ah,Ac hl]
 rfl
theorem Amx (b:List Int) (i h:Int) (hd:Ya b i):fnMW Ul (look [(23,Iq),(42,bD)]) xT Tryz.f10 (b,i,h,()) (λ(z:(List Int×Int×Int×Int×ByteArray×List (List Int)×Unit)×Unit)=>z=((b,(aO b i h).1,(aO b i h).2.1,(aO b i h).2.2.1,(aO b i h).2.2.2.1,(aO b i h).2.2.2.2.1,()),())):=by
 have hr:=bR hd (show (1:Int)<=3 by decide) h
 obtain ⟨n,hn⟩: ∃n,3+dR b i h 3=n:=⟨_,rfl⟩
 obtain ⟨R,hR⟩: ∃R,aP b n 2 (dI b i) (hN h) []=R:=⟨_,rfl⟩
 have hm:aO b i h=(R.1,R.2.1,(n,ZA,R.2.2,())):=by unfold aO;rw [hn,hR]
 rw [hm]
 refine Eq.mp (Anm b i h _) ⟨_,Ab ⟨hd,by show (1:Int)<=3;decide⟩,rfl,rfl,rfl,rfl,?_⟩
 dsimp only
 rw [Cy (n:=3+dR b i h 3) (by omega) (by omega),hn]
 have hn3:3<=n/\n<=5:=by omega
 refine Dl.mk (λy=> ∃(f:Nat) (i h:Int) (ms:List (List Int)),y=((0:Int), {data:= #[]},n,ZA,[],ms,b,i,h,())/\Ya b i/\f+ms.length=2/\aP b n f i h ms=R) (λy=>2-y.2.2.2.2.2.1.length)
  ⟨2,dI b i,hN h,[],rfl,hd.next,rfl,hR⟩ ?_
 rintro y ⟨f,i,h,ms,rfl,hd,hl,hv⟩
 dsimp only
 refine Br.dec (λhf=>?_) λhf=>?_
 ·obtain ⟨f,rfl⟩: ∃f',f=f'+1:=⟨f-1,by omega⟩
  rw [aP] at hv
  obtain ⟨M,hM⟩: ∃M,ph b n i h=M:=⟨_,rfl⟩
  have hMd:Ya b M.1:=by rw [<-hM];exact tG hd h
  rw [hM] at hv
  unfold ph at hM
  have hr:=bR hd (show (1:Int)<=3 by decide) h
  refine ⟨_,Ab ⟨by show 1<=n;omega,by show n<=20;omega⟩,_,Ab ⟨hd,by show (1:Int)<=3;decide⟩,rfl,rfl,rfl,rfl,rfl,rfl,?_⟩
  dsimp only
  rw [Cy (n:=1+dR b i h 3) (by omega) (by omega)]
  refine Dl.mk (λz=> ∃(c:Nat) (i h:Int) (mv:List Int),z=((c:Int),(0:Int), {data:= #[]},n,ZA,[],ms,mv,b,i,h,())/\Ya b i/\c<=3/\mv.length=n.toNat/\gg b n c i h mv=M) (λz=>z.1.toNat)
   ⟨(1+dR b i h 3).toNat,dI b i,hN h,upto n.toNat,by rw [Sl (by omega)],hd.next,by omega,Ti _,hM⟩ ?_
  rintro z ⟨c,i',h',mv,rfl,IB,hc,iV,hsw⟩
  dsimp only
  refine Br.dec (λkC=>?_) λkC=>?_
  ·obtain ⟨c,rfl⟩: ∃c',c=c'+1:=⟨c-1,by omega⟩
   rw [gg] at hsw
   have r1:=bR IB (show 1<=n by omega) h'
   have r2:=bR IB.next (show 1<=n by omega) (hN h')
   have l1:dR b i' h' n<mv.length:=by omega
   have l2:dR b (dI b i') (hN h') n<mv.length:=by omega
   refine ⟨_,Ab ⟨IB,by show 1<=n;omega⟩,_,Ab ⟨IB.next,by show 1<=n;omega⟩,⟨r1.1,l1⟩,_,Ak0 r1.1 l1,⟨r2.1,l2⟩,_,Ak0 r2.1 l2,⟨r1.1,l1⟩,by show 0+(dR b i' h' n).toNat<mv.length;omega,⟨r2.1,l2⟩,
    by rw [Dg];show 0+(dR b (dI b i') (hN h') n).toNat<mv.length;omega,rfl,by simp only [Dg],rfl,rfl,rfl,rfl,?_⟩
   dsimp only
   rw [Cy (by omega) (by omega),Bu,Bu]
   exact ⟨⟨c,_,_,_,by rw [show ((c+1:Nat):Int)-1=(c:Int) by omega],IB.next.next,by omega,by simp only [Dg];exact iV,hsw⟩,by show ((((c+1:Nat):Int)-1).toNat)<(((c+1:Nat):Int)).toNat;omega⟩
  ·obtain rfl:c=0:=by omega
   rw [gg] at hsw
   subst hsw
   refine ⟨rfl,rfl,by show ms.length+1<=4294967296;omega,rfl,rfl,rfl,rfl,?_⟩
   rw [Ch]
   exact ⟨⟨f,_,_,_,rfl,hMd,by rw [Av];show f+(ms.length+1)=2;omega,hv⟩,by show 2-(ms++ [mv]).length<2-ms.length;rw [Av,Cc];omega⟩
 ·obtain rfl:f=0:=by omega
  rw [aP] at hv
  rw [<-hv]
  simp only [Ch]
theorem UC:Dc Tryz.prog 10 xT:=
 Dc.lf Tf (Fv Wg (Fv wm Bn)) mixed Tryz.func10 (by kernel_rfl) (by kernel_rfl) λx h=>Amx x.1 x.2.1 x.2.2.1 h
theorem Amz (b:List Int) (i h n:Int) (str:ByteArray) (g:List (List Int)) (hd:Ya b i/\1<=n/\n<=20):fnMW Ul (look [(23,Iq)]) Sf Tryz.f25 (b,i,h,n,str,g,()) (λ(z:(List Int×Int×Int×List Int×Unit)×Unit)=>z=((b,(Nd b i h n).1,(Nd b i h n).2.1,(Nd b i h n).2.2,()),())):=by
 obtain ⟨hd,hn1,hn⟩:=hd
 obtain ⟨R,hR⟩: ∃R,Nd b i h n=R:=⟨_,rfl⟩
 rw [hR]
 unfold Nd at hR
 refine Eq.mp (Ano b i h n str g _) ⟨rfl,rfl,?_⟩
 refine Dl.mk (λy=> ∃(f:Nat) (j i h:Int) (o:List Int),y=(j,n,str,g,o,b,i,h,())/\Ya b i/\0<=j/\n-j<=f/\o.length<=3/\WK b n (VN b n f j i h o)=R) (λy=>(n-y.1).toNat)
  ⟨n.toNat,0,i,h,[],rfl,hd,by omega,by omega,by simp,hR⟩ ?_
 rintro y ⟨f,j,i,h,o,rfl,hd,hj,hf,ho,hv⟩
 dsimp only
 have fin:VN b n f j i h o=(i,h,o)->Br ((o.length:Int)==0) (∃(y9:(List Int×Int×Int×Int×PUnit)×PUnit),Iq.fn (b,i,h,n,())=some y9/\(0:Nat)=0/\o.length=o.length/\o.length+(List.take (1:Nat) (List.drop (0:Nat) [y9.1.2.2.2.1])).length<=Cn/\
   ((y9.1.1,y9.1.2.1,y9.1.2.2.1,List.take (o++List.take (1:Nat) (List.drop (0:Nat) [y9.1.2.2.2.1])).length (List.drop (0:Nat) (o++List.take (1:Nat) (List.drop (0:Nat) [y9.1.2.2.2.1]))),()),())=((b,R.1,R.2.1,R.2.2,()),()))
   (((b,i,h,List.take o.length (List.drop 0 o),()),())=((b,R.1,R.2.1,R.2.2,()),())):=by
  intro he
  rw [he] at hv
  refine Br.of (λhz=>?_) λhz=>?_
  ·have hz:o.length=0:=by simpa using hz
   rw [WK,Ab hz] at hv
   refine ⟨_,Ab ⟨hd,hn1⟩,rfl,rfl,by show o.length+1<=4294967296;omega,?_⟩
   rw [<-hv,Ch]
   rfl
  ·have hz: ¬o.length=0:=by simpa using hz
   rw [WK,Aj hz] at hv
   rw [<-hv,Ch]
 refine Br.dec (λhjn=>?_) λhjn=>?_
 ·refine Br.dec (λho3=>?_) λho3=>?_
  ·obtain ⟨f,rfl⟩: ∃f',f=f'+1:=⟨f-1,by omega⟩
   rw [VN,Ab ⟨hjn,by omega⟩] at hv
   refine ⟨_,Ab ⟨hd,by show (1:Int)<=2;decide⟩,Br.of (λhz=>?_) λhz=>?_⟩
   ·have hz:dR b i h 2=0:=by simpa using hz
    rw [Ab hz] at hv
    refine ⟨rfl,rfl,by show o.length+1<=4294967296;omega,rfl,rfl,?_⟩
    rw [Cy (by omega) (by omega)]
    exact ⟨⟨f,j+1,_,_,_,rfl,hd.next,by omega,by omega,by rw [Av];show o.length+1<=3;omega,hv⟩,by show (n-(j+1)).toNat<(n-j).toNat;omega⟩
   ·have hz: ¬dR b i h 2=0:=by simpa using hz
    rw [Aj hz] at hv
    refine ⟨rfl,rfl,?_⟩
    rw [Cy (by omega) (by omega)]
    exact ⟨⟨f,j+1,_,_,_,rfl,hd.next,by omega,by omega,ho,hv⟩,by show (n-(j+1)).toNat<(n-j).toNat;omega⟩
  ·refine fin ?_
   cases f with
   |zero=>rfl
   |succ f=>rw [VN,Aj (λhc=>ho3 (by omega))]
 ·refine fin ?_
  cases f with
  |zero=>rfl
  |succ f=>rw [VN,Aj (λhc=>hjn hc.1)]
theorem xZ:Dc Tryz.prog 25 Sf:=
 Dc.lf Tf (Fv Wg Bn) mixed Tryz.func25 (by kernel_rfl) (by kernel_rfl) λx h=>Amz x.1 x.2.1 x.2.2.1 x.2.2.2.1 x.2.2.2.2.1 x.2.2.2.2.2.1 h
end Go.Proofs.YtkkdpknjohcekaaGreat
