/-
  Part 12 of the proof that the statement FnSymmetries holds.
-/
import Derived.Test.YtkkdpknjohcekaaCFSymmetries10
namespace Go.Proofs.Ytkkdpknjohcekaa
open Go.RowKit
section
variable {P:Program} {T:Tab} {X:Ctx} {w w':World} {π:Pi} {H:List (Nat×OB)}
def Flat (w:World) (S:Nat->Prop) (e:Ty) (cl:List Value) (zs:List e.den):Prop:=
 cl.length=zs.length*e.size/\ ∀(i:Nat) (z:e.den),zs[i]?=some z-> ∃es:List Value,es.length=e.size/\(∀j u,es[j]?=some u->cl[i*e.size+j]?=some u)/\Cells w S e es z
theorem Flat.append {S:Nat->Prop} {e:Ty} {c1 c2:List Value} {z1 z2:List e.den} (h1:Flat w S e c1 z1) (h2:Flat w S e c2 z2):Flat w S e (c1++c2) (z1++z2):=by
 refine ⟨by simp [h1.1,h2.1,Cw],λi z hz=>?_⟩
 by_cases hi:i<z1.length
 ·rw [Aq hi] at hz
  obtain ⟨es,he,hc,hr⟩:=h1.2 i z hz
  refine ⟨es,he,λj u hu=>?_,hr⟩
  have:=hc j u hu
  rw [Aq (Aj.1 this).1];exact this
 ·rw [Ao (by omega)] at hz
  obtain ⟨es,he,hc,hr⟩:=h2.2 _ z hz
  refine ⟨es,he,λj u hu=>?_,hr⟩
  have:=hc j u hu
  have e1:i*e.size=z1.length*e.size+(i-z1.length)*e.size:=by rw [<-Cw];congr 1;omega
  rw [Ao (by rw [h1.1];omega),h1.1,show i*e.size+j-z1.length*e.size=(i-z1.length)*e.size+j by omega]
  exact this
theorem Flat.cells {S S':Nat->Prop} {e:Ty} {cl:List Value} {zs:List e.den} (h:Flat w S e cl zs) (hc: ∀es z,Cells w S e es z->Cells w' S' e es z):Flat w' S' e cl zs:=
 ⟨h.1,λi z hz=>let ⟨es,a,b,c⟩:=h.2 i z hz;⟨es,a,b,hc es z c⟩⟩
theorem Flat.nil {S:Nat->Prop} {e:Ty} :Flat w S e [] []:=⟨by simp,λi z hz=>by simp at hz⟩
def Rv (w:World) (e:Ty) (cl:List Value) (zs:List e.den) (Fs:List (List Nat)):Prop:=
 Fs.length=zs.length/\ ∀(i:Nat) (z:e.den) (F:List Nat),zs[i]?=some z->Fs[i]?=some F-> ∃es:List Value,es.length=e.size/\(∀j u,es[j]?=some u->cl[i*e.size+j]?=some u)/\Cp w F e es z
theorem Rv.append {e:Ty} {c1 c2:List Value} {z1 z2:List e.den} {F1 F2:List (List Nat)} (hc:c1.length=z1.length*e.size) (h1:Rv w e c1 z1 F1) (h2:Rv w e c2 z2 F2):Rv w e (c1++c2) (z1++z2) (F1++F2):=by
 have hl:=h1.1
 refine ⟨by simp [h1.1,h2.1],λi z F hz hF=>?_⟩
 by_cases hi:i<z1.length
 ·rw [Aq hi] at hz
  rw [Aq (by omega)] at hF
  obtain ⟨es,he,tA,hr⟩:=h1.2 i z F hz hF
  refine ⟨es,he,λj u hu=>?_,hr⟩
  have:=tA j u hu
  rw [Aq (Aj.1 this).1];exact this
 ·rw [Ao (by omega)] at hz
  rw [Ao (by omega),hl] at hF
  obtain ⟨es,he,tA,hr⟩:=h2.2 _ z F hz hF
  refine ⟨es,he,λj u hu=>?_,hr⟩
  have:=tA j u hu
  have hle:z1.length*e.size<=i*e.size:=Fa _ (by omega)
  rw [Ao (by omega),<-this]
  congr 1
  rw [hc,Nat.sub_mul];omega
theorem Rv.Fw {e:Ty} {cl:List Value} {zs:List e.den} {Fs:List (List Nat)} (h:Rv w e cl zs Fs) (hs:w.heap.size<=w'.heap.size) (hk: ∀b∈List.flatten Fs,w'.heap[b]?=w.heap[b]?):Rv w' e cl zs Fs:=
 ⟨h.1,λi z F hz hF=>by
  obtain ⟨es,he,tA,hr⟩:=h.2 i z F hz hF
  exact ⟨es,he,tA,hr.Fw _ _ _ _ hs λb hb=>hk b (Gx.2 ⟨F,Bz hF,hb⟩)⟩⟩
theorem Rv.lt {e:Ty} {cl:List Value} {zs:List e.den} {Fs:List (List Nat)} (h:Rv w e cl zs Fs) (b:Nat) (hb:b∈List.flatten Fs):b<w.heap.size:=by
 obtain ⟨F,hF,hb⟩:=Gx.1 hb
 obtain ⟨i,hi,rfl⟩:=Mw hF
 have hl:=h.1
 obtain ⟨es,_,_,hr⟩:=h.2 i (zs[i]'(by omega)) _ (Ac _) (Ac hi)
 exact hr.lt _ _ _ _ b hb
def Real.with (g o cap:Nat) (N:List Nat):Real:=⟨g,o,cap,λb=>b=g,λb=>b=g\/b∈N⟩
theorem Xj {g o cap:Nat} {N:List Nat} {fr tr:Bool} {e:Ty} {tid:TypeId} {zs:List e.den} {cl:List Value} {cur:Array Value} {ti:TypeId} (hB:fr=true->X.w0.heap.size<=g) (hg:w.heap[g]?=some (.cells cur ti (0,0)))
  (hs:cur.size=(o+cap)*e.size) (hm:cap<=maxLen) (hl:zs.length<=cap) (Qp: ∀k u,cl[k]?=some u->cur[o*e.size+k]?=some u) (hf:Flat w (Cr X.w0.heap.size X.Sc π fr) e cl zs)
  (ht:tr=true->(g::N).Nodup/\ ∃Fs,List.flatten Fs=N/\Rv w e cl zs Fs):
  Jo X w π (some (Real.with g o cap N)) fr tr e tid zs:=by
 refine ⟨⟨rfl,λb hb=>hb,hB⟩,cur,_,hg,hs,hm,hl,λi z hz=>?_,λl6=>?_⟩
 ·obtain ⟨es,a,b,c⟩:=hf.2 i z hz
  refine ⟨es,a,λj u hu=>?_,c⟩
  have:=Qp _ u (b j u hu)
  rw [<-Fy,<-Cw] at this
  exact this
 ·obtain ⟨hn,Fs,rfl,h1,h2⟩:=ht l6
  refine ⟨Fs,h1,hn,λb hb=> .inr hb,λi z F hz hF=>?_⟩
  obtain ⟨es,a,b,c⟩:=h2 i z F hz hF
  refine ⟨es,a,λj u hu=>?_,c⟩
  have:=Qp _ u (b j u hu)
  rw [<-Fy,<-Cw] at this
  exact this
theorem fK {r:Real} {fr tr:Bool} {e:Ty} {tid:TypeId} {xs:List e.den} {off len:Nat} (h:Jo X w π (some r) fr tr e tid xs) (hl:off+len<=xs.length):
  ∃cur cl ti,w.heap[r.g]?=some (.cells cur ti (0,0))/\cur.size=(r.o+r.cap)*e.size/\Flat w (Cr X.w0.heap.size X.Sc π fr) e cl ((xs.drop off).take len)/\
   (∀k u,cl[k]?=some u->k<len*e.size/\cur[(r.o+off)*e.size+k]?=some u)/\
   (tr=true-> ∃Fs,Rv w e cl ((xs.drop off).take len) Fs/\(r.g::List.flatten Fs).Nodup/\ ∀b∈List.flatten Fs,r.cl b):=by
 obtain ⟨h1,cur,ti,h2,h3,h4,h5,h6,h7⟩:=h
 have IS:((xs.drop off).take len).length=len:=by simp;omega
 have tF:(r.o+off)*e.size+len*e.size<=cur.size:=by
  rw [<-Cw,h3];exact Fa _ (by omega)
 have YY: ∀k u,((cur.toList.drop ((r.o+off)*e.size)).take (len*e.size))[k]?=some u↔k<len*e.size/\cur[(r.o+off)*e.size+k]?=some u:=by
  intro k u
  rw [Cn]
  split
  ·rename_i hk;rw [Ci];simp [hk]
  ·rename_i hk;simp [hk]
 refine ⟨cur,(cur.toList.drop ((r.o+off)*e.size)).take (len*e.size),ti,h2,h3,⟨by rw [IS];simp;omega,λi z hz=>?_⟩,λk u hu=>(YY k u).1 hu,λht=>?_⟩
 rotate_left
 ·obtain ⟨Fs,t1,t2,t3,t4⟩:=h7 ht
  refine ⟨(Fs.drop off).take len,⟨by simp [t1],λi x F hx hF=>?_⟩,?_,λb hb=>t3 b (Rk off len b hb)⟩
  ·have hi:i<len:=by
    have:=(Aj.1 hx).1
    rw [IS] at this;exact this
   have hx':xs[off+i]?=some x:=by rw [Cn,Ab hi,Ci] at hx;exact hx
   have hF':Fs[off+i]?=some F:=by rw [Cn,Ab hi,Ci] at hF;exact hF
   obtain ⟨es,a,b,c⟩:=t4 (off+i) x F hx' hF'
   refine ⟨es,a,λj u hu=>(YY _ u).2 ⟨?_,?_⟩,c⟩
   ·have hj:=(Aj.1 hu).1
    have:(i+1)*e.size<=len*e.size:=Fa _ (by omega)
    rw [Cw,Um] at this
    omega
   ·have:=b j u hu
    rw [<-Fy,Cw (r.o+off) i] at this
    rw [<-Fy];exact this
  ·have:=Cf.1 t2
   exact Cf.2 ⟨λhm=>this.1 (Rk off len _ hm),jS off len this.2⟩
 have hi:i<len:=by have:=(Aj.1 hz).1;omega
 have hz':xs[off+i]?=some z:=by
  rw [Cn,Ab hi,Ci] at hz;exact hz
 obtain ⟨es,a,b,c⟩:=h6 (off+i) z hz'
 refine ⟨es,a,λj u hu=>(YY _ u).2 ⟨?_,?_⟩,c⟩
 ·have hj:=(Aj.1 hu).1
  have:(i+1)*e.size<=len*e.size:=Fa _ (by omega)
  rw [Cw,Um] at this
  omega
 ·have:=b j u hu
  rw [<-Fy,Cw (r.o+off) i] at this
  rw [<-Fy];exact this
theorem eH {t ty e:TypeId} {i:TypeInfo} (hu:P.underlying t=some (.slice e)) (hi:P.info? e=some i) (b:Option Addr) (len cap:Nat) (y:Option Addr) (c:Nat) (hl:len<=cap):
  (Builtin.append_ #[t,t] ty #[.slice b len cap, .slice y 0 c]).run P w= .ok (.slice b len cap) w:=by
 cases b<;>cases y<;>simp [Builtin.append_,run_underlying hu,sizeOf,typeInfo,hi,Builtin.lenOf,hl,Builtin.firstCells,loadCells,loadCellsFrom,storeCells]
theorem Ze {t ty e:TypeId} {i:TypeInfo} (hu:P.underlying t=some (.slice e)) (hi:P.info? e=some i) (g ob KO Aap:Nat) (cur:Array Value) (tid:TypeId) (hg:w.heap[g]?=some (.cells cur tid (0,0)))
  (a:Addr) (m c:Nat) (news:List Value) (hl:news.length=m*i.size) (Adf: ∀j u,news[j]?=some u->w.cell? (a.add j)=some u) (h1: ∀u∈news,u.oneCell'=true)
  (yE:KO+m<=Aap) (Wp:ob+KO*i.size+news.length<=cur.size):
  (Builtin.append_ #[t,t] ty #[.slice (some ⟨g,ob,none⟩) KO Aap, .slice (some a) m c]).run P w=
   .ok (.slice (some ⟨g,ob,none⟩) (KO+m) Aap) (w.setRow g (Dq cur.toList (ob+KO*i.size) news).toArray):=by
 have hf:=run_firstCells_some (P:=P) w i.size m a m c news hl Adf
 have Up:=run_storeCells_at P g (ob+KO*i.size) tid news 0 cur w hg (by simpa using Wp) h1
 simp only [Dz] at Up
 simp [Builtin.append_,run_underlying hu,sizeOf,typeInfo,hi,Builtin.lenOf,yE,hf,Addr.add_lit,Up,Dq]
theorem Tj (z:Array Value) (n:Nat):(Builtin.zeroCells z n).size=n*z.size:=by simp [Builtin.zeroCells]
theorem zc {l off len:Nat} {v:Value} {fr tr:Bool} {e:Ty} {tid:TypeId} {xs:List e.den} (hl:As H l=some (.arr fr tr e tid xs)) (h1:off+len<=xs.length) (h2:Hf (π l) e.size off len v):Bf X w π H (.at (.own l off len)) v:=
 DC (X:=X) (w:=w) hl h1 h2
theorem dz {st:St} {a:Act} (h:Bb X π st a w) (l:Nat) (ow:l<Be) (fr tr:Bool) (e:Ty) (te:TypeId) (zs:List e.den) (cl:List Value) (cur:Array Value) (cap:Nat) (w1:World) (N:List Nat)
  (hw1:w1=w.drew.alloc (.cells cur te)\/w1=w.alloc (.cells cur te))
  (hs:cur.size=cap*e.size) (hm:cap<=maxLen) (hl:zs.length<=cap) (Qp: ∀(k:Nat) (u:Value),cl[k]?=some u->cur[k]?=some u) (hf:Flat w (Cr X.w0.heap.size X.Sc π fr) e cl zs)
  (hN: ∀b∈N,(X.w0.heap.size<=b\/X.gv b)/\b<w.heap.size/\ ∀m r0,m≠l->π m=some r0-> ¬r0.cl b) (ht:tr=true->N.Nodup/\ ∃Fs,List.flatten Fs=N/\Rv w e cl zs Fs):
  Bb X (Vr π l (some (Real.with w.heap.size 0 cap N))) (st.new l (.arr fr tr e te zs)) a w1/\
   ∀n,n=zs.length->Bf X w1 (Vr π l (some (Real.with w.heap.size 0 cap N))) (st.new l (.arr fr tr e te zs)).heap (.at (.own l 0 n)) (.slice (some ⟨w.heap.size,0,none⟩) n cap):=by
 have hgb:w.grownBy w1 ((π l).map (·.g)):=by
  rcases hw1 with rfl|rfl
  ·exact ⟨rfl,rfl,rfl,by simp,λk hk _=>Below.heap_alloc w.drew _ k hk⟩
  ·exact World.grownBy_alloc w _ _
 have iw:w1.heap[w.heap.size]?=some (.cells cur te (0,0)):=by
  rcases hw1 with rfl|rfl
  ·exact heap_alloc_new w.drew _
  ·exact heap_alloc_new w _
 have hold: ∀k,k<w.heap.size->w1.heap[k]?=w.heap[k]?:=by
  rcases hw1 with rfl|rfl
  ·exact λk hk=>Below.heap_alloc w.drew _ k hk
  ·exact λk hk=>Below.heap_alloc w _ k hk
 refine ⟨h.gw l ow _ _ hgb (λr b h1 h2=>?_) (λr b h1 h2=>?_) λm=>?_,λn hn=>zc (St.Gh st l _) (by omega) ?_⟩
 ·cases h1
  have h2:b=w.heap.size:=h2
  exact ⟨.inl h2, .inr (by omega)⟩
 ·cases h1
  rcases h2 with h2|h2
  ·have h2:b=w.heap.size:=h2
   subst h2
   exact ⟨.inl h.1.below.size,Fm iw,λm r0 _ h3 h4=>by have:=(h.1.place m r0 _ h3 h4).2;omega⟩
  ·obtain ⟨h3,h4,h5⟩:=hN b h2
   exact ⟨h3,Ec h4 hgb.size,h5⟩
 ·refine Xj (tid:=te) (λ_=>h.1.below.size) iw (by simpa using hs) hm hl (by simpa using Qp) (hf.cells λes z hc=>m.cells _ _ _ _ hc) λl6=>?_
  obtain ⟨n1,Fs,rfl,n2⟩:=ht l6
  exact ⟨Cf.2 ⟨λhm=>by have:=(hN _ hm).2.1;omega,n1⟩,Fs,rfl,n2.Fw hgb.size λb hb=>hold b (n2.lt b hb)⟩
 ·rw [Ft]
  exact ⟨_,rfl,by dsimp only [Real.with];omega,λ_=>by simp [Real.with]⟩
theorem kx (hT:Du P T) {st:St} {a:Act} (h:Bb X π st a w) {t te ty:TypeId} {e:Ty} (iS:T.elem t=some te) (Wr:T.ty te=some e) {l off len:Nat} (ow:l<Be) {fr tr oO fr3 tr2:Bool} {xs ys:List e.den} {vb vy:Value} (h3f:fr3=(oO||e.flat))
  (hl:As st.heap l=some (.arr fr tr e te xs)) (hb:Bf X w π st.heap (.at (.own l off len)) vb) (hy:Cells w (Cr X.w0.heap.size X.Sc π oO) (.slice e) [vy] ys) (mB:len+ys.length<=Fu)
  (hy2:tr2=true->e.flat=true\/ ∃F,Cp w F (.slice e) [vy] ys/\fc X w π F):
  ∃v' w' π',(Builtin.append_ #[t,t] ty #[vb,vy]).run P w= .ok v' w'/\Bb X π' (st.new l (.arr (fr&&fr3) (tr&&tr2) e te (((xs.drop off).take len)++ys))) a w'/\
   Bf X w' π' (st.new l (.arr (fr&&fr3) (tr&&tr2) e te (((xs.drop off).take len)++ys))).heap (.at (.own l 0 (len+ys.length))) v':=by
 have hu:=hT.elem t te iS
 obtain ⟨i,hi,Uj,ov,pV⟩:=(hT.ty te e Wr).info
 obtain ⟨hlen,rJ⟩:=Nx (X:=X) (w:=w) hb hl
 have hA:=(h.1.heap l).Qq hl
 simp only [By] at hA
 have Qp:((xs.drop off).take len).length=len:=by simp;omega
 have pS:(len+ys.length)*i.bytes<=140737488355328:=by
  have:(len+ys.length)*i.bytes<=4294967296*256:=Nat.mul_le_mul mB ov
  omega
 have fU:len+ys.length<=maxLen:=by unfold Fu at mB;simp only [maxLen];omega
 obtain ⟨ad,c,rfl,CJ⟩:=qS hy
 have hzs:(Bs e (Bi e)).cells.size=i.size:=by
  rw [Uj]
  have hz: ∀τ:Ty,(Bi τ).length=τ.size:=by
   intro τ
   induction τ with
   |pair a r eZ eV=>simp [Bi,Ty.size,eZ,eV]
   |_=>rfl
  cases Up:e.Ap with
  |true=>simp [Bs,Up,Value.cells,hz]
  |false=>cases e<;>simp_all [Ty.Ap,Bs,Bi,Value.cells,Ty.size]
 have sf: ∀r,π l=some r-> ∀Fs:List (List Nat),(r.g::List.flatten Fs).Nodup->(∀b∈List.flatten Fs,r.cl b)->
   ∀b∈List.flatten Fs,(X.w0.heap.size<=b\/X.gv b)/\b<w.heap.size/\b≠r.g/\ ∀m r0,m≠l->π m=some r0-> ¬r0.cl b:= λr hr Fs hn hc b hb=>
  ⟨(h.1.place l r b hr (hc b hb)).1,(h.1.place l r b hr (hc b hb)).2,λe=>(Cf.1 hn).1 (e▸hb),λm r0 hm h1 h2=>hm (h.1.inj m l r0 r b h1 hr h2 (hc b hb))⟩
 by_cases hm0:ys= []
 ·
  subst hm0
  simp only [List.append_nil,Hr,Dz]
  cases hp:π l with
  |none=>
   rw [hp] at rJ hA
   obtain ⟨rfl,rfl,rfl⟩:=rJ
   have hr:=eH (P:=P) (w:=w) (ty:=ty) hu hi none 0 0 ad c (Ar _)
   refine ⟨_,w,Vr π l none,hr,h.replace l ow none _ (Pc w _) (λr hr=>by cases hr) (λ_=>?_),?_⟩
   ·simp only [By,Jo];simp
   ·exact zc (St.Gh st l _) (by simp) (by rw [Ft];exact ⟨rfl,rfl,rfl⟩)
  |some r=>
   rw [hp] at rJ hA
   obtain ⟨YF,rfl,oQ,mz⟩:=rJ
   have hr:=eH (P:=P) (w:=w) (ty:=ty) hu hi (some YF) len (r.cap-off) ad c (by omega)
   obtain ⟨cur,cl,ti,k1,k2,k3,k4,k5⟩:=fK hA hlen
   have pT:r.cap<=maxLen:=by obtain ⟨_,_,_,_,_,h4,_⟩:=hA;exact h4
   have hN: ∃N:List Nat,(∀b∈N,(X.w0.heap.size<=b\/X.gv b)/\b<w.heap.size/\b≠r.g/\ ∀m r0,m≠l->π m=some r0-> ¬r0.cl b)/\((tr&&tr2)=true->(r.g::N).Nodup/\ ∃Fs,List.flatten Fs=N/\Rv w e cl ((xs.drop off).take len) Fs):=by
    cases l6:(tr&&tr2) with
    |false=>exact ⟨[],by simp,λh=>by cases h⟩
    |true=>
     simp only [Ag] at l6
     obtain ⟨Fs,t1,t2,t3⟩:=k5 l6.1
     exact ⟨_,sf r hp Fs t2 t3,λ_=>⟨t2,Fs,rfl,t1⟩⟩
   obtain ⟨N,n1,n2⟩:=hN
   refine ⟨_,w,Vr π l (some (Real.with r.g (r.o+off) (r.cap-off) N)),hr,h.gw l ow _ _ (Pc w _) (λr' b h1 h2=>?_) (λr' b h1 h2=>?_) (λm=>?_),?_⟩
   ·cases h1
    have h2:b=r.g:=h2
    exact ⟨.inl h2, .inl ⟨r,hp,h2▸h.1.Cm hp⟩⟩
   ·cases h1
    rcases h2 with h2|h2
    ·have h2:b=r.g:=h2
     subst h2
     have ko:=h.1.sub l r _ hp (h.1.Cm hp)
     exact ⟨(h.1.place l r _ hp ko).1,(h.1.place l r _ hp ko).2,λm r0 hm h3 h4=>hm (h.1.inj m l r0 r _ h3 hp h4 ko)⟩
    ·obtain ⟨h3,h4,_,h5⟩:=n1 b h2
     exact ⟨h3,h4,h5⟩
   ·exact Xj (tid:=te) (λhf=>hA.1.2.2 (by simp only [Ag] at hf;exact hf.1)) k1 (by rw [k2];congr 1;omega) (by omega) (by rw [Qp];omega) (λk u hu=>(k4 k u hu).2) (k3.cells λes z hc=>(m.cells _ _ _ _ hc).and_left) n2
   ·refine zc (St.Gh st l _) (by rw [Qp];omega) ?_
    rw [Ft]
    exact ⟨YF,rfl,by dsimp only [Real.with];omega,λJx=>by simpa [Real.with] using mz (by dsimp only [Real.with] at Jx;omega)⟩
 ·rcases CJ with h0|⟨g,o,rfl,news,n1,n2,n3,n5,n4⟩
  ·exact absurd h0 hm0
  ·have OR:0<ys.length:=by
    rcases Sk ys.length with h0|h0
    ·exact absurd (Dd h0) hm0
    ·exact h0
   have n1':news.length=ys.length*i.size:=by rw [Uj];exact n1
   have n2': ∀j u,news[j]?=some u->w.cell? ((⟨g,o,none⟩:Addr).add j)=some u:= λj u hu=>by rw [Addr.add_lit];exact n2 j u hu
   have hfn:Flat w (Cr X.w0.heap.size X.Sc π fr3) e news ys:=⟨n1,λi y hy=>by
    obtain ⟨es,k1,k2,k3⟩:=n4 i y hy
    refine ⟨es,k1,k2,?_⟩
    cases hef:e.flat with
    |true=>exact Cells.flat e es y hef k3
    |false=>rw [hef,eW] at h3f;rw [h3f];exact k3⟩
   have GY: ∀zs:List e.den,(((xs.drop off).take len)++ys).length=len+ys.length:= λ_=>by simp [Qp]
   have new:tr2=true-> ∃Fs,Rv w e news ys Fs/\fc X w π (List.flatten Fs):=by
    intro XN
    rcases hy2 XN with MK|⟨F,f1,f2⟩
    ·refine ⟨List.replicate ys.length [],⟨by simp,λi z Fi hz hF=>?_⟩,by simp,by simp⟩
     obtain ⟨es,q1,q2,q3⟩:=hfn.2 i z hz
     have:Fi= []:=Ew (Bz hF)
     subst this
     exact ⟨es,q1,q2,Wo e es z MK q3⟩
    simp only [Cp] at f1
    obtain ⟨a0,Api,Amd,e0,e3,e4,f1⟩:=f1
    rcases f1 with ⟨f1,_⟩|⟨ad',g',o',Fs,ea,ea',hg',rfl,hFl,f1⟩
    ·exact absurd f1 hm0
    ·have ea':=ea' (by omega)
     subst ea'
     simp only [Gd,Value.slice.injEq,eY] at e0
     obtain ⟨e0,_⟩:=e0
     rw [ea] at e0
     simp only [Aa,Addr.mk.injEq,eY] at e0
     obtain ⟨rfl,rfl⟩:=e0
     refine ⟨Fs,⟨hFl,λi z Fi hz hF=>?_⟩,(Cf.1 f2.1).2,λb hb=>f2.2 b (Am _ hb)⟩
     obtain ⟨es,q1,q2,q3⟩:=f1 i z Fi hz hF
     refine ⟨es,q1,λj u hu=>?_,q3⟩
     have hi:=(Aj.1 hz).1
     have hj:=(Aj.1 hu).1
     refine n5 _ u ?_ (by have:=q2 j u hu;rw [Fy] at this;exact this)
     have:(i+1)*e.size<=ys.length*e.size:=Fa _ (by omega)
     rw [Cw,Um] at this
     omega
   cases hp:π l with
   |none=>
    rw [hp] at rJ hA
    obtain ⟨rfl,rfl,rfl⟩:=rJ
    have hr:=run_append_nil (P:=P) w t ty te i _ hu hi pV ⟨g,o,none⟩ ys.length c news n1' n2' OR (by simp only [maxLen] at fU;omega) (by have:=pS;rw [Db] at this;omega)
    have GN:=grownCap_ge w ys.length 0 te
    have UF:=grownCap_le_maxLen w ys.length 0 te (by omega)
    have hN: ∃N:List Nat,(∀b∈N,(X.w0.heap.size<=b\/X.gv b)/\b<w.heap.size/\ ∀m r0,m≠l->π m=some r0-> ¬r0.cl b)/\((tr&&tr2)=true->N.Nodup/\ ∃Fs,List.flatten Fs=N/\Rv w e news ((List.take 0 (List.drop 0 xs))++ys) Fs):=by
     cases l6:(tr&&tr2) with
     |false=>exact ⟨[],by simp,λh=>by cases h⟩
     |true=>
      simp only [Ag] at l6
      obtain ⟨Fs,t1,t2⟩:=new l6.2
      exact ⟨_,λb hb=>⟨(t2.2 b hb).1,(t2.2 b hb).2.1,λm r0 _=>(t2.2 b hb).2.2 m r0⟩,λ_=>⟨t2.1,Fs,rfl,by simpa using t1⟩⟩
    obtain ⟨N,q1,q2⟩:=hN
    have:=dz h l ow (fr&&fr3) (tr&&tr2) e te ((List.take 0 (List.drop 0 xs))++ys) news (news.toArray++Builtin.zeroCells (Bs e (Bi e)).cells (grownCap w ys.length 0 te-ys.length)) (grownCap w ys.length 0 te) _ N (.inl rfl) (by
      rw [Array.size_append,Gf,Tj,hzs,n1,Uj,<-Cw];congr 1;omega) UF (by simpa using GN) (λk u hu=>by
      rw [Sj (by simpa using (Aj.1 hu).1)];simpa using hu) (by simpa using hfn.cells λes z hc=>hc.and_right) q1 q2
    refine ⟨_,_,_,hr,this.1,?_⟩
    have:=this.2 ys.length (by simp)
    simpa using this
   |some r=>
    rw [hp] at rJ hA
    obtain ⟨YF,rfl,oQ,mz⟩:=rJ
    obtain ⟨cur,cl,ti,k1,k2,k3,k4,k5⟩:=fK hA hlen
    have pT:r.cap<=maxLen:=by obtain ⟨_,_,_,_,_,h4,_⟩:=hA;exact h4
    have k3l:cl.length=len*e.size:=by rw [k3.1,Qp]
    have hN: ∃N:List Nat,(∀b∈N,(X.w0.heap.size<=b\/X.gv b)/\b<w.heap.size/\b≠r.g/\ ∀m r0,m≠l->π m=some r0-> ¬r0.cl b)/\((tr&&tr2)=true->N.Nodup/\ ∃Fs,List.flatten Fs=N/\Rv w e (cl++news) (((xs.drop off).take len)++ys) Fs):=by
     cases l6:(tr&&tr2) with
     |false=>exact ⟨[],by simp,λh=>by cases h⟩
     |true=>
      simp only [Ag] at l6
      obtain ⟨Fs,t1,t2,t3⟩:=k5 l6.1
      obtain ⟨Fs2,t4,t5⟩:=new l6.2
      have ho:=sf r hp Fs t2 t3
      refine ⟨List.flatten (Fs++Fs2),λb hb=>?_,λ_=>⟨?_,Fs++Fs2,rfl,Rv.append (by rw [k3l,Qp]) t1 t4⟩⟩
      ·rw [List.flatten_append] at hb
       rcases Az.1 hb with hb|hb
       ·exact ho b hb
       ·have:=t5.2 b hb
        exact ⟨this.1,this.2.1,λe=>this.2.2 l r hp (e▸h.1.sub l r _ hp (h.1.Cm hp)),λm r0 _=>this.2.2 m r0⟩
      ·rw [List.flatten_append]
       refine Dp.2 ⟨(Cf.1 t2).2,t5.1,λb hb b' rH e=>?_⟩
       subst e
       exact (t5.2 b rH).2.2 l r hp (t3 b hb)
    obtain ⟨N,q1,q2⟩:=hN
    by_cases yE:len+ys.length<=r.cap-off
    ·
     have Ahu:=mz (by omega)
     subst Ahu
     have Wp:(r.o+off)*e.size+len*i.size+news.length<=cur.size:=by
      rw [Uj,n1,<-Cw,<-Cw,k2]
      exact Fa _ (by omega)
     have Xy:(r.o+off)*e.size+len*i.size+news.length<=cur.toList.length:=by simpa using Wp
     have hr:=Ze (P:=P) (w:=w) (ty:=ty) hu hi r.g ((r.o+off)*e.size) len (r.cap-off) cur ti k1 ⟨g,o,none⟩ ys.length c news n1' n2' n3 yE Wp
     refine ⟨_,_,Vr π l (some (Real.with r.g (r.o+off) (r.cap-off) N)),hr,h.gw l ow _ _ (by rw [hp];exact Mx w r.g _) (λr' b h1 h2=>?_) (λr' b h1 h2=>?_) (λm=>?_),?_⟩
     ·cases h1
      have h2:b=r.g:=h2
      exact ⟨.inl h2, .inl ⟨r,hp,h2▸h.1.Cm hp⟩⟩
     ·cases h1
      rcases h2 with h2|h2
      ·have h2:b=r.g:=h2
       subst h2
       have ko:=h.1.sub l r _ hp (h.1.Cm hp)
       exact ⟨(h.1.place l r _ hp ko).1,by simpa using (h.1.place l r _ hp ko).2,λm r0 hm h3 h4=>hm (h.1.inj m l r0 r _ h3 hp h4 ko)⟩
      ·obtain ⟨h3,h4,_,h5⟩:=q1 b h2
       exact ⟨h3,by simpa using h4,h5⟩
     ·refine Xj (tid:=te) (cl:=cl++news) (λhf=>hA.1.2.2 (by simp only [Ag] at hf;exact hf.1)) (setRow_heap w r.g cur _ ti _ k1) ?_ (by omega) (by rw [GY xs];omega) (λk u hu=>?_)
       (((k3.cells λes z hc=>(m.cells _ _ _ _ hc).and_left)).append (hfn.cells λes z hc=>(m.cells _ _ _ _ hc).and_right)) (λl6=>?_)
      ·rw [Gf,Ie _ _ _ Xy,Wc,k2];congr 1;omega
      ·rw [Hp,Ho _ _ _ _ Xy]
       by_cases hk:k<cl.length
       ·rw [Aq hk] at hu
        rw [Ab (by rw [Uj];omega)]
        simpa using (k4 k u hu).2
       ·rw [Ao (by omega)] at hu
        have:=(Aj.1 hu).1
        rw [Ai (by rw [Uj];omega),Ab (by rw [Uj];omega)]
        rw [show (r.o+off)*e.size+k-((r.o+off)*e.size+len*i.size)=k-cl.length by rw [Uj,k3l];omega]
        exact hu
      ·obtain ⟨z1,Fs,rfl,z2⟩:=q2 l6
       exact ⟨Cf.2 ⟨λhm=>(q1 _ hm).2.2.1 rfl,z1⟩,Fs,rfl,z2.Fw (by simp) λb hb=>setRow_other w r.g b _ (q1 b hb).2.2.1⟩
     ·refine zc (St.Gh st l _) (by rw [GY xs];omega) ?_
      rw [Ft]
      exact ⟨_,rfl,by dsimp only [Real.with];omega,λ_=>by simp [Real.with]⟩
    ·
     have hold: ∀j u,cl[j]?=some u->w.cell? (YF.add j)=some u:=by
      intro j u hu
      obtain ⟨q1,q2⟩:=k4 j u hu
      have ow:0<len:=by
       rcases Sk len with h0|h0
       ·rw [h0] at q1;simp at q1
       ·exact h0
      rw [mz (by omega),Addr.add_lit,cellOf k1];exact q2
     have hr:=run_append_grow (P:=P) w t ty te i _ hu hi pV YF len (r.cap-off) cl (by rw [Uj];exact k3l) hold ⟨g,o,none⟩ ys.length c news n1' n2' (by omega) (by simp only [maxLen] at fU;omega) (growslice_fits (by omega) pS)
     have GN:=grownCap_ge w (len+ys.length) (r.cap-off) te
     have UF:=grownCap_le_maxLen w (len+ys.length) (r.cap-off) te fU
     have:=dz h l ow (fr&&fr3) (tr&&tr2) e te (((xs.drop off).take len)++ys) (cl++news) (cl.toArray++news.toArray++Builtin.zeroCells (Bs e (Bi e)).cells (grownCap w (len+ys.length) (r.cap-off) te-(len+ys.length))) (grownCap w (len+ys.length) (r.cap-off) te) _ N (.inl rfl) (by
       rw [Array.size_append,Array.size_append,Gf,Gf,Tj,hzs,k3l,n1,Uj,<-Cw,<-Cw];congr 1;omega) UF (by rw [GY xs];exact GN) (λk u hu=>by
       have hk:=(Aj.1 hu).1
       rw [Sj (by simpa using hk)]
       simpa using hu) ((k3.cells λes z hc=>hc.and_left).append (hfn.cells λes z hc=>hc.and_right)) (λb hb=>⟨(q1 b hb).1,(q1 b hb).2.1,(q1 b hb).2.2.2⟩) q2
     exact ⟨_,_,_,hr,this.1,this.2 _ (GY xs).symm⟩
theorem qH {st:St} {a:Act} (h:Bb X π st a w) {l off len:Nat} {fr tr:Bool} {e:Ty} {tid:TypeId} {xs:List e.den} (ow:l<Be) (hl:As st.heap l=some (.arr fr tr e tid xs)) {v:Value} (hb:Gy X w π st.heap (.own l off len) v):
  ∃π',Bb X π' (st.new l (.arr fr tr e tid ((xs.drop off).take len))) a w/\Gy X w π' (st.new l (.arr fr tr e tid ((xs.drop off).take len))).heap (.own l 0 ((xs.drop off).take len).length) v/\ ∀k,k≠l->π' k=π k:=by
 obtain ⟨hlen,rJ⟩:=Nx (X:=X) (w:=w) hb hl
 have hA:=(h.1.heap l).Qq hl
 simp only [By] at hA
 have Qp:((xs.drop off).take len).length=len:=by simp;omega
 have sf: ∀r,π l=some r-> ∀Fs:List (List Nat),(r.g::List.flatten Fs).Nodup->(∀b∈List.flatten Fs,r.cl b)->
   ∀b∈List.flatten Fs,(X.w0.heap.size<=b\/X.gv b)/\b<w.heap.size/\b≠r.g/\ ∀m r0,m≠l->π m=some r0-> ¬r0.cl b:= λr hr Fs hn hc b hb=>
  ⟨(h.1.place l r b hr (hc b hb)).1,(h.1.place l r b hr (hc b hb)).2,λe=>(Cf.1 hn).1 (e▸hb),λm r0 hm h1 h2=>hm (h.1.inj m l r0 r b h1 hr h2 (hc b hb))⟩
 cases hp:π l with
 |none=>
  rw [hp] at rJ hA
  obtain ⟨rfl,rfl,rfl⟩:=rJ
  refine ⟨Vr π l none,h.replace l ow none _ (Pc w _) (λr hr=>by cases hr) (λ_=>?_),?_⟩
  ·simp only [By,Jo];simp
  ·exact ⟨⟨_,e.size,_,St.Gh st l _,rfl,by simp,by rw [Ft];exact ⟨rfl,rfl,by simp⟩⟩,λk hk=>Fo _ _ hk⟩
 |some r=>
  rw [hp] at rJ hA
  obtain ⟨YF,rfl,oQ,mz⟩:=rJ
  obtain ⟨cur,cl,ti,k1,k2,k3,k4,k5⟩:=fK hA hlen
  have pT:r.cap<=maxLen:=by obtain ⟨_,_,_,_,_,h4,_⟩:=hA;exact h4
  have hN: ∃N:List Nat,(∀b∈N,(X.w0.heap.size<=b\/X.gv b)/\b<w.heap.size/\b≠r.g/\ ∀m r0,m≠l->π m=some r0-> ¬r0.cl b)/\(tr=true->(r.g::N).Nodup/\ ∃Fs,List.flatten Fs=N/\Rv w e cl ((xs.drop off).take len) Fs):=by
   cases l6:tr with
   |false=>exact ⟨[],by simp,λh=>by cases h⟩
   |true=>
    obtain ⟨Fs,t1,t2,t3⟩:=k5 l6
    exact ⟨_,sf r hp Fs t2 t3,λ_=>⟨t2,Fs,rfl,t1⟩⟩
  obtain ⟨N,n1,n2⟩:=hN
  refine ⟨Vr π l (some (Real.with r.g (r.o+off) (r.cap-off) N)),h.gw l ow _ _ (Pc w _) (λr' b h1 h2=>?_) (λr' b h1 h2=>?_) (λm=>?_),?_⟩
  ·cases h1
   have h2:b=r.g:=h2
   exact ⟨.inl h2, .inl ⟨r,hp,h2▸h.1.Cm hp⟩⟩
  ·cases h1
   rcases h2 with h2|h2
   ·have h2:b=r.g:=h2
    subst h2
    have ko:=h.1.sub l r _ hp (h.1.Cm hp)
    exact ⟨(h.1.place l r _ hp ko).1,(h.1.place l r _ hp ko).2,λm r0 hm h3 h4=>hm (h.1.inj m l r0 r _ h3 hp h4 ko)⟩
   ·obtain ⟨h3,h4,_,h5⟩:=n1 b h2
    exact ⟨h3,h4,h5⟩
  ·exact Xj (tid:=tid) (λhf=>hA.1.2.2 hf) k1 (by rw [k2];congr 1;omega) (by omega) (by rw [Qp];omega) (λk u hu=>(k4 k u hu).2) (k3.cells λes z hc=>m.cells _ _ _ _ hc) n2
  ·refine ⟨⟨_,e.size,_,St.Gh st l _,rfl,by simp,?_⟩,λk hk=>Fo _ _ hk⟩
   rw [Ft,Qp]
   exact ⟨YF,rfl,by dsimp only [Real.with];omega,λJx=>by simpa [Real.with] using mz (by dsimp only [Real.with] at Jx;omega)⟩
end
end Go.Proofs.Ytkkdpknjohcekaa
