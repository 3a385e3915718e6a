/-
  Part 12 of the proof that the statement FnExactSolveIDAStar holds.
-/
import Derived.Test.YtfgfigkbgecfnaaGreatCSolveIDAStar10
namespace Go.Proofs.YtfgfigkbgecfnaaGreat
open Go.RowKit
section
variable {P:Program} {T:Tab} {X:Ctx} {w w':World} {π:Pi} {H:List (Nat×OB)}
def Flat (w:World) (S:Nat->Prop) (e:Ty) (cl:List Value) (zs:List e.den):Prop:=
 cl.length=zs.length*e.size/\ ∀(i:Nat) (z:e.den),zs[i]?=some z-> ∃es:List Value,es.length=e.size/\(∀j u,es[j]?=some u->cl[i*e.size+j]?=some u)/\Cells w S e es z
theorem Flat.append {S:Nat->Prop} {e:Ty} {c1 c2:List Value} {z1 z2:List e.den} (h1:Flat w S e c1 z1) (h2:Flat w S e c2 z2):Flat w S e (c1++c2) (z1++z2):=by
 refine ⟨by simp [h1.1,h2.1,Df],λi z hz=>?_⟩
 by_cases hi:i<z1.length
 ·rw [At hi] at hz
  obtain ⟨es,he,hc,hr⟩:=h1.2 i z hz
  refine ⟨es,he,λj u hu=>?_,hr⟩
  have:=hc j u hu
  rw [At (An.1 this).1];exact this
 ·rw [As (by omega)] at hz
  obtain ⟨es,he,hc,hr⟩:=h2.2 _ z hz
  refine ⟨es,he,λj u hu=>?_,hr⟩
  have:=hc j u hu
  have e1:i*e.size=z1.length*e.size+(i-z1.length)*e.size:=by rw [<-Df];congr 1;omega
  rw [As (by rw [h1.1];omega),h1.1,show i*e.size+j-z1.length*e.size=(i-z1.length)*e.size+j by omega]
  exact this
theorem Flat.cells {S S':Nat->Prop} {e:Ty} {cl:List Value} {zs:List e.den} (h:Flat w S e cl zs) (hc: ∀es z,Cells w S e es z->Cells w' S' e es z):Flat w' S' e cl zs:=
 ⟨h.1,λi z hz=>let ⟨es,a,b,c⟩:=h.2 i z hz;⟨es,a,b,hc es z c⟩⟩
theorem Flat.nil {S:Nat->Prop} {e:Ty} :Flat w S e [] []:=⟨by simp,λi z hz=>by simp at hz⟩
def Tq (w:World) (e:Ty) (cl:List Value) (zs:List e.den) (Fs:List (List Nat)):Prop:=
 Fs.length=zs.length/\ ∀(i:Nat) (z:e.den) (F:List Nat),zs[i]?=some z->Fs[i]?=some F-> ∃es:List Value,es.length=e.size/\(∀j u,es[j]?=some u->cl[i*e.size+j]?=some u)/\Ci w F e es z
theorem Tq.append {e:Ty} {c1 c2:List Value} {z1 z2:List e.den} {F1 F2:List (List Nat)} (hc:c1.length=z1.length*e.size) (h1:Tq w e c1 z1 F1) (h2:Tq w e c2 z2 F2):Tq w e (c1++c2) (z1++z2) (F1++F2):=by
 have hl:=h1.1
 refine ⟨by simp [h1.1,h2.1],λi z F hz hF=>?_⟩
 by_cases hi:i<z1.length
 ·rw [At hi] at hz
  rw [At (by omega)] at hF
  obtain ⟨es,he,II,hr⟩:=h1.2 i z F hz hF
  refine ⟨es,he,λj u hu=>?_,hr⟩
  have:=II j u hu
  rw [At (An.1 this).1];exact this
 ·rw [As (by omega)] at hz
  rw [As (by omega),hl] at hF
  obtain ⟨es,he,II,hr⟩:=h2.2 _ z F hz hF
  refine ⟨es,he,λj u hu=>?_,hr⟩
  have:=II j u hu
  have hle:z1.length*e.size<=i*e.size:=Ey _ (by omega)
  rw [As (by omega),<-this]
  congr 1
  rw [hc,Nat.sub_mul];omega
theorem Tq.Fg {e:Ty} {cl:List Value} {zs:List e.den} {Fs:List (List Nat)} (h:Tq w e cl zs Fs) (hs:w.heap.size<=w'.heap.size) (hk: ∀b∈List.flatten Fs,w'.heap[b]?=w.heap[b]?):Tq w' e cl zs Fs:=
 ⟨h.1,λi z F hz hF=>by
  obtain ⟨es,he,II,hr⟩:=h.2 i z F hz hF
  exact ⟨es,he,II,hr.Fg _ _ _ _ hs λb hb=>hk b (Fq.2 ⟨F,Bv hF,hb⟩)⟩⟩
theorem Tq.lt {e:Ty} {cl:List Value} {zs:List e.den} {Fs:List (List Nat)} (h:Tq w e cl zs Fs) (b:Nat) (hb:b∈List.flatten Fs):b<w.heap.size:=by
 obtain ⟨F,hF,hb⟩:=Fq.1 hb
 obtain ⟨i,hi,rfl⟩:=Ry hF
 have hl:=h.1
 obtain ⟨es,_,_,hr⟩:=h.2 i (zs[i]'(by omega)) _ (Ac _) (Ac hi)
 exact hr.lt _ _ _ _ b hb
def Real.with (g o cap:Nat) (N:List Nat):Real:=⟨g,o,cap,λb=>b=g,λb=>b=g\/b∈N⟩
theorem a5 {g o cap:Nat} {N:List Nat} {fr tr:Bool} {e:Ty} {tid:TypeId} {zs:List e.den} {cl:List Value} {cur:Array Value} {ti:TypeId} (hB:fr=true->X.w0.heap.size<=g) (hg:w.heap[g]?=some (.cells cur ti (0,0)))
  (hs:cur.size=(o+cap)*e.size) (hm:cap<=maxLen) (hl:zs.length<=cap) (Ox: ∀k u,cl[k]?=some u->cur[o*e.size+k]?=some u) (hf:Flat w (Dd X.w0.heap.size X.Sc π fr) e cl zs)
  (ht:tr=true->(g::N).Nodup/\ ∃Fs,List.flatten Fs=N/\Tq w e cl zs Fs):
  Ke X w π (some (Real.with g o cap N)) fr tr e tid zs:=by
 refine ⟨⟨rfl,λb hb=>hb,hB⟩,cur,_,hg,hs,hm,hl,λi z hz=>?_,λoH=>?_⟩
 ·obtain ⟨es,a,b,c⟩:=hf.2 i z hz
  refine ⟨es,a,λj u hu=>?_,c⟩
  have:=Ox _ u (b j u hu)
  rw [<-Gv,<-Df] at this
  exact this
 ·obtain ⟨hn,Fs,rfl,h1,h2⟩:=ht oH
  refine ⟨Fs,h1,hn,λb hb=> .inr hb,λi z F hz hF=>?_⟩
  obtain ⟨es,a,b,c⟩:=h2 i z F hz hF
  refine ⟨es,a,λj u hu=>?_,c⟩
  have:=Ox _ u (b j u hu)
  rw [<-Gv,<-Df] at this
  exact this
theorem jt {r:Real} {fr tr:Bool} {e:Ty} {tid:TypeId} {xs:List e.den} {off len:Nat} (h:Ke X w π (some r) fr tr e tid xs) (hl:off+len<=xs.length):
  ∃cur cl ti,w.heap[r.g]?=some (.cells cur ti (0,0))/\cur.size=(r.o+r.cap)*e.size/\Flat w (Dd X.w0.heap.size X.Sc π fr) e cl ((xs.drop off).take len)/\
   (∀k u,cl[k]?=some u->k<len*e.size/\cur[(r.o+off)*e.size+k]?=some u)/\
   (tr=true-> ∃Fs,Tq w e cl ((xs.drop off).take len) Fs/\(r.g::List.flatten Fs).Nodup/\ ∀b∈List.flatten Fs,r.cl b):=by
 obtain ⟨h1,cur,ti,h2,h3,h4,h5,h6,h7⟩:=h
 have hll:((xs.drop off).take len).length=len:=by simp;omega
 have jD:(r.o+off)*e.size+len*e.size<=cur.size:=by
  rw [<-Df,h3];exact Ey _ (by omega)
 have Alm: ∀k u,((cur.toList.drop ((r.o+off)*e.size)).take (len*e.size))[k]?=some u↔k<len*e.size/\cur[(r.o+off)*e.size+k]?=some u:=by
  intro k u
  rw [Da]
  split
  ·rename_i hk;rw [Cz];simp [hk]
  ·rename_i hk;simp [hk]
 refine ⟨cur,(cur.toList.drop ((r.o+off)*e.size)).take (len*e.size),ti,h2,h3,⟨by rw [hll];simp;omega,λi z hz=>?_⟩,λk u hu=>(Alm k u).1 hu,λht=>?_⟩
 rotate_left
 ·obtain ⟨Fs,t1,t2,t3,t4⟩:=h7 ht
  refine ⟨(Fs.drop off).take len,⟨by simp [t1],λi x F hx hF=>?_⟩,?_,λb hb=>t3 b (Td off len b hb)⟩
  ·have hi:i<len:=by
    have:=(An.1 hx).1
    rw [hll] at this;exact this
   have hx':xs[off+i]?=some x:=by rw [Da,Ab hi,Cz] at hx;exact hx
   have hF':Fs[off+i]?=some F:=by rw [Da,Ab hi,Cz] at hF;exact hF
   obtain ⟨es,a,b,c⟩:=t4 (off+i) x F hx' hF'
   refine ⟨es,a,λj u hu=>(Alm _ u).2 ⟨?_,?_⟩,c⟩
   ·have hj:=(An.1 hu).1
    have:(i+1)*e.size<=len*e.size:=Ey _ (by omega)
    rw [Df,Sz] at this
    omega
   ·have:=b j u hu
    rw [<-Gv,Df (r.o+off) i] at this
    rw [<-Gv];exact this
  ·have:=Cd.1 t2
   exact Cd.2 ⟨λhm=>this.1 (Td off len _ hm),nv off len this.2⟩
 have hi:i<len:=by have:=(An.1 hz).1;omega
 have hz':xs[off+i]?=some z:=by
  rw [Da,Ab hi,Cz] at hz;exact hz
 obtain ⟨es,a,b,c⟩:=h6 (off+i) z hz'
 refine ⟨es,a,λj u hu=>(Alm _ u).2 ⟨?_,?_⟩,c⟩
 ·have hj:=(An.1 hu).1
  have:(i+1)*e.size<=len*e.size:=Ey _ (by omega)
  rw [Df,Sz] at this
  omega
 ·have:=b j u hu
  rw [<-Gv,Df (r.o+off) i] at this
  rw [<-Gv];exact this
theorem iD {t ty e:TypeId} {i:TypeInfo} (hu:P.underlying t=some (.slice e)) (hi:P.info? e=some i) (b:Option Addr) (len cap:Nat) (y:Option Addr) (c:Nat) (hl:len<=cap):
  (Builtin.append_ #[t,t] ty #[.slice b len cap, .slice y 0 c]).run P w= .ok (.slice b len cap) w:=by
 cases b<;>cases y<;>simp [Builtin.append_,run_underlying hu,sizeOf,typeInfo,hi,Builtin.lenOf,hl,Builtin.firstCells,loadCells,loadCellsFrom,storeCells]
theorem bq {t ty e:TypeId} {i:TypeInfo} (hu:P.underlying t=some (.slice e)) (hi:P.info? e=some i) (g ob ZR Anw:Nat) (cur:Array Value) (tid:TypeId) (hg:w.heap[g]?=some (.cells cur tid (0,0)))
  (a:Addr) (m c:Nat) (news:List Value) (hl:news.length=m*i.size) (Aqf: ∀j u,news[j]?=some u->w.cell? (a.add j)=some u) (h1: ∀u∈news,u.oneCell'=true)
  (rY:ZR+m<=Anw) (Yw:ob+ZR*i.size+news.length<=cur.size):
  (Builtin.append_ #[t,t] ty #[.slice (some ⟨g,ob,none⟩) ZR Anw, .slice (some a) m c]).run P w=
   .ok (.slice (some ⟨g,ob,none⟩) (ZR+m) Anw) (w.setRow g (Ea cur.toList (ob+ZR*i.size) news).toArray):=by
 have hf:=run_firstCells_some (P:=P) w i.size m a m c news hl Aqf
 have Uk:=run_storeCells_at P g (ob+ZR*i.size) tid news 0 cur w hg (by simpa using Yw) h1
 simp only [Fk] at Uk
 simp [Builtin.append_,run_underlying hu,sizeOf,typeInfo,hi,Builtin.lenOf,rY,hf,Addr.add_lit,Uk,Ea]
theorem Ve (z:Array Value) (n:Nat):(Builtin.zeroCells z n).size=n*z.size:=by simp [Builtin.zeroCells]
theorem KB {l off len:Nat} {v:Value} {fr tr:Bool} {e:Ty} {tid:TypeId} {xs:List e.den} (hl:Au H l=some (.arr fr tr e tid xs)) (h1:off+len<=xs.length) (h2:Ib (π l) e.size off len v):Bs X w π H (.at (.own l off len)) v:=
 QY (X:=X) (w:=w) hl h1 h2
theorem gw {st:St} {a:Act} (h:Bk X π st a w) (l:Nat) (vG:l<Bn) (fr tr:Bool) (e:Ty) (te:TypeId) (zs:List e.den) (cl:List Value) (cur:Array Value) (cap:Nat) (w1:World) (N:List Nat)
  (hw1:w1=w.drew.alloc (.cells cur te)\/w1=w.alloc (.cells cur te))
  (hs:cur.size=cap*e.size) (hm:cap<=maxLen) (hl:zs.length<=cap) (Ox: ∀(k:Nat) (u:Value),cl[k]?=some u->cur[k]?=some u) (hf:Flat w (Dd X.w0.heap.size X.Sc π fr) e cl zs)
  (hN: ∀b∈N,(X.w0.heap.size<=b\/X.gv b)/\b<w.heap.size/\ ∀m r0,m≠l->π m=some r0-> ¬r0.cl b) (ht:tr=true->N.Nodup/\ ∃Fs,List.flatten Fs=N/\Tq w e cl zs Fs):
  Bk X (Xt π l (some (Real.with w.heap.size 0 cap N))) (st.new l (.arr fr tr e te zs)) a w1/\
   ∀n,n=zs.length->Bs X w1 (Xt π l (some (Real.with w.heap.size 0 cap N))) (st.new l (.arr fr tr e te zs)).heap (.at (.own l 0 n)) (.slice (some ⟨w.heap.size,0,none⟩) n cap):=by
 have zw:w.grownBy w1 ((π l).map (·.g)):=by
  rcases hw1 with rfl|rfl
  ·exact ⟨rfl,rfl,rfl,by simp,λk hk _=>Below.heap_alloc w.drew _ k hk⟩
  ·exact World.grownBy_alloc w _ _
 have lH:w1.heap[w.heap.size]?=some (.cells cur te (0,0)):=by
  rcases hw1 with rfl|rfl
  ·exact heap_alloc_new w.drew _
  ·exact heap_alloc_new w _
 have hold: ∀k,k<w.heap.size->w1.heap[k]?=w.heap[k]?:=by
  rcases hw1 with rfl|rfl
  ·exact λk hk=>Below.heap_alloc w.drew _ k hk
  ·exact λk hk=>Below.heap_alloc w _ k hk
 refine ⟨h.kf l vG _ _ zw (λr b h1 h2=>?_) (λr b h1 h2=>?_) λm=>?_,λn hn=>KB (St.Hc st l _) (by omega) ?_⟩
 ·cases h1
  have h2:b=w.heap.size:=h2
  exact ⟨.inl h2, .inr (by omega)⟩
 ·cases h1
  rcases h2 with h2|h2
  ·have h2:b=w.heap.size:=h2
   subst h2
   exact ⟨.inl h.1.below.size,Fw lH,λm r0 _ h3 h4=>by have:=(h.1.place m r0 _ h3 h4).2;omega⟩
  ·obtain ⟨h3,h4,h5⟩:=hN b h2
   exact ⟨h3,Dk h4 zw.size,h5⟩
 ·refine a5 (tid:=te) (λ_=>h.1.below.size) lH (by simpa using hs) hm hl (by simpa using Ox) (hf.cells λes z hc=>m.cells _ _ _ _ hc) λoH=>?_
  obtain ⟨n1,Fs,rfl,n2⟩:=ht oH
  exact ⟨Cd.2 ⟨λhm=>by have:=(hN _ hm).2.1;omega,n1⟩,Fs,rfl,n2.Fg zw.size λb hb=>hold b (n2.lt b hb)⟩
 ·rw [Gr]
  exact ⟨_,rfl,by dsimp only [Real.with];omega,λ_=>by simp [Real.with]⟩
theorem nV (hT:Ed P T) {st:St} {a:Act} (h:Bk X π st a w) {t te ty:TypeId} {e:Ty} (mb:T.elem t=some te) (Yy:T.ty te=some e) {l off len:Nat} (vG:l<Bn) {fr tr tR fr3 tr2:Bool} {xs ys:List e.den} {vb vy:Value} (h3f:fr3=(tR||e.flat))
  (hl:Au st.heap l=some (.arr fr tr e te xs)) (hb:Bs X w π st.heap (.at (.own l off len)) vb) (hy:Cells w (Dd X.w0.heap.size X.Sc π tR) (.slice e) [vy] ys) (qv:len+ys.length<=Cr)
  (hy2:tr2=true->e.flat=true\/ ∃F,Ci w F (.slice e) [vy] ys/\j0 X w π F):
  ∃v' w' π',(Builtin.append_ #[t,t] ty #[vb,vy]).run P w= .ok v' w'/\Bk X π' (st.new l (.arr (fr&&fr3) (tr&&tr2) e te (((xs.drop off).take len)++ys))) a w'/\
   Bs X w' π' (st.new l (.arr (fr&&fr3) (tr&&tr2) e te (((xs.drop off).take len)++ys))).heap (.at (.own l 0 (len+ys.length))) v':=by
 have hu:=hT.elem t te mb
 obtain ⟨i,hi,Wn,sX,vC⟩:=(hT.ty te e Yy).info
 obtain ⟨hlen,xC⟩:=Oy (X:=X) (w:=w) hb hl
 have hA:=(h.1.heap l).Qs hl
 simp only [Cm] at hA
 have Ox:((xs.drop off).take len).length=len:=by simp;omega
 have vu:(len+ys.length)*i.bytes<=140737488355328:=by
  have:(len+ys.length)*i.bytes<=4294967296*256:=eD qv sX
  omega
 have jF:len+ys.length<=maxLen:=by unfold Cr at qv;simp only [maxLen];omega
 obtain ⟨ad,c,rfl,PY⟩:=wO hy
 have hzs:(Cf e (By e)).cells.size=i.size:=by
  rw [Wn]
  have hz: ∀τ:Ty,(By τ).length=τ.size:=by
   intro τ
   induction τ with
   |pair a r iX iR=>simp [By,Ty.size,iX,iR]
   |_=>rfl
  cases Uk:e.Aq with
  |true=>simp [Cf,Uk,Value.cells,hz]
  |false=>cases e<;>simp_all [Ty.Aq,Cf,By,Value.cells,Ty.size]
 have xE: ∀r,π l=some r-> ∀Fs:List (List Nat),(r.g::List.flatten Fs).Nodup->(∀b∈List.flatten Fs,r.cl b)->
   ∀b∈List.flatten Fs,(X.w0.heap.size<=b\/X.gv b)/\b<w.heap.size/\b≠r.g/\ ∀m r0,m≠l->π m=some r0-> ¬r0.cl b:= λr hr Fs hn hc b hb=>
  ⟨(h.1.place l r b hr (hc b hb)).1,(h.1.place l r b hr (hc b hb)).2,λe=>(Cd.1 hn).1 (e▸hb),λm r0 hm h1 h2=>hm (h.1.inj m l r0 r b h1 hr h2 (hc b hb))⟩
 by_cases hm0:ys= []
 ·
  subst hm0
  simp only [List.append_nil,Ex,Fk]
  cases hp:π l with
  |none=>
   rw [hp] at xC hA
   obtain ⟨rfl,rfl,rfl⟩:=xC
   have hr:=iD (P:=P) (w:=w) (ty:=ty) hu hi none 0 0 ad c (Ao _)
   refine ⟨_,w,Xt π l none,hr,h.replace l vG none _ (Qg w _) (λr hr=>by cases hr) (λ_=>?_),?_⟩
   ·simp only [Cm,Ke];simp
   ·exact KB (St.Hc st l _) (by simp) (by rw [Gr];exact ⟨rfl,rfl,rfl⟩)
  |some r=>
   rw [hp] at xC hA
   obtain ⟨adb,rfl,pW,iO⟩:=xC
   have hr:=iD (P:=P) (w:=w) (ty:=ty) hu hi (some adb) len (r.cap-off) ad c (by omega)
   obtain ⟨cur,cl,ti,k1,k2,k3,k4,k5⟩:=jt hA hlen
   have vz:r.cap<=maxLen:=by obtain ⟨_,_,_,_,_,h4,_⟩:=hA;exact h4
   have hN: ∃N:List Nat,(∀b∈N,(X.w0.heap.size<=b\/X.gv b)/\b<w.heap.size/\b≠r.g/\ ∀m r0,m≠l->π m=some r0-> ¬r0.cl b)/\((tr&&tr2)=true->(r.g::N).Nodup/\ ∃Fs,List.flatten Fs=N/\Tq w e cl ((xs.drop off).take len) Fs):=by
    cases oH:(tr&&tr2) with
    |false=>exact ⟨[],by simp,λh=>by cases h⟩
    |true=>
     simp only [Af] at oH
     obtain ⟨Fs,t1,t2,t3⟩:=k5 oH.1
     exact ⟨_,xE r hp Fs t2 t3,λ_=>⟨t2,Fs,rfl,t1⟩⟩
   obtain ⟨N,n1,n2⟩:=hN
   refine ⟨_,w,Xt π l (some (Real.with r.g (r.o+off) (r.cap-off) N)),hr,h.kf l vG _ _ (Qg w _) (λr' b h1 h2=>?_) (λr' b h1 h2=>?_) (λm=>?_),?_⟩
   ·cases h1
    have h2:b=r.g:=h2
    exact ⟨.inl h2, .inl ⟨r,hp,h2▸h.1.Cx hp⟩⟩
   ·cases h1
    rcases h2 with h2|h2
    ·have h2:b=r.g:=h2
     subst h2
     have m5:=h.1.sub l r _ hp (h.1.Cx hp)
     exact ⟨(h.1.place l r _ hp m5).1,(h.1.place l r _ hp m5).2,λm r0 hm h3 h4=>hm (h.1.inj m l r0 r _ h3 hp h4 m5)⟩
    ·obtain ⟨h3,h4,_,h5⟩:=n1 b h2
     exact ⟨h3,h4,h5⟩
   ·exact a5 (tid:=te) (λhf=>hA.1.2.2 (by simp only [Af] at hf;exact hf.1)) k1 (by rw [k2];congr 1;omega) (by omega) (by rw [Ox];omega) (λk u hu=>(k4 k u hu).2) (k3.cells λes z hc=>(m.cells _ _ _ _ hc).and_left) n2
   ·refine KB (St.Hc st l _) (by rw [Ox];omega) ?_
    rw [Gr]
    exact ⟨adb,rfl,by dsimp only [Real.with];omega,λIz=>by simpa [Real.with] using iO (by dsimp only [Real.with] at Iz;omega)⟩
 ·rcases PY with h0|⟨g,o,rfl,news,n1,n2,n3,n5,n4⟩
  ·exact absurd h0 hm0
  ·have XW:0<ys.length:=by
    rcases bh ys.length with h0|h0
    ·exact absurd (Cn h0) hm0
    ·exact h0
   have n1':news.length=ys.length*i.size:=by rw [Wn];exact n1
   have n2': ∀j u,news[j]?=some u->w.cell? ((⟨g,o,none⟩:Addr).add j)=some u:= λj u hu=>by rw [Addr.add_lit];exact n2 j u hu
   have hfn:Flat w (Dd X.w0.heap.size X.Sc π fr3) e news ys:=⟨n1,λi y hy=>by
    obtain ⟨es,k1,k2,k3⟩:=n4 i y hy
    refine ⟨es,k1,k2,?_⟩
    cases hef:e.flat with
    |true=>exact Cells.flat e es y hef k3
    |false=>rw [hef,iT] at h3f;rw [h3f];exact k3⟩
   have VN: ∀zs:List e.den,(((xs.drop off).take len)++ys).length=len+ys.length:= λ_=>by simp [Ox]
   have new:tr2=true-> ∃Fs,Tq w e news ys Fs/\j0 X w π (List.flatten Fs):=by
    intro ht2
    rcases hy2 ht2 with hfl|⟨F,f1,f2⟩
    ·refine ⟨List.replicate ys.length [],⟨by simp,λi z Fi hz hF=>?_⟩,by simp,by simp⟩
     obtain ⟨es,q1,q2,q3⟩:=hfn.2 i z hz
     have:Fi= []:=Fy (Bv hF)
     subst this
     exact ⟨es,q1,q2,Yv e es z hfl q3⟩
    simp only [Ci] at f1
    obtain ⟨a0,Bcx,Ba3,e0,e3,e4,f1⟩:=f1
    rcases f1 with ⟨f1,_⟩|⟨ad',g',o',Fs,ea,ea',Tr,rfl,hFl,f1⟩
    ·exact absurd f1 hm0
    ·have ea':=ea' (by omega)
     subst ea'
     simp only [Gj,Value.slice.injEq,Ow] at e0
     obtain ⟨e0,_⟩:=e0
     rw [ea] at e0
     simp only [Aa,Addr.mk.injEq,Ow] at e0
     obtain ⟨rfl,rfl⟩:=e0
     refine ⟨Fs,⟨hFl,λi z Fi hz hF=>?_⟩,(Cd.1 f2.1).2,λb hb=>f2.2 b (Ar _ hb)⟩
     obtain ⟨es,q1,q2,q3⟩:=f1 i z Fi hz hF
     refine ⟨es,q1,λj u hu=>?_,q3⟩
     have hi:=(An.1 hz).1
     have hj:=(An.1 hu).1
     refine n5 _ u ?_ (by have:=q2 j u hu;rw [Gv] at this;exact this)
     have:(i+1)*e.size<=ys.length*e.size:=Ey _ (by omega)
     rw [Df,Sz] at this
     omega
   cases hp:π l with
   |none=>
    rw [hp] at xC hA
    obtain ⟨rfl,rfl,rfl⟩:=xC
    have hr:=run_append_nil (P:=P) w t ty te i _ hu hi vC ⟨g,o,none⟩ ys.length c news n1' n2' XW (by simp only [maxLen] at jF;omega) (by have:=vu;rw [Bo] at this;omega)
    have pX:=grownCap_ge w ys.length 0 te
    have hcm:=grownCap_le_maxLen w ys.length 0 te (by omega)
    have hN: ∃N:List Nat,(∀b∈N,(X.w0.heap.size<=b\/X.gv b)/\b<w.heap.size/\ ∀m r0,m≠l->π m=some r0-> ¬r0.cl b)/\((tr&&tr2)=true->N.Nodup/\ ∃Fs,List.flatten Fs=N/\Tq w e news ((List.take 0 (List.drop 0 xs))++ys) Fs):=by
     cases oH:(tr&&tr2) with
     |false=>exact ⟨[],by simp,λh=>by cases h⟩
     |true=>
      simp only [Af] at oH
      obtain ⟨Fs,t1,t2⟩:=new oH.2
      exact ⟨_,λb hb=>⟨(t2.2 b hb).1,(t2.2 b hb).2.1,λm r0 _=>(t2.2 b hb).2.2 m r0⟩,λ_=>⟨t2.1,Fs,rfl,by simpa using t1⟩⟩
    obtain ⟨N,q1,q2⟩:=hN
    have:=gw h l vG (fr&&fr3) (tr&&tr2) e te ((List.take 0 (List.drop 0 xs))++ys) news (news.toArray++Builtin.zeroCells (Cf e (By e)).cells (grownCap w ys.length 0 te-ys.length)) (grownCap w ys.length 0 te) _ N (.inl rfl) (by
      rw [Array.size_append,Gw,Ve,hzs,n1,Wn,<-Df];congr 1;omega) hcm (by simpa using pX) (λk u hu=>by
      rw [Uh (by simpa using (An.1 hu).1)];simpa using hu) (by simpa using hfn.cells λes z hc=>hc.and_right) q1 q2
    refine ⟨_,_,_,hr,this.1,?_⟩
    have:=this.2 ys.length (by simp)
    simpa using this
   |some r=>
    rw [hp] at xC hA
    obtain ⟨adb,rfl,pW,iO⟩:=xC
    obtain ⟨cur,cl,ti,k1,k2,k3,k4,k5⟩:=jt hA hlen
    have vz:r.cap<=maxLen:=by obtain ⟨_,_,_,_,_,h4,_⟩:=hA;exact h4
    have k3l:cl.length=len*e.size:=by rw [k3.1,Ox]
    have hN: ∃N:List Nat,(∀b∈N,(X.w0.heap.size<=b\/X.gv b)/\b<w.heap.size/\b≠r.g/\ ∀m r0,m≠l->π m=some r0-> ¬r0.cl b)/\((tr&&tr2)=true->N.Nodup/\ ∃Fs,List.flatten Fs=N/\Tq w e (cl++news) (((xs.drop off).take len)++ys) Fs):=by
     cases oH:(tr&&tr2) with
     |false=>exact ⟨[],by simp,λh=>by cases h⟩
     |true=>
      simp only [Af] at oH
      obtain ⟨Fs,t1,t2,t3⟩:=k5 oH.1
      obtain ⟨Fs2,t4,t5⟩:=new oH.2
      have ho:=xE r hp Fs t2 t3
      refine ⟨List.flatten (Fs++Fs2),λb hb=>?_,λ_=>⟨?_,Fs++Fs2,rfl,Tq.append (by rw [k3l,Ox]) t1 t4⟩⟩
      ·rw [List.flatten_append] at hb
       rcases Az.1 hb with hb|hb
       ·exact ho b hb
       ·have:=t5.2 b hb
        exact ⟨this.1,this.2.1,λe=>this.2.2 l r hp (e▸h.1.sub l r _ hp (h.1.Cx hp)),λm r0 _=>this.2.2 m r0⟩
      ·rw [List.flatten_append]
       refine Cv.2 ⟨(Cd.1 t2).2,t5.1,λb hb b' jB e=>?_⟩
       subst e
       exact (t5.2 b jB).2.2 l r hp (t3 b hb)
    obtain ⟨N,q1,q2⟩:=hN
    by_cases rY:len+ys.length<=r.cap-off
    ·
     have Av8:=iO (by omega)
     subst Av8
     have Yw:(r.o+off)*e.size+len*i.size+news.length<=cur.size:=by
      rw [Wn,n1,<-Df,<-Df,k2]
      exact Ey _ (by omega)
     have az:(r.o+off)*e.size+len*i.size+news.length<=cur.toList.length:=by simpa using Yw
     have hr:=bq (P:=P) (w:=w) (ty:=ty) hu hi r.g ((r.o+off)*e.size) len (r.cap-off) cur ti k1 ⟨g,o,none⟩ ys.length c news n1' n2' n3 rY Yw
     refine ⟨_,_,Xt π l (some (Real.with r.g (r.o+off) (r.cap-off) N)),hr,h.kf l vG _ _ (by rw [hp];exact Nw w r.g _) (λr' b h1 h2=>?_) (λr' b h1 h2=>?_) (λm=>?_),?_⟩
     ·cases h1
      have h2:b=r.g:=h2
      exact ⟨.inl h2, .inl ⟨r,hp,h2▸h.1.Cx hp⟩⟩
     ·cases h1
      rcases h2 with h2|h2
      ·have h2:b=r.g:=h2
       subst h2
       have m5:=h.1.sub l r _ hp (h.1.Cx hp)
       exact ⟨(h.1.place l r _ hp m5).1,by simpa using (h.1.place l r _ hp m5).2,λm r0 hm h3 h4=>hm (h.1.inj m l r0 r _ h3 hp h4 m5)⟩
      ·obtain ⟨h3,h4,_,h5⟩:=q1 b h2
       exact ⟨h3,by simpa using h4,h5⟩
     ·refine a5 (tid:=te) (cl:=cl++news) (λhf=>hA.1.2.2 (by simp only [Af] at hf;exact hf.1)) (setRow_heap w r.g cur _ ti _ k1) ?_ (by omega) (by rw [VN xs];omega) (λk u hu=>?_)
       (((k3.cells λes z hc=>(m.cells _ _ _ _ hc).and_left)).append (hfn.cells λes z hc=>(m.cells _ _ _ _ hc).and_right)) (λoH=>?_)
      ·rw [Gw,Jb _ _ _ az,Nt,k2];congr 1;omega
      ·rw [Im,Ik _ _ _ _ az]
       by_cases hk:k<cl.length
       ·rw [At hk] at hu
        rw [Ab (by rw [Wn];omega)]
        simpa using (k4 k u hu).2
       ·rw [As (by omega)] at hu
        have:=(An.1 hu).1
        rw [Ag (by rw [Wn];omega),Ab (by rw [Wn];omega)]
        rw [show (r.o+off)*e.size+k-((r.o+off)*e.size+len*i.size)=k-cl.length by rw [Wn,k3l];omega]
        exact hu
      ·obtain ⟨z1,Fs,rfl,z2⟩:=q2 oH
       exact ⟨Cd.2 ⟨λhm=>(q1 _ hm).2.2.1 rfl,z1⟩,Fs,rfl,z2.Fg (by simp) λb hb=>setRow_other w r.g b _ (q1 b hb).2.2.1⟩
     ·refine KB (St.Hc st l _) (by rw [VN xs];omega) ?_
      rw [Gr]
      exact ⟨_,rfl,by dsimp only [Real.with];omega,λ_=>by simp [Real.with]⟩
    ·
     have hold: ∀j u,cl[j]?=some u->w.cell? (adb.add j)=some u:=by
      intro j u hu
      obtain ⟨q1,q2⟩:=k4 j u hu
      have vG:0<len:=by
       rcases bh len with h0|h0
       ·rw [h0] at q1;simp at q1
       ·exact h0
      rw [iO (by omega),Addr.add_lit,cellOf k1];exact q2
     have hr:=run_append_grow (P:=P) w t ty te i _ hu hi vC adb len (r.cap-off) cl (by rw [Wn];exact k3l) hold ⟨g,o,none⟩ ys.length c news n1' n2' (by omega) (by simp only [maxLen] at jF;omega) (growslice_fits (by omega) vu)
     have pX:=grownCap_ge w (len+ys.length) (r.cap-off) te
     have hcm:=grownCap_le_maxLen w (len+ys.length) (r.cap-off) te jF
     have:=gw h l vG (fr&&fr3) (tr&&tr2) e te (((xs.drop off).take len)++ys) (cl++news) (cl.toArray++news.toArray++Builtin.zeroCells (Cf e (By e)).cells (grownCap w (len+ys.length) (r.cap-off) te-(len+ys.length))) (grownCap w (len+ys.length) (r.cap-off) te) _ N (.inl rfl) (by
       rw [Array.size_append,Array.size_append,Gw,Gw,Ve,hzs,k3l,n1,Wn,<-Df,<-Df];congr 1;omega) hcm (by rw [VN xs];exact pX) (λk u hu=>by
       have hk:=(An.1 hu).1
       rw [Uh (by simpa using hk)]
       simpa using hu) ((k3.cells λes z hc=>hc.and_left).append (hfn.cells λes z hc=>hc.and_right)) (λb hb=>⟨(q1 b hb).1,(q1 b hb).2.1,(q1 b hb).2.2.2⟩) q2
     exact ⟨_,_,_,hr,this.1,this.2 _ (VN xs).symm⟩
theorem wz {st:St} {a:Act} (h:Bk X π st a w) {l off len:Nat} {fr tr:Bool} {e:Ty} {tid:TypeId} {xs:List e.den} (vG:l<Bn) (hl:Au st.heap l=some (.arr fr tr e tid xs)) {v:Value} (hb:Hk X w π st.heap (.own l off len) v):
  ∃π',Bk X π' (st.new l (.arr fr tr e tid ((xs.drop off).take len))) a w/\Hk X w π' (st.new l (.arr fr tr e tid ((xs.drop off).take len))).heap (.own l 0 ((xs.drop off).take len).length) v/\ ∀k,k≠l->π' k=π k:=by
 obtain ⟨hlen,xC⟩:=Oy (X:=X) (w:=w) hb hl
 have hA:=(h.1.heap l).Qs hl
 simp only [Cm] at hA
 have Ox:((xs.drop off).take len).length=len:=by simp;omega
 have xE: ∀r,π l=some r-> ∀Fs:List (List Nat),(r.g::List.flatten Fs).Nodup->(∀b∈List.flatten Fs,r.cl b)->
   ∀b∈List.flatten Fs,(X.w0.heap.size<=b\/X.gv b)/\b<w.heap.size/\b≠r.g/\ ∀m r0,m≠l->π m=some r0-> ¬r0.cl b:= λr hr Fs hn hc b hb=>
  ⟨(h.1.place l r b hr (hc b hb)).1,(h.1.place l r b hr (hc b hb)).2,λe=>(Cd.1 hn).1 (e▸hb),λm r0 hm h1 h2=>hm (h.1.inj m l r0 r b h1 hr h2 (hc b hb))⟩
 cases hp:π l with
 |none=>
  rw [hp] at xC hA
  obtain ⟨rfl,rfl,rfl⟩:=xC
  refine ⟨Xt π l none,h.replace l vG none _ (Qg w _) (λr hr=>by cases hr) (λ_=>?_),?_⟩
  ·simp only [Cm,Ke];simp
  ·exact ⟨⟨_,e.size,_,St.Hc st l _,rfl,by simp,by rw [Gr];exact ⟨rfl,rfl,by simp⟩⟩,λk hk=>Gp _ _ hk⟩
 |some r=>
  rw [hp] at xC hA
  obtain ⟨adb,rfl,pW,iO⟩:=xC
  obtain ⟨cur,cl,ti,k1,k2,k3,k4,k5⟩:=jt hA hlen
  have vz:r.cap<=maxLen:=by obtain ⟨_,_,_,_,_,h4,_⟩:=hA;exact h4
  have hN: ∃N:List Nat,(∀b∈N,(X.w0.heap.size<=b\/X.gv b)/\b<w.heap.size/\b≠r.g/\ ∀m r0,m≠l->π m=some r0-> ¬r0.cl b)/\(tr=true->(r.g::N).Nodup/\ ∃Fs,List.flatten Fs=N/\Tq w e cl ((xs.drop off).take len) Fs):=by
   cases oH:tr with
   |false=>exact ⟨[],by simp,λh=>by cases h⟩
   |true=>
    obtain ⟨Fs,t1,t2,t3⟩:=k5 oH
    exact ⟨_,xE r hp Fs t2 t3,λ_=>⟨t2,Fs,rfl,t1⟩⟩
  obtain ⟨N,n1,n2⟩:=hN
  refine ⟨Xt π l (some (Real.with r.g (r.o+off) (r.cap-off) N)),h.kf l vG _ _ (Qg w _) (λr' b h1 h2=>?_) (λr' b h1 h2=>?_) (λm=>?_),?_⟩
  ·cases h1
   have h2:b=r.g:=h2
   exact ⟨.inl h2, .inl ⟨r,hp,h2▸h.1.Cx hp⟩⟩
  ·cases h1
   rcases h2 with h2|h2
   ·have h2:b=r.g:=h2
    subst h2
    have m5:=h.1.sub l r _ hp (h.1.Cx hp)
    exact ⟨(h.1.place l r _ hp m5).1,(h.1.place l r _ hp m5).2,λm r0 hm h3 h4=>hm (h.1.inj m l r0 r _ h3 hp h4 m5)⟩
   ·obtain ⟨h3,h4,_,h5⟩:=n1 b h2
    exact ⟨h3,h4,h5⟩
  ·exact a5 (tid:=tid) (λhf=>hA.1.2.2 hf) k1 (by rw [k2];congr 1;omega) (by omega) (by rw [Ox];omega) (λk u hu=>(k4 k u hu).2) (k3.cells λes z hc=>m.cells _ _ _ _ hc) n2
  ·refine ⟨⟨_,e.size,_,St.Hc st l _,rfl,by simp,?_⟩,λk hk=>Gp _ _ hk⟩
   rw [Gr,Ox]
   exact ⟨adb,rfl,by dsimp only [Real.with];omega,λIz=>by simpa [Real.with] using iO (by dsimp only [Real.with] at Iz;omega)⟩
end
end Go.Proofs.YtfgfigkbgecfnaaGreat
