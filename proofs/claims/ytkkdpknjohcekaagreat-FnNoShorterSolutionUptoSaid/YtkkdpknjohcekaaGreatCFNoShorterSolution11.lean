/-
  Part 12 of the proof that the statement FnNoShorterSolution holds.
-/
import Derived.Test.YtkkdpknjohcekaaGreatCFNoShorterSolution10
namespace Go.Proofs.YtkkdpknjohcekaaGreat
open Go.RowKit
section
variable {P:Program} {T:Tab} {X:Ctx} {w w':World} {π:Pi} {H:List (Nat×OB)}
def Flat (w:World) (S:Nat->Prop) (e:Ty) (cl:List Value) (zs:List e.den):Prop:=
 cl.length=zs.length*e.size/\ ∀(i:Nat) (z:e.den),zs[i]?=some z-> ∃es:List Value,es.length=e.size/\(∀j u,es[j]?=some u->cl[i*e.size+j]?=some u)/\Cells w S e es z
theorem Flat.append {S:Nat->Prop} {e:Ty} {c1 c2:List Value} {z1 z2:List e.den} (h1:Flat w S e c1 z1) (h2:Flat w S e c2 z2):Flat w S e (c1++c2) (z1++z2):=by
 refine ⟨by simp [h1.1,h2.1,De],λi z hz=>?_⟩
 by_cases hi:i<z1.length
 ·rw [At hi] at hz
  obtain ⟨es,he,hc,hr⟩:=h1.2 i z hz
  refine ⟨es,he,λj u hu=>?_,hr⟩
  have:=hc j u hu
  rw [At (Am.1 this).1];exact this
 ·rw [Ar (by omega)] at hz
  obtain ⟨es,he,hc,hr⟩:=h2.2 _ z hz
  refine ⟨es,he,λj u hu=>?_,hr⟩
  have:=hc j u hu
  have e1:i*e.size=z1.length*e.size+(i-z1.length)*e.size:=by rw [<-De];congr 1;omega
  rw [Ar (by rw [h1.1];omega),h1.1,show i*e.size+j-z1.length*e.size=(i-z1.length)*e.size+j by omega]
  exact this
theorem Flat.cells {S S':Nat->Prop} {e:Ty} {cl:List Value} {zs:List e.den} (h:Flat w S e cl zs) (hc: ∀es z,Cells w S e es z->Cells w' S' e es z):Flat w' S' e cl zs:=
 ⟨h.1,λi z hz=>let ⟨es,a,b,c⟩:=h.2 i z hz;⟨es,a,b,hc es z c⟩⟩
theorem Flat.nil {S:Nat->Prop} {e:Ty} :Flat w S e [] []:=⟨by simp,λi z hz=>by simp at hz⟩
def Tg (w:World) (e:Ty) (cl:List Value) (zs:List e.den) (Fs:List (List Nat)):Prop:=
 Fs.length=zs.length/\ ∀(i:Nat) (z:e.den) (F:List Nat),zs[i]?=some z->Fs[i]?=some F-> ∃es:List Value,es.length=e.size/\(∀j u,es[j]?=some u->cl[i*e.size+j]?=some u)/\Db w F e es z
theorem Tg.append {e:Ty} {c1 c2:List Value} {z1 z2:List e.den} {F1 F2:List (List Nat)} (hc:c1.length=z1.length*e.size) (h1:Tg w e c1 z1 F1) (h2:Tg w e c2 z2 F2):Tg w e (c1++c2) (z1++z2) (F1++F2):=by
 have hl:=h1.1
 refine ⟨by simp [h1.1,h2.1],λi z F hz hF=>?_⟩
 by_cases hi:i<z1.length
 ·rw [At hi] at hz
  rw [At (by omega)] at hF
  obtain ⟨es,he,xq,hr⟩:=h1.2 i z F hz hF
  refine ⟨es,he,λj u hu=>?_,hr⟩
  have:=xq j u hu
  rw [At (Am.1 this).1];exact this
 ·rw [Ar (by omega)] at hz
  rw [Ar (by omega),hl] at hF
  obtain ⟨es,he,xq,hr⟩:=h2.2 _ z F hz hF
  refine ⟨es,he,λj u hu=>?_,hr⟩
  have:=xq j u hu
  have hle:z1.length*e.size<=i*e.size:=Fz _ (by omega)
  rw [Ar (by omega),<-this]
  congr 1
  rw [hc,Nat.sub_mul];omega
theorem Tg.Fp {e:Ty} {cl:List Value} {zs:List e.den} {Fs:List (List Nat)} (h:Tg w e cl zs Fs) (hs:w.heap.size<=w'.heap.size) (hk: ∀b∈List.flatten Fs,w'.heap[b]?=w.heap[b]?):Tg w' e cl zs Fs:=
 ⟨h.1,λi z F hz hF=>by
  obtain ⟨es,he,xq,hr⟩:=h.2 i z F hz hF
  exact ⟨es,he,xq,hr.Fp _ _ _ _ hs λb hb=>hk b (Ia.2 ⟨F,Cb hF,hb⟩)⟩⟩
theorem Tg.lt {e:Ty} {cl:List Value} {zs:List e.den} {Fs:List (List Nat)} (h:Tg w e cl zs Fs) (b:Nat) (hb:b∈List.flatten Fs):b<w.heap.size:=by
 obtain ⟨F,hF,hb⟩:=Ia.1 hb
 obtain ⟨i,hi,rfl⟩:=Oa hF
 have hl:=h.1
 obtain ⟨es,_,_,hr⟩:=h.2 i (zs[i]'(by omega)) _ (Ac _) (Ac hi)
 exact hr.lt _ _ _ _ b hb
def Real.with (g o cap:Nat) (N:List Nat):Real:=⟨g,o,cap,λb=>b=g,λb=>b=g\/b∈N⟩
theorem Zk {g o cap:Nat} {N:List Nat} {fr tr:Bool} {e:Ty} {tid:TypeId} {zs:List e.den} {cl:List Value} {cur:Array Value} {ti:TypeId} (hB:fr=true->X.w0.heap.size<=g) (hg:w.heap[g]?=some (.cells cur ti (0,0)))
  (hs:cur.size=(o+cap)*e.size) (hm:cap<=maxLen) (hl:zs.length<=cap) (Qj: ∀k u,cl[k]?=some u->cur[o*e.size+k]?=some u) (hf:Flat w (Cy X.w0.heap.size X.Sc π fr) e cl zs)
  (ht:tr=true->(g::N).Nodup/\ ∃Fs,List.flatten Fs=N/\Tg w e cl zs Fs):
  Kr X w π (some (Real.with g o cap N)) fr tr e tid zs:=by
 refine ⟨⟨rfl,λb hb=>hb,hB⟩,cur,_,hg,hs,hm,hl,λi z hz=>?_,λnP=>?_⟩
 ·obtain ⟨es,a,b,c⟩:=hf.2 i z hz
  refine ⟨es,a,λj u hu=>?_,c⟩
  have:=Qj _ u (b j u hu)
  rw [<-Gy,<-De] at this
  exact this
 ·obtain ⟨hn,Fs,rfl,h1,h2⟩:=ht nP
  refine ⟨Fs,h1,hn,λb hb=> .inr hb,λi z F hz hF=>?_⟩
  obtain ⟨es,a,b,c⟩:=h2 i z F hz hF
  refine ⟨es,a,λj u hu=>?_,c⟩
  have:=Qj _ u (b j u hu)
  rw [<-Gy,<-De] at this
  exact this
theorem j9 {r:Real} {fr tr:Bool} {e:Ty} {tid:TypeId} {xs:List e.den} {off len:Nat} (h:Kr X w π (some r) fr tr e tid xs) (hl:off+len<=xs.length):
  ∃cur cl ti,w.heap[r.g]?=some (.cells cur ti (0,0))/\cur.size=(r.o+r.cap)*e.size/\Flat w (Cy X.w0.heap.size X.Sc π fr) e cl ((xs.drop off).take len)/\
   (∀k u,cl[k]?=some u->k<len*e.size/\cur[(r.o+off)*e.size+k]?=some u)/\
   (tr=true-> ∃Fs,Tg w e cl ((xs.drop off).take len) Fs/\(r.g::List.flatten Fs).Nodup/\ ∀b∈List.flatten Fs,r.cl b):=by
 obtain ⟨h1,cur,ti,h2,h3,h4,h5,h6,h7⟩:=h
 have YM:((xs.drop off).take len).length=len:=by simp;omega
 have iu:(r.o+off)*e.size+len*e.size<=cur.size:=by
  rw [<-De,h3];exact Fz _ (by omega)
 have Ahl: ∀k u,((cur.toList.drop ((r.o+off)*e.size)).take (len*e.size))[k]?=some u↔k<len*e.size/\cur[(r.o+off)*e.size+k]?=some u:=by
  intro k u
  rw [Ct]
  split
  ·rename_i hk;rw [Da];simp [hk]
  ·rename_i hk;simp [hk]
 refine ⟨cur,(cur.toList.drop ((r.o+off)*e.size)).take (len*e.size),ti,h2,h3,⟨by rw [YM];simp;omega,λi z hz=>?_⟩,λk u hu=>(Ahl k u).1 hu,λht=>?_⟩
 rotate_left
 ·obtain ⟨Fs,t1,t2,t3,t4⟩:=h7 ht
  refine ⟨(Fs.drop off).take len,⟨by simp [t1],λi x F hx hF=>?_⟩,?_,λb hb=>t3 b (Ta off len b hb)⟩
  ·have hi:i<len:=by
    have:=(Am.1 hx).1
    rw [YM] at this;exact this
   have hx':xs[off+i]?=some x:=by rw [Ct,Ab hi,Da] at hx;exact hx
   have hF':Fs[off+i]?=some F:=by rw [Ct,Ab hi,Da] at hF;exact hF
   obtain ⟨es,a,b,c⟩:=t4 (off+i) x F hx' hF'
   refine ⟨es,a,λj u hu=>(Ahl _ u).2 ⟨?_,?_⟩,c⟩
   ·have hj:=(Am.1 hu).1
    have:(i+1)*e.size<=len*e.size:=Fz _ (by omega)
    rw [De,Vz] at this
    omega
   ·have:=b j u hu
    rw [<-Gy,De (r.o+off) i] at this
    rw [<-Gy];exact this
  ·have:=Cd.1 t2
   exact Cd.2 ⟨λhm=>this.1 (Ta off len _ hm),mF off len this.2⟩
 have hi:i<len:=by have:=(Am.1 hz).1;omega
 have hz':xs[off+i]?=some z:=by
  rw [Ct,Ab hi,Da] at hz;exact hz
 obtain ⟨es,a,b,c⟩:=h6 (off+i) z hz'
 refine ⟨es,a,λj u hu=>(Ahl _ u).2 ⟨?_,?_⟩,c⟩
 ·have hj:=(Am.1 hu).1
  have:(i+1)*e.size<=len*e.size:=Fz _ (by omega)
  rw [De,Vz] at this
  omega
 ·have:=b j u hu
  rw [<-Gy,De (r.o+off) i] at this
  rw [<-Gy];exact this
theorem hY {t ty e:TypeId} {i:TypeInfo} (hu:P.underlying t=some (.slice e)) (hi:P.info? e=some i) (b:Option Addr) (len cap:Nat) (y:Option Addr) (c:Nat) (hl:len<=cap):
  (Builtin.append_ #[t,t] ty #[.slice b len cap, .slice y 0 c]).run P w= .ok (.slice b len cap) w:=by
 cases b<;>cases y<;>simp [Builtin.append_,run_underlying hu,sizeOf,typeInfo,hi,Builtin.lenOf,hl,Builtin.firstCells,loadCells,loadCellsFrom,storeCells]
theorem aN {t ty e:TypeId} {i:TypeInfo} (hu:P.underlying t=some (.slice e)) (hi:P.info? e=some i) (g ob UO Aje:Nat) (cur:Array Value) (tid:TypeId) (hg:w.heap[g]?=some (.cells cur tid (0,0)))
  (a:Addr) (m c:Nat) (news:List Value) (hl:news.length=m*i.size) (Ama: ∀j u,news[j]?=some u->w.cell? (a.add j)=some u) (h1: ∀u∈news,u.oneCell'=true)
  (EL:UO+m<=Aje) (Yi:ob+UO*i.size+news.length<=cur.size):
  (Builtin.append_ #[t,t] ty #[.slice (some ⟨g,ob,none⟩) UO Aje, .slice (some a) m c]).run P w=
   .ok (.slice (some ⟨g,ob,none⟩) (UO+m) Aje) (w.setRow g (Dv cur.toList (ob+UO*i.size) news).toArray):=by
 have hf:=run_firstCells_some (P:=P) w i.size m a m c news hl Ama
 have Pn:=run_storeCells_at P g (ob+UO*i.size) tid news 0 cur w hg (by simpa using Yi) h1
 simp only [En] at Pn
 simp [Builtin.append_,run_underlying hu,sizeOf,typeInfo,hi,Builtin.lenOf,EL,hf,Addr.add_lit,Pn,Dv]
theorem Ut (z:Array Value) (n:Nat):(Builtin.zeroCells z n).size=n*z.size:=by simp [Builtin.zeroCells]
theorem FO {l off len:Nat} {v:Value} {fr tr:Bool} {e:Ty} {tid:TypeId} {xs:List e.den} (hl:Aw H l=some (.arr fr tr e tid xs)) (h1:off+len<=xs.length) (h2:Im (π l) e.size off len v):Bm X w π H (.at (.own l off len)) v:=
 LL (X:=X) (w:=w) hl h1 h2
theorem fV {st:St} {a:Act} (h:Bh X π st a w) (l:Nat) (rk:l<Bl) (fr tr:Bool) (e:Ty) (te:TypeId) (zs:List e.den) (cl:List Value) (cur:Array Value) (cap:Nat) (w1:World) (N:List Nat)
  (hw1:w1=w.drew.alloc (.cells cur te)\/w1=w.alloc (.cells cur te))
  (hs:cur.size=cap*e.size) (hm:cap<=maxLen) (hl:zs.length<=cap) (Qj: ∀(k:Nat) (u:Value),cl[k]?=some u->cur[k]?=some u) (hf:Flat w (Cy X.w0.heap.size X.Sc π fr) e cl zs)
  (hN: ∀b∈N,(X.w0.heap.size<=b\/X.gv b)/\b<w.heap.size/\ ∀m r0,m≠l->π m=some r0-> ¬r0.cl b) (ht:tr=true->N.Nodup/\ ∃Fs,List.flatten Fs=N/\Tg w e cl zs Fs):
  Bh X (Xe π l (some (Real.with w.heap.size 0 cap N))) (st.new l (.arr fr tr e te zs)) a w1/\
   ∀n,n=zs.length->Bm X w1 (Xe π l (some (Real.with w.heap.size 0 cap N))) (st.new l (.arr fr tr e te zs)).heap (.at (.own l 0 n)) (.slice (some ⟨w.heap.size,0,none⟩) n cap):=by
 have WL:w.grownBy w1 ((π l).map (·.g)):=by
  rcases hw1 with rfl|rfl
  ·exact ⟨rfl,rfl,rfl,by simp,λk hk _=>Below.heap_alloc w.drew _ k hk⟩
  ·exact World.grownBy_alloc w _ _
 have kS:w1.heap[w.heap.size]?=some (.cells cur te (0,0)):=by
  rcases hw1 with rfl|rfl
  ·exact heap_alloc_new w.drew _
  ·exact heap_alloc_new w _
 have hold: ∀k,k<w.heap.size->w1.heap[k]?=w.heap[k]?:=by
  rcases hw1 with rfl|rfl
  ·exact λk hk=>Below.heap_alloc w.drew _ k hk
  ·exact λk hk=>Below.heap_alloc w _ k hk
 refine ⟨h.jI l rk _ _ WL (λr b h1 h2=>?_) (λr b h1 h2=>?_) λm=>?_,λn hn=>FO (St.Hf st l _) (by omega) ?_⟩
 ·cases h1
  have h2:b=w.heap.size:=h2
  exact ⟨.inl h2, .inr (by omega)⟩
 ·cases h1
  rcases h2 with h2|h2
  ·have h2:b=w.heap.size:=h2
   subst h2
   exact ⟨.inl h.1.below.size,Gi kS,λm r0 _ h3 h4=>by have:=(h.1.place m r0 _ h3 h4).2;omega⟩
  ·obtain ⟨h3,h4,h5⟩:=hN b h2
   exact ⟨h3,Eh h4 WL.size,h5⟩
 ·refine Zk (tid:=te) (λ_=>h.1.below.size) kS (by simpa using hs) hm hl (by simpa using Qj) (hf.cells λes z hc=>m.cells _ _ _ _ hc) λnP=>?_
  obtain ⟨n1,Fs,rfl,n2⟩:=ht nP
  exact ⟨Cd.2 ⟨λhm=>by have:=(hN _ hm).2.1;omega,n1⟩,Fs,rfl,n2.Fp WL.size λb hb=>hold b (n2.lt b hb)⟩
 ·rw [Gt]
  exact ⟨_,rfl,by dsimp only [Real.with];omega,λ_=>by simp [Real.with]⟩
theorem nf (hT:Ed P T) {st:St} {a:Act} (h:Bh X π st a w) {t te ty:TypeId} {e:Ty} (lx:T.elem t=some te) (Yl:T.ty te=some e) {l off len:Nat} (rk:l<Bl) {fr tr rY fr3 tr2:Bool} {xs ys:List e.den} {vb vy:Value} (h3f:fr3=(rY||e.flat))
  (hl:Aw st.heap l=some (.arr fr tr e te xs)) (hb:Bm X w π st.heap (.at (.own l off len)) vb) (hy:Cells w (Cy X.w0.heap.size X.Sc π rY) (.slice e) [vy] ys) (pe:len+ys.length<=Dk)
  (hy2:tr2=true->e.flat=true\/ ∃F,Db w F (.slice e) [vy] ys/\iD X w π F):
  ∃v' w' π',(Builtin.append_ #[t,t] ty #[vb,vy]).run P w= .ok v' w'/\Bh X π' (st.new l (.arr (fr&&fr3) (tr&&tr2) e te (((xs.drop off).take len)++ys))) a w'/\
   Bm X w' π' (st.new l (.arr (fr&&fr3) (tr&&tr2) e te (((xs.drop off).take len)++ys))).heap (.at (.own l 0 (len+ys.length))) v':=by
 have hu:=hT.elem t te lx
 obtain ⟨i,hi,Vv,rj,tt⟩:=(hT.ty te e Yl).info
 obtain ⟨hlen,vA⟩:=Pa (X:=X) (w:=w) hb hl
 have hA:=(h.1.heap l).Rz hl
 simp only [Ch] at hA
 have Qj:((xs.drop off).take len).length=len:=by simp;omega
 have tn:(len+ys.length)*i.bytes<=140737488355328:=by
  have:(len+ys.length)*i.bytes<=4294967296*256:=Nat.mul_le_mul pe rj
  omega
 have jl:len+ys.length<=maxLen:=by unfold Dk at pe;simp only [maxLen];omega
 obtain ⟨ad,c,rfl,KJ⟩:=uH hy
 have hzs:(Bz e (Bp e)).cells.size=i.size:=by
  rw [Vv]
  have hz: ∀τ:Ty,(Bp τ).length=τ.size:=by
   intro τ
   induction τ with
   |pair a r iA iw=>simp [Bp,Ty.size,iA,iw]
   |_=>rfl
  cases Pn:e.Aq with
  |true=>simp [Bz,Pn,Value.cells,hz]
  |false=>cases e<;>simp_all [Ty.Aq,Bz,Bp,Value.cells,Ty.size]
 have vB: ∀r,π l=some r-> ∀Fs:List (List Nat),(r.g::List.flatten Fs).Nodup->(∀b∈List.flatten Fs,r.cl b)->
   ∀b∈List.flatten Fs,(X.w0.heap.size<=b\/X.gv b)/\b<w.heap.size/\b≠r.g/\ ∀m r0,m≠l->π m=some r0-> ¬r0.cl b:= λr hr Fs hn hc b hb=>
  ⟨(h.1.place l r b hr (hc b hb)).1,(h.1.place l r b hr (hc b hb)).2,λe=>(Cd.1 hn).1 (e▸hb),λm r0 hm h1 h2=>hm (h.1.inj m l r0 r b h1 hr h2 (hc b hb))⟩
 by_cases hm0:ys= []
 ·
  subst hm0
  simp only [List.append_nil,Ex,En]
  cases hp:π l with
  |none=>
   rw [hp] at vA hA
   obtain ⟨rfl,rfl,rfl⟩:=vA
   have hr:=hY (P:=P) (w:=w) (ty:=ty) hu hi none 0 0 ad c (Ap _)
   refine ⟨_,w,Xe π l none,hr,h.replace l rk none _ (Qi w _) (λr hr=>by cases hr) (λ_=>?_),?_⟩
   ·simp only [Ch,Kr];simp
   ·exact FO (St.Hf st l _) (by simp) (by rw [Gt];exact ⟨rfl,rfl,rfl⟩)
  |some r=>
   rw [hp] at vA hA
   obtain ⟨adb,rfl,qj,lj⟩:=vA
   have hr:=hY (P:=P) (w:=w) (ty:=ty) hu hi (some adb) len (r.cap-off) ad c (by omega)
   obtain ⟨cur,cl,ti,k1,k2,k3,k4,k5⟩:=j9 hA hlen
   have tp:r.cap<=maxLen:=by obtain ⟨_,_,_,_,_,h4,_⟩:=hA;exact h4
   have hN: ∃N:List Nat,(∀b∈N,(X.w0.heap.size<=b\/X.gv b)/\b<w.heap.size/\b≠r.g/\ ∀m r0,m≠l->π m=some r0-> ¬r0.cl b)/\((tr&&tr2)=true->(r.g::N).Nodup/\ ∃Fs,List.flatten Fs=N/\Tg w e cl ((xs.drop off).take len) Fs):=by
    cases nP:(tr&&tr2) with
    |false=>exact ⟨[],by simp,λh=>by cases h⟩
    |true=>
     simp only [Af] at nP
     obtain ⟨Fs,t1,t2,t3⟩:=k5 nP.1
     exact ⟨_,vB r hp Fs t2 t3,λ_=>⟨t2,Fs,rfl,t1⟩⟩
   obtain ⟨N,n1,n2⟩:=hN
   refine ⟨_,w,Xe π l (some (Real.with r.g (r.o+off) (r.cap-off) N)),hr,h.jI l rk _ _ (Qi w _) (λr' b h1 h2=>?_) (λr' b h1 h2=>?_) (λm=>?_),?_⟩
   ·cases h1
    have h2:b=r.g:=h2
    exact ⟨.inl h2, .inl ⟨r,hp,h2▸h.1.Cr hp⟩⟩
   ·cases h1
    rcases h2 with h2|h2
    ·have h2:b=r.g:=h2
     subst h2
     have kQ:=h.1.sub l r _ hp (h.1.Cr hp)
     exact ⟨(h.1.place l r _ hp kQ).1,(h.1.place l r _ hp kQ).2,λm r0 hm h3 h4=>hm (h.1.inj m l r0 r _ h3 hp h4 kQ)⟩
    ·obtain ⟨h3,h4,_,h5⟩:=n1 b h2
     exact ⟨h3,h4,h5⟩
   ·exact Zk (tid:=te) (λhf=>hA.1.2.2 (by simp only [Af] at hf;exact hf.1)) k1 (by rw [k2];congr 1;omega) (by omega) (by rw [Qj];omega) (λk u hu=>(k4 k u hu).2) (k3.cells λes z hc=>(m.cells _ _ _ _ hc).and_left) n2
   ·refine FO (St.Hf st l _) (by rw [Qj];omega) ?_
    rw [Gt]
    exact ⟨adb,rfl,by dsimp only [Real.with];omega,λLi=>by simpa [Real.with] using lj (by dsimp only [Real.with] at Li;omega)⟩
 ·rcases KJ with h0|⟨g,o,rfl,news,n1,n2,n3,n5,n4⟩
  ·exact absurd h0 hm0
  ·have KL:0<ys.length:=by
    rcases Tv ys.length with h0|h0
    ·exact absurd (Ci h0) hm0
    ·exact h0
   have n1':news.length=ys.length*i.size:=by rw [Vv];exact n1
   have n2': ∀j u,news[j]?=some u->w.cell? ((⟨g,o,none⟩:Addr).add j)=some u:= λj u hu=>by rw [Addr.add_lit];exact n2 j u hu
   have hfn:Flat w (Cy X.w0.heap.size X.Sc π fr3) e news ys:=⟨n1,λi y hy=>by
    obtain ⟨es,k1,k2,k3⟩:=n4 i y hy
    refine ⟨es,k1,k2,?_⟩
    cases hef:e.flat with
    |true=>exact Cells.flat e es y hef k3
    |false=>rw [hef,iy] at h3f;rw [h3f];exact k3⟩
   have QI: ∀zs:List e.den,(((xs.drop off).take len)++ys).length=len+ys.length:= λ_=>by simp [Qj]
   have new:tr2=true-> ∃Fs,Tg w e news ys Fs/\iD X w π (List.flatten Fs):=by
    intro WO
    rcases hy2 WO with hfl|⟨F,f1,f2⟩
    ·refine ⟨List.replicate ys.length [],⟨by simp,λi z Fi hz hF=>?_⟩,by simp,by simp⟩
     obtain ⟨es,q1,q2,q3⟩:=hfn.2 i z hz
     have:Fi= []:=Fq (Cb hF)
     subst this
     exact ⟨es,q1,q2,Yg e es z hfl q3⟩
    simp only [Db] at f1
    obtain ⟨a0,Ayj,Avv,e0,e3,e4,f1⟩:=f1
    rcases f1 with ⟨f1,_⟩|⟨ad',g',o',Fs,ea,ea',gR,rfl,hFl,f1⟩
    ·exact absurd f1 hm0
    ·have ea':=ea' (by omega)
     subst ea'
     simp only [Gz,Value.slice.injEq,bl] at e0
     obtain ⟨e0,_⟩:=e0
     rw [ea] at e0
     simp only [Aa,Addr.mk.injEq,bl] at e0
     obtain ⟨rfl,rfl⟩:=e0
     refine ⟨Fs,⟨hFl,λi z Fi hz hF=>?_⟩,(Cd.1 f2.1).2,λb hb=>f2.2 b (Ao _ hb)⟩
     obtain ⟨es,q1,q2,q3⟩:=f1 i z Fi hz hF
     refine ⟨es,q1,λj u hu=>?_,q3⟩
     have hi:=(Am.1 hz).1
     have hj:=(Am.1 hu).1
     refine n5 _ u ?_ (by have:=q2 j u hu;rw [Gy] at this;exact this)
     have:(i+1)*e.size<=ys.length*e.size:=Fz _ (by omega)
     rw [De,Vz] at this
     omega
   cases hp:π l with
   |none=>
    rw [hp] at vA hA
    obtain ⟨rfl,rfl,rfl⟩:=vA
    have hr:=run_append_nil (P:=P) w t ty te i _ hu hi tt ⟨g,o,none⟩ ys.length c news n1' n2' KL (by simp only [maxLen] at jl;omega) (by have:=tn;rw [Ce] at this;omega)
    have vM:=grownCap_ge w ys.length 0 te
    have hcm:=grownCap_le_maxLen w ys.length 0 te (by omega)
    have hN: ∃N:List Nat,(∀b∈N,(X.w0.heap.size<=b\/X.gv b)/\b<w.heap.size/\ ∀m r0,m≠l->π m=some r0-> ¬r0.cl b)/\((tr&&tr2)=true->N.Nodup/\ ∃Fs,List.flatten Fs=N/\Tg w e news ((List.take 0 (List.drop 0 xs))++ys) Fs):=by
     cases nP:(tr&&tr2) with
     |false=>exact ⟨[],by simp,λh=>by cases h⟩
     |true=>
      simp only [Af] at nP
      obtain ⟨Fs,t1,t2⟩:=new nP.2
      exact ⟨_,λb hb=>⟨(t2.2 b hb).1,(t2.2 b hb).2.1,λm r0 _=>(t2.2 b hb).2.2 m r0⟩,λ_=>⟨t2.1,Fs,rfl,by simpa using t1⟩⟩
    obtain ⟨N,q1,q2⟩:=hN
    have:=fV h l rk (fr&&fr3) (tr&&tr2) e te ((List.take 0 (List.drop 0 xs))++ys) news (news.toArray++Builtin.zeroCells (Bz e (Bp e)).cells (grownCap w ys.length 0 te-ys.length)) (grownCap w ys.length 0 te) _ N (.inl rfl) (by
      rw [Array.size_append,Ha,Ut,hzs,n1,Vv,<-De];congr 1;omega) hcm (by simpa using vM) (λk u hu=>by
      rw [Tu (by simpa using (Am.1 hu).1)];simpa using hu) (by simpa using hfn.cells λes z hc=>hc.and_right) q1 q2
    refine ⟨_,_,_,hr,this.1,?_⟩
    have:=this.2 ys.length (by simp)
    simpa using this
   |some r=>
    rw [hp] at vA hA
    obtain ⟨adb,rfl,qj,lj⟩:=vA
    obtain ⟨cur,cl,ti,k1,k2,k3,k4,k5⟩:=j9 hA hlen
    have tp:r.cap<=maxLen:=by obtain ⟨_,_,_,_,_,h4,_⟩:=hA;exact h4
    have k3l:cl.length=len*e.size:=by rw [k3.1,Qj]
    have hN: ∃N:List Nat,(∀b∈N,(X.w0.heap.size<=b\/X.gv b)/\b<w.heap.size/\b≠r.g/\ ∀m r0,m≠l->π m=some r0-> ¬r0.cl b)/\((tr&&tr2)=true->N.Nodup/\ ∃Fs,List.flatten Fs=N/\Tg w e (cl++news) (((xs.drop off).take len)++ys) Fs):=by
     cases nP:(tr&&tr2) with
     |false=>exact ⟨[],by simp,λh=>by cases h⟩
     |true=>
      simp only [Af] at nP
      obtain ⟨Fs,t1,t2,t3⟩:=k5 nP.1
      obtain ⟨Fs2,t4,t5⟩:=new nP.2
      have ho:=vB r hp Fs t2 t3
      refine ⟨List.flatten (Fs++Fs2),λb hb=>?_,λ_=>⟨?_,Fs++Fs2,rfl,Tg.append (by rw [k3l,Qj]) t1 t4⟩⟩
      ·rw [List.flatten_append] at hb
       rcases Bb.1 hb with hb|hb
       ·exact ho b hb
       ·have:=t5.2 b hb
        exact ⟨this.1,this.2.1,λe=>this.2.2 l r hp (e▸h.1.sub l r _ hp (h.1.Cr hp)),λm r0 _=>this.2.2 m r0⟩
      ·rw [List.flatten_append]
       refine Du.2 ⟨(Cd.1 t2).2,t5.1,λb hb b' vz e=>?_⟩
       subst e
       exact (t5.2 b vz).2.2 l r hp (t3 b hb)
    obtain ⟨N,q1,q2⟩:=hN
    by_cases EL:len+ys.length<=r.cap-off
    ·
     have Arb:=lj (by omega)
     subst Arb
     have Yi:(r.o+off)*e.size+len*i.size+news.length<=cur.size:=by
      rw [Vv,n1,<-De,<-De,k2]
      exact Fz _ (by omega)
     have Zw:(r.o+off)*e.size+len*i.size+news.length<=cur.toList.length:=by simpa using Yi
     have hr:=aN (P:=P) (w:=w) (ty:=ty) hu hi r.g ((r.o+off)*e.size) len (r.cap-off) cur ti k1 ⟨g,o,none⟩ ys.length c news n1' n2' n3 EL Yi
     refine ⟨_,_,Xe π l (some (Real.with r.g (r.o+off) (r.cap-off) N)),hr,h.jI l rk _ _ (by rw [hp];exact Ob w r.g _) (λr' b h1 h2=>?_) (λr' b h1 h2=>?_) (λm=>?_),?_⟩
     ·cases h1
      have h2:b=r.g:=h2
      exact ⟨.inl h2, .inl ⟨r,hp,h2▸h.1.Cr hp⟩⟩
     ·cases h1
      rcases h2 with h2|h2
      ·have h2:b=r.g:=h2
       subst h2
       have kQ:=h.1.sub l r _ hp (h.1.Cr hp)
       exact ⟨(h.1.place l r _ hp kQ).1,by simpa using (h.1.place l r _ hp kQ).2,λm r0 hm h3 h4=>hm (h.1.inj m l r0 r _ h3 hp h4 kQ)⟩
      ·obtain ⟨h3,h4,_,h5⟩:=q1 b h2
       exact ⟨h3,by simpa using h4,h5⟩
     ·refine Zk (tid:=te) (cl:=cl++news) (λhf=>hA.1.2.2 (by simp only [Af] at hf;exact hf.1)) (setRow_heap w r.g cur _ ti _ k1) ?_ (by omega) (by rw [QI xs];omega) (λk u hu=>?_)
       (((k3.cells λes z hc=>(m.cells _ _ _ _ hc).and_left)).append (hfn.cells λes z hc=>(m.cells _ _ _ _ hc).and_right)) (λnP=>?_)
      ·rw [Ha,Jo _ _ _ Zw,Xs,k2];congr 1;omega
      ·rw [Ix,Iv _ _ _ _ Zw]
       by_cases hk:k<cl.length
       ·rw [At hk] at hu
        rw [Ab (by rw [Vv];omega)]
        simpa using (k4 k u hu).2
       ·rw [Ar (by omega)] at hu
        have:=(Am.1 hu).1
        rw [Ai (by rw [Vv];omega),Ab (by rw [Vv];omega)]
        rw [show (r.o+off)*e.size+k-((r.o+off)*e.size+len*i.size)=k-cl.length by rw [Vv,k3l];omega]
        exact hu
      ·obtain ⟨z1,Fs,rfl,z2⟩:=q2 nP
       exact ⟨Cd.2 ⟨λhm=>(q1 _ hm).2.2.1 rfl,z1⟩,Fs,rfl,z2.Fp (by simp) λb hb=>setRow_other w r.g b _ (q1 b hb).2.2.1⟩
     ·refine FO (St.Hf st l _) (by rw [QI xs];omega) ?_
      rw [Gt]
      exact ⟨_,rfl,by dsimp only [Real.with];omega,λ_=>by simp [Real.with]⟩
    ·
     have hold: ∀j u,cl[j]?=some u->w.cell? (adb.add j)=some u:=by
      intro j u hu
      obtain ⟨q1,q2⟩:=k4 j u hu
      have rk:0<len:=by
       rcases Tv len with h0|h0
       ·rw [h0] at q1;simp at q1
       ·exact h0
      rw [lj (by omega),Addr.add_lit,cellOf k1];exact q2
     have hr:=run_append_grow (P:=P) w t ty te i _ hu hi tt adb len (r.cap-off) cl (by rw [Vv];exact k3l) hold ⟨g,o,none⟩ ys.length c news n1' n2' (by omega) (by simp only [maxLen] at jl;omega) (growslice_fits (by omega) tn)
     have vM:=grownCap_ge w (len+ys.length) (r.cap-off) te
     have hcm:=grownCap_le_maxLen w (len+ys.length) (r.cap-off) te jl
     have:=fV h l rk (fr&&fr3) (tr&&tr2) e te (((xs.drop off).take len)++ys) (cl++news) (cl.toArray++news.toArray++Builtin.zeroCells (Bz e (Bp e)).cells (grownCap w (len+ys.length) (r.cap-off) te-(len+ys.length))) (grownCap w (len+ys.length) (r.cap-off) te) _ N (.inl rfl) (by
       rw [Array.size_append,Array.size_append,Ha,Ha,Ut,hzs,k3l,n1,Vv,<-De,<-De];congr 1;omega) hcm (by rw [QI xs];exact vM) (λk u hu=>by
       have hk:=(Am.1 hu).1
       rw [Tu (by simpa using hk)]
       simpa using hu) ((k3.cells λes z hc=>hc.and_left).append (hfn.cells λes z hc=>hc.and_right)) (λb hb=>⟨(q1 b hb).1,(q1 b hb).2.1,(q1 b hb).2.2.2⟩) q2
     exact ⟨_,_,_,hr,this.1,this.2 _ (QI xs).symm⟩
theorem uq {st:St} {a:Act} (h:Bh X π st a w) {l off len:Nat} {fr tr:Bool} {e:Ty} {tid:TypeId} {xs:List e.den} (rk:l<Bl) (hl:Aw st.heap l=some (.arr fr tr e tid xs)) {v:Value} (hb:Ib X w π st.heap (.own l off len) v):
  ∃π',Bh X π' (st.new l (.arr fr tr e tid ((xs.drop off).take len))) a w/\Ib X w π' (st.new l (.arr fr tr e tid ((xs.drop off).take len))).heap (.own l 0 ((xs.drop off).take len).length) v/\ ∀k,k≠l->π' k=π k:=by
 obtain ⟨hlen,vA⟩:=Pa (X:=X) (w:=w) hb hl
 have hA:=(h.1.heap l).Rz hl
 simp only [Ch] at hA
 have Qj:((xs.drop off).take len).length=len:=by simp;omega
 have vB: ∀r,π l=some r-> ∀Fs:List (List Nat),(r.g::List.flatten Fs).Nodup->(∀b∈List.flatten Fs,r.cl b)->
   ∀b∈List.flatten Fs,(X.w0.heap.size<=b\/X.gv b)/\b<w.heap.size/\b≠r.g/\ ∀m r0,m≠l->π m=some r0-> ¬r0.cl b:= λr hr Fs hn hc b hb=>
  ⟨(h.1.place l r b hr (hc b hb)).1,(h.1.place l r b hr (hc b hb)).2,λe=>(Cd.1 hn).1 (e▸hb),λm r0 hm h1 h2=>hm (h.1.inj m l r0 r b h1 hr h2 (hc b hb))⟩
 cases hp:π l with
 |none=>
  rw [hp] at vA hA
  obtain ⟨rfl,rfl,rfl⟩:=vA
  refine ⟨Xe π l none,h.replace l rk none _ (Qi w _) (λr hr=>by cases hr) (λ_=>?_),?_⟩
  ·simp only [Ch,Kr];simp
  ·exact ⟨⟨_,e.size,_,St.Hf st l _,rfl,by simp,by rw [Gt];exact ⟨rfl,rfl,by simp⟩⟩,λk hk=>Gk _ _ hk⟩
 |some r=>
  rw [hp] at vA hA
  obtain ⟨adb,rfl,qj,lj⟩:=vA
  obtain ⟨cur,cl,ti,k1,k2,k3,k4,k5⟩:=j9 hA hlen
  have tp:r.cap<=maxLen:=by obtain ⟨_,_,_,_,_,h4,_⟩:=hA;exact h4
  have hN: ∃N:List Nat,(∀b∈N,(X.w0.heap.size<=b\/X.gv b)/\b<w.heap.size/\b≠r.g/\ ∀m r0,m≠l->π m=some r0-> ¬r0.cl b)/\(tr=true->(r.g::N).Nodup/\ ∃Fs,List.flatten Fs=N/\Tg w e cl ((xs.drop off).take len) Fs):=by
   cases nP:tr with
   |false=>exact ⟨[],by simp,λh=>by cases h⟩
   |true=>
    obtain ⟨Fs,t1,t2,t3⟩:=k5 nP
    exact ⟨_,vB r hp Fs t2 t3,λ_=>⟨t2,Fs,rfl,t1⟩⟩
  obtain ⟨N,n1,n2⟩:=hN
  refine ⟨Xe π l (some (Real.with r.g (r.o+off) (r.cap-off) N)),h.jI l rk _ _ (Qi w _) (λr' b h1 h2=>?_) (λr' b h1 h2=>?_) (λm=>?_),?_⟩
  ·cases h1
   have h2:b=r.g:=h2
   exact ⟨.inl h2, .inl ⟨r,hp,h2▸h.1.Cr hp⟩⟩
  ·cases h1
   rcases h2 with h2|h2
   ·have h2:b=r.g:=h2
    subst h2
    have kQ:=h.1.sub l r _ hp (h.1.Cr hp)
    exact ⟨(h.1.place l r _ hp kQ).1,(h.1.place l r _ hp kQ).2,λm r0 hm h3 h4=>hm (h.1.inj m l r0 r _ h3 hp h4 kQ)⟩
   ·obtain ⟨h3,h4,_,h5⟩:=n1 b h2
    exact ⟨h3,h4,h5⟩
  ·exact Zk (tid:=tid) (λhf=>hA.1.2.2 hf) k1 (by rw [k2];congr 1;omega) (by omega) (by rw [Qj];omega) (λk u hu=>(k4 k u hu).2) (k3.cells λes z hc=>m.cells _ _ _ _ hc) n2
  ·refine ⟨⟨_,e.size,_,St.Hf st l _,rfl,by simp,?_⟩,λk hk=>Gk _ _ hk⟩
   rw [Gt,Qj]
   exact ⟨adb,rfl,by dsimp only [Real.with];omega,λLi=>by simpa [Real.with] using lj (by dsimp only [Real.with] at Li;omega)⟩
end
end Go.Proofs.YtkkdpknjohcekaaGreat
