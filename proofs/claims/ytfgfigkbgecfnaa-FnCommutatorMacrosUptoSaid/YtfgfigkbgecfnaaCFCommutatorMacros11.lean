/-
  Part 12 of the proof that the statement FnCommutatorMacros holds.
-/
import Derived.Test.YtfgfigkbgecfnaaCFCommutatorMacros10
namespace Go.Proofs.Ytfgfigkbgecfnaa
open Go.RowKit
section
variable {P:Program} {T:Tab} {X:Ctx} {w w':World} {π:Pi} {H:List (Nat×OB)}
def Flat (w:World) (S:Nat->Prop) (e:Ty) (cl:List Value) (zs:List e.den):Prop:=
 cl.length=zs.length*e.size/\ ∀(i:Nat) (z:e.den),zs[i]?=some z-> ∃es:List Value,es.length=e.size/\(∀j u,es[j]?=some u->cl[i*e.size+j]?=some u)/\Cells w S e es z
theorem Flat.append {S:Nat->Prop} {e:Ty} {c1 c2:List Value} {z1 z2:List e.den} (h1:Flat w S e c1 z1) (h2:Flat w S e c2 z2):Flat w S e (c1++c2) (z1++z2):=by
 refine ⟨by simp [h1.1,h2.1,Ch],λi z hz=>?_⟩
 by_cases hi:i<z1.length
 ·rw [Am hi] at hz
  obtain ⟨es,he,hc,hr⟩:=h1.2 i z hz
  refine ⟨es,he,λj u hu=>?_,hr⟩
  have:=hc j u hu
  rw [Am (Ai.1 this).1];exact this
 ·rw [Al (by omega)] at hz
  obtain ⟨es,he,hc,hr⟩:=h2.2 _ z hz
  refine ⟨es,he,λj u hu=>?_,hr⟩
  have:=hc j u hu
  have e1:i*e.size=z1.length*e.size+(i-z1.length)*e.size:=by rw [<-Ch];congr 1;omega
  rw [Al (by rw [h1.1];omega),h1.1,show i*e.size+j-z1.length*e.size=(i-z1.length)*e.size+j by omega]
  exact this
theorem Flat.cells {S S':Nat->Prop} {e:Ty} {cl:List Value} {zs:List e.den} (h:Flat w S e cl zs) (hc: ∀es z,Cells w S e es z->Cells w' S' e es z):Flat w' S' e cl zs:=
 ⟨h.1,λi z hz=>let ⟨es,a,b,c⟩:=h.2 i z hz;⟨es,a,b,hc es z c⟩⟩
theorem Flat.nil {S:Nat->Prop} {e:Ty} :Flat w S e [] []:=⟨by simp,λi z hz=>by simp at hz⟩
def Ow (w:World) (e:Ty) (cl:List Value) (zs:List e.den) (Fs:List (List Nat)):Prop:=
 Fs.length=zs.length/\ ∀(i:Nat) (z:e.den) (F:List Nat),zs[i]?=some z->Fs[i]?=some F-> ∃es:List Value,es.length=e.size/\(∀j u,es[j]?=some u->cl[i*e.size+j]?=some u)/\Bz w F e es z
theorem Ow.append {e:Ty} {c1 c2:List Value} {z1 z2:List e.den} {F1 F2:List (List Nat)} (hc:c1.length=z1.length*e.size) (h1:Ow w e c1 z1 F1) (h2:Ow w e c2 z2 F2):Ow w e (c1++c2) (z1++z2) (F1++F2):=by
 have hl:=h1.1
 refine ⟨by simp [h1.1,h2.1],λi z F hz hF=>?_⟩
 by_cases hi:i<z1.length
 ·rw [Am hi] at hz
  rw [Am (by omega)] at hF
  obtain ⟨es,he,oY,hr⟩:=h1.2 i z F hz hF
  refine ⟨es,he,λj u hu=>?_,hr⟩
  have:=oY j u hu
  rw [Am (Ai.1 this).1];exact this
 ·rw [Al (by omega)] at hz
  rw [Al (by omega),hl] at hF
  obtain ⟨es,he,oY,hr⟩:=h2.2 _ z F hz hF
  refine ⟨es,he,λj u hu=>?_,hr⟩
  have:=oY j u hu
  have hle:z1.length*e.size<=i*e.size:=Ea _ (by omega)
  rw [Al (by omega),<-this]
  congr 1
  rw [hc,Nat.sub_mul];omega
theorem Ow.Ep {e:Ty} {cl:List Value} {zs:List e.den} {Fs:List (List Nat)} (h:Ow w e cl zs Fs) (hs:w.heap.size<=w'.heap.size) (hk: ∀b∈List.flatten Fs,w'.heap[b]?=w.heap[b]?):Ow w' e cl zs Fs:=
 ⟨h.1,λi z F hz hF=>by
  obtain ⟨es,he,oY,hr⟩:=h.2 i z F hz hF
  exact ⟨es,he,oY,hr.Ep _ _ _ _ hs λb hb=>hk b (Fc.2 ⟨F,Bo hF,hb⟩)⟩⟩
theorem Ow.lt {e:Ty} {cl:List Value} {zs:List e.den} {Fs:List (List Nat)} (h:Ow w e cl zs Fs) (b:Nat) (hb:b∈List.flatten Fs):b<w.heap.size:=by
 obtain ⟨F,hF,hb⟩:=Fc.1 hb
 obtain ⟨i,hi,rfl⟩:=Ko hF
 have hl:=h.1
 obtain ⟨es,_,_,hr⟩:=h.2 i (zs[i]'(by omega)) _ (Ac _) (Ac hi)
 exact hr.lt _ _ _ _ b hb
def Real.with (g o cap:Nat) (N:List Nat):Real:=⟨g,o,cap,λb=>b=g,λb=>b=g\/b∈N⟩
theorem Tq {g o cap:Nat} {N:List Nat} {fr tr:Bool} {e:Ty} {tid:TypeId} {zs:List e.den} {cl:List Value} {cur:Array Value} {ti:TypeId} (hB:fr=true->X.w0.heap.size<=g) (hg:w.heap[g]?=some (.cells cur ti (0,0)))
  (hs:cur.size=(o+cap)*e.size) (hm:cap<=maxLen) (hl:zs.length<=cap) (Ol: ∀k u,cl[k]?=some u->cur[o*e.size+k]?=some u) (hf:Flat w (Cb X.w0.heap.size X.Sc π fr) e cl zs)
  (ht:tr=true->(g::N).Nodup/\ ∃Fs,List.flatten Fs=N/\Ow w e cl zs Fs):
  Hg X w π (some (Real.with g o cap N)) fr tr e tid zs:=by
 refine ⟨⟨rfl,λb hb=>hb,hB⟩,cur,_,hg,hs,hm,hl,λi z hz=>?_,λib=>?_⟩
 ·obtain ⟨es,a,b,c⟩:=hf.2 i z hz
  refine ⟨es,a,λj u hu=>?_,c⟩
  have:=Ol _ u (b j u hu)
  rw [<-Er,<-Ch] at this
  exact this
 ·obtain ⟨hn,Fs,rfl,h1,h2⟩:=ht ib
  refine ⟨Fs,h1,hn,λb hb=> .inr hb,λi z F hz hF=>?_⟩
  obtain ⟨es,a,b,c⟩:=h2 i z F hz hF
  refine ⟨es,a,λj u hu=>?_,c⟩
  have:=Ol _ u (b j u hu)
  rw [<-Er,<-Ch] at this
  exact this
theorem dd {r:Real} {fr tr:Bool} {e:Ty} {tid:TypeId} {xs:List e.den} {off len:Nat} (h:Hg X w π (some r) fr tr e tid xs) (hl:off+len<=xs.length):
  ∃cur cl ti,w.heap[r.g]?=some (.cells cur ti (0,0))/\cur.size=(r.o+r.cap)*e.size/\Flat w (Cb X.w0.heap.size X.Sc π fr) e cl ((xs.drop off).take len)/\
   (∀k u,cl[k]?=some u->k<len*e.size/\cur[(r.o+off)*e.size+k]?=some u)/\
   (tr=true-> ∃Fs,Ow w e cl ((xs.drop off).take len) Fs/\(r.g::List.flatten Fs).Nodup/\ ∀b∈List.flatten Fs,r.cl b):=by
 obtain ⟨h1,cur,ti,h2,h3,h4,h5,h6,h7⟩:=h
 have FD:((xs.drop off).take len).length=len:=by simp;omega
 have BH:(r.o+off)*e.size+len*e.size<=cur.size:=by
  rw [<-Ch,h3];exact Ea _ (by omega)
 have KK: ∀k u,((cur.toList.drop ((r.o+off)*e.size)).take (len*e.size))[k]?=some u↔k<len*e.size/\cur[(r.o+off)*e.size+k]?=some u:=by
  intro k u
  rw [By]
  split
  ·rename_i hk;rw [Ce];simp [hk]
  ·rename_i hk;simp [hk]
 refine ⟨cur,(cur.toList.drop ((r.o+off)*e.size)).take (len*e.size),ti,h2,h3,⟨by rw [FD];simp;omega,λi z hz=>?_⟩,λk u hu=>(KK k u).1 hu,λht=>?_⟩
 rotate_left
 ·obtain ⟨Fs,t1,t2,t3,t4⟩:=h7 ht
  refine ⟨(Fs.drop off).take len,⟨by simp [t1],λi x F hx hF=>?_⟩,?_,λb hb=>t3 b (Oj off len b hb)⟩
  ·have hi:i<len:=by
    have:=(Ai.1 hx).1
    rw [FD] at this;exact this
   have LQ:xs[off+i]?=some x:=by rw [By,Af hi,Ce] at hx;exact hx
   have ON:Fs[off+i]?=some F:=by rw [By,Af hi,Ce] at hF;exact hF
   obtain ⟨es,a,b,c⟩:=t4 (off+i) x F LQ ON
   refine ⟨es,a,λj u hu=>(KK _ u).2 ⟨?_,?_⟩,c⟩
   ·have hj:=(Ai.1 hu).1
    have:(i+1)*e.size<=len*e.size:=Ea _ (by omega)
    rw [Ch,Qz] at this
    omega
   ·have:=b j u hu
    rw [<-Er,Ch (r.o+off) i] at this
    rw [<-Er];exact this
  ·have:=Bw.1 t2
   exact Bw.2 ⟨λhm=>this.1 (Oj off len _ hm),gk off len this.2⟩
 have hi:i<len:=by have:=(Ai.1 hz).1;omega
 have hz':xs[off+i]?=some z:=by
  rw [By,Af hi,Ce] at hz;exact hz
 obtain ⟨es,a,b,c⟩:=h6 (off+i) z hz'
 refine ⟨es,a,λj u hu=>(KK _ u).2 ⟨?_,?_⟩,c⟩
 ·have hj:=(Ai.1 hu).1
  have:(i+1)*e.size<=len*e.size:=Ea _ (by omega)
  rw [Ch,Qz] at this
  omega
 ·have:=b j u hu
  rw [<-Er,Ch (r.o+off) i] at this
  rw [<-Er];exact this
theorem cd {t ty e:TypeId} {i:TypeInfo} (hu:P.underlying t=some (.slice e)) (hi:P.info? e=some i) (b:Option Addr) (len cap:Nat) (y:Option Addr) (c:Nat) (hl:len<=cap):
  (Builtin.append_ #[t,t] ty #[.slice b len cap, .slice y 0 c]).run P w= .ok (.slice b len cap) w:=by
 cases b<;>cases y<;>simp [Builtin.append_,run_underlying hu,sizeOf,typeInfo,hi,Builtin.lenOf,hl,Builtin.firstCells,loadCells,loadCellsFrom,storeCells]
theorem Vg {t ty e:TypeId} {i:TypeInfo} (hu:P.underlying t=some (.slice e)) (hi:P.info? e=some i) (g ob zm MO:Nat) (cur:Array Value) (tid:TypeId) (hg:w.heap[g]?=some (.cells cur tid (0,0)))
  (a:Addr) (m c:Nat) (news:List Value) (hl:news.length=m*i.size) (PW: ∀j u,news[j]?=some u->w.cell? (a.add j)=some u) (h1: ∀u∈news,u.oneCell'=true)
  (tn:zm+m<=MO) (Su:ob+zm*i.size+news.length<=cur.size):
  (Builtin.append_ #[t,t] ty #[.slice (some ⟨g,ob,none⟩) zm MO, .slice (some a) m c]).run P w=
   .ok (.slice (some ⟨g,ob,none⟩) (zm+m) MO) (w.setRow g (Dd cur.toList (ob+zm*i.size) news).toArray):=by
 have hf:=run_firstCells_some (P:=P) w i.size m a m c news hl PW
 have Yi:=run_storeCells_at P g (ob+zm*i.size) tid news 0 cur w hg (by simpa using Su) h1
 simp only [Dc] at Yi
 simp [Builtin.append_,run_underlying hu,sizeOf,typeInfo,hi,Builtin.lenOf,tn,hf,Addr.add_lit,Yi,Dd]
theorem Qa (z:Array Value) (n:Nat):(Builtin.zeroCells z n).size=n*z.size:=by simp [Builtin.zeroCells]
theorem tV {l off len:Nat} {v:Value} {fr tr:Bool} {e:Ty} {tid:TypeId} {xs:List e.den} (hl:Ap H l=some (.arr fr tr e tid xs)) (h1:off+len<=xs.length) (h2:Fm (π l) e.size off len v):Ba X w π H (.at (.own l off len)) v:=
 w6 (X:=X) (w:=w) hl h1 h2
theorem bn {st:St} {a:Act} (h:Ax X π st a w) (l:Nat) (kQ:l<Az) (fr tr:Bool) (e:Ty) (te:TypeId) (zs:List e.den) (cl:List Value) (cur:Array Value) (cap:Nat) (w1:World) (N:List Nat)
  (XP:w1=w.drew.alloc (.cells cur te)\/w1=w.alloc (.cells cur te))
  (hs:cur.size=cap*e.size) (hm:cap<=maxLen) (hl:zs.length<=cap) (Ol: ∀(k:Nat) (u:Value),cl[k]?=some u->cur[k]?=some u) (hf:Flat w (Cb X.w0.heap.size X.Sc π fr) e cl zs)
  (hN: ∀b∈N,(X.w0.heap.size<=b\/X.gv b)/\b<w.heap.size/\ ∀m r0,m≠l->π m=some r0-> ¬r0.cl b) (ht:tr=true->N.Nodup/\ ∃Fs,List.flatten Fs=N/\Ow w e cl zs Fs):
  Ax X (Ry π l (some (Real.with w.heap.size 0 cap N))) (st.new l (.arr fr tr e te zs)) a w1/\
   ∀n,n=zs.length->Ba X w1 (Ry π l (some (Real.with w.heap.size 0 cap N))) (st.new l (.arr fr tr e te zs)).heap (.at (.own l 0 n)) (.slice (some ⟨w.heap.size,0,none⟩) n cap):=by
 have NN:w.grownBy w1 ((π l).map (·.g)):=by
  rcases XP with rfl|rfl
  ·exact ⟨rfl,rfl,rfl,by simp,λk hk _=>Below.heap_alloc w.drew _ k hk⟩
  ·exact World.grownBy_alloc w _ _
 have eG:w1.heap[w.heap.size]?=some (.cells cur te (0,0)):=by
  rcases XP with rfl|rfl
  ·exact heap_alloc_new w.drew _
  ·exact heap_alloc_new w _
 have hold: ∀k,k<w.heap.size->w1.heap[k]?=w.heap[k]?:=by
  rcases XP with rfl|rfl
  ·exact λk hk=>Below.heap_alloc w.drew _ k hk
  ·exact λk hk=>Below.heap_alloc w _ k hk
 refine ⟨h.dK l kQ _ _ NN (λr b h1 h2=>?_) (λr b h1 h2=>?_) λm=>?_,λn hn=>tV (St.Ew st l _) (by omega) ?_⟩
 ·cases h1
  have h2:b=w.heap.size:=h2
  exact ⟨.inl h2, .inr (by omega)⟩
 ·cases h1
  rcases h2 with h2|h2
  ·have h2:b=w.heap.size:=h2
   subst h2
   exact ⟨.inl h.1.below.size,Ej eG,λm r0 _ h3 h4=>by have:=(h.1.place m r0 _ h3 h4).2;omega⟩
  ·obtain ⟨h3,h4,h5⟩:=hN b h2
   exact ⟨h3,Cy h4 NN.size,h5⟩
 ·refine Tq (tid:=te) (λ_=>h.1.below.size) eG (by simpa using hs) hm hl (by simpa using Ol) (hf.cells λes z hc=>m.cells _ _ _ _ hc) λib=>?_
  obtain ⟨n1,Fs,rfl,n2⟩:=ht ib
  exact ⟨Bw.2 ⟨λhm=>by have:=(hN _ hm).2.1;omega,n1⟩,Fs,rfl,n2.Ep NN.size λb hb=>hold b (n2.lt b hb)⟩
 ·rw [Eo]
  exact ⟨_,rfl,by dsimp only [Real.with];omega,λ_=>by simp [Real.with]⟩
theorem gE (hT:De P T) {st:St} {a:Act} (h:Ax X π st a w) {t te ty:TypeId} {e:Ty} (fb:T.elem t=some te) (Sw:T.ty te=some e) {l off len:Nat} (kQ:l<Az) {fr tr l8 fr3 tr2:Bool} {xs ys:List e.den} {vb vy:Value} (YT:fr3=(l8||e.flat))
  (hl:Ap st.heap l=some (.arr fr tr e te xs)) (hb:Ba X w π st.heap (.at (.own l off len)) vb) (hy:Cells w (Cb X.w0.heap.size X.Sc π l8) (.slice e) [vy] ys) (jb:len+ys.length<=Ga)
  (hy2:tr2=true->e.flat=true\/ ∃F,Bz w F (.slice e) [vy] ys/\cF X w π F):
  ∃v' w' π',(Builtin.append_ #[t,t] ty #[vb,vy]).run P w= .ok v' w'/\Ax X π' (st.new l (.arr (fr&&fr3) (tr&&tr2) e te (((xs.drop off).take len)++ys))) a w'/\
   Ba X w' π' (st.new l (.arr (fr&&fr3) (tr&&tr2) e te (((xs.drop off).take len)++ys))).heap (.at (.own l 0 (len+ys.length))) v':=by
 have hu:=hT.elem t te fb
 obtain ⟨i,hi,Qv,kP,mb⟩:=(hT.ty te e Sw).info
 obtain ⟨hlen,nG⟩:=Lk (X:=X) (w:=w) hb hl
 have hA:=(h.1.heap l).Ns hl
 simp only [Bn] at hA
 have Ol:((xs.drop off).take len).length=len:=by simp;omega
 have m9:(len+ys.length)*i.bytes<=140737488355328:=by
  have:(len+ys.length)*i.bytes<=4294967296*256:=Nat.mul_le_mul jb kP
  omega
 have dk:len+ys.length<=maxLen:=by unfold Ga at jb;simp only [maxLen];omega
 obtain ⟨ad,c,rfl,vP⟩:=nc hy
 have QW:(Bi e (Bb e)).cells.size=i.size:=by
  rw [Qv]
  have hz: ∀τ:Ty,(Bb τ).length=τ.size:=by
   intro τ
   induction τ with
   |pair a r cC cw=>simp [Bb,Ty.size,cC,cw]
   |_=>rfl
  cases Yi:e.Ak with
  |true=>simp [Bi,Yi,Value.cells,hz]
  |false=>cases e<;>simp_all [Ty.Ak,Bi,Bb,Value.cells,Ty.size]
 have o0: ∀r,π l=some r-> ∀Fs:List (List Nat),(r.g::List.flatten Fs).Nodup->(∀b∈List.flatten Fs,r.cl b)->
   ∀b∈List.flatten Fs,(X.w0.heap.size<=b\/X.gv b)/\b<w.heap.size/\b≠r.g/\ ∀m r0,m≠l->π m=some r0-> ¬r0.cl b:= λr hr Fs hn hc b hb=>
  ⟨(h.1.place l r b hr (hc b hb)).1,(h.1.place l r b hr (hc b hb)).2,λe=>(Bw.1 hn).1 (e▸hb),λm r0 hm h1 h2=>hm (h.1.inj m l r0 r b h1 hr h2 (hc b hb))⟩
 by_cases TI:ys= []
 ·
  subst TI
  simp only [List.append_nil,Jb,Dc]
  cases hp:π l with
  |none=>
   rw [hp] at nG hA
   obtain ⟨rfl,rfl,rfl⟩:=nG
   have hr:=cd (P:=P) (w:=w) (ty:=ty) hu hi none 0 0 ad c (Ao _)
   refine ⟨_,w,Ry π l none,hr,h.replace l kQ none _ (Mi w _) (λr hr=>by cases hr) (λ_=>?_),?_⟩
   ·simp only [Bn,Hg];simp
   ·exact tV (St.Ew st l _) (by simp) (by rw [Eo];exact ⟨rfl,rfl,rfl⟩)
  |some r=>
   rw [hp] at nG hA
   obtain ⟨JW,rfl,lb,j9⟩:=nG
   have hr:=cd (P:=P) (w:=w) (ty:=ty) hu hi (some JW) len (r.cap-off) ad c (by omega)
   obtain ⟨cur,cl,ti,k1,k2,k3,k4,k5⟩:=dd hA hlen
   have kO:r.cap<=maxLen:=by obtain ⟨_,_,_,_,_,h4,_⟩:=hA;exact h4
   have hN: ∃N:List Nat,(∀b∈N,(X.w0.heap.size<=b\/X.gv b)/\b<w.heap.size/\b≠r.g/\ ∀m r0,m≠l->π m=some r0-> ¬r0.cl b)/\((tr&&tr2)=true->(r.g::N).Nodup/\ ∃Fs,List.flatten Fs=N/\Ow w e cl ((xs.drop off).take len) Fs):=by
    cases ib:(tr&&tr2) with
    |false=>exact ⟨[],by simp,λh=>by cases h⟩
    |true=>
     simp only [Ag] at ib
     obtain ⟨Fs,t1,t2,t3⟩:=k5 ib.1
     exact ⟨_,o0 r hp Fs t2 t3,λ_=>⟨t2,Fs,rfl,t1⟩⟩
   obtain ⟨N,n1,n2⟩:=hN
   refine ⟨_,w,Ry π l (some (Real.with r.g (r.o+off) (r.cap-off) N)),hr,h.dK l kQ _ _ (Mi w _) (λr' b h1 h2=>?_) (λr' b h1 h2=>?_) (λm=>?_),?_⟩
   ·cases h1
    have h2:b=r.g:=h2
    exact ⟨.inl h2, .inl ⟨r,hp,h2▸h.1.Bu hp⟩⟩
   ·cases h1
    rcases h2 with h2|h2
    ·have h2:b=r.g:=h2
     subst h2
     have gz:=h.1.sub l r _ hp (h.1.Bu hp)
     exact ⟨(h.1.place l r _ hp gz).1,(h.1.place l r _ hp gz).2,λm r0 hm h3 h4=>hm (h.1.inj m l r0 r _ h3 hp h4 gz)⟩
    ·obtain ⟨h3,h4,_,h5⟩:=n1 b h2
     exact ⟨h3,h4,h5⟩
   ·exact Tq (tid:=te) (λhf=>hA.1.2.2 (by simp only [Ag] at hf;exact hf.1)) k1 (by rw [k2];congr 1;omega) (by omega) (by rw [Ol];omega) (λk u hu=>(k4 k u hu).2) (k3.cells λes z hc=>(m.cells _ _ _ _ hc).and_left) n2
   ·refine tV (St.Ew st l _) (by rw [Ol];omega) ?_
    rw [Eo]
    exact ⟨JW,rfl,by dsimp only [Real.with];omega,λIm=>by simpa [Real.with] using j9 (by dsimp only [Real.with] at Im;omega)⟩
 ·rcases vP with h0|⟨g,o,rfl,news,n1,n2,n3,n5,n4⟩
  ·exact absurd h0 TI
  ·have BR:0<ys.length:=by
    rcases Uz ys.length with h0|h0
    ·exact absurd (Cj h0) TI
    ·exact h0
   have MA:news.length=ys.length*i.size:=by rw [Qv];exact n1
   have MB: ∀j u,news[j]?=some u->w.cell? ((⟨g,o,none⟩:Addr).add j)=some u:= λj u hu=>by rw [Addr.add_lit];exact n2 j u hu
   have BF:Flat w (Cb X.w0.heap.size X.Sc π fr3) e news ys:=⟨n1,λi y hy=>by
    obtain ⟨es,k1,k2,k3⟩:=n4 i y hy
    refine ⟨es,k1,k2,?_⟩
    cases SU:e.flat with
    |true=>exact Cells.flat e es y SU k3
    |false=>rw [SU,cz] at YT;rw [YT];exact k3⟩
   have xI: ∀zs:List e.den,(((xs.drop off).take len)++ys).length=len+ys.length:= λ_=>by simp [Ol]
   have new:tr2=true-> ∃Fs,Ow w e news ys Fs/\cF X w π (List.flatten Fs):=by
    intro JG
    rcases hy2 JG with FB|⟨F,f1,f2⟩
    ·refine ⟨List.replicate ys.length [],⟨by simp,λi z Fi hz hF=>?_⟩,by simp,by simp⟩
     obtain ⟨es,q1,q2,q3⟩:=BF.2 i z hz
     have:Fi= []:=Dx (Bo hF)
     subst this
     exact ⟨es,q1,q2,Ss e es z FB q3⟩
    simp only [Bz] at f1
    obtain ⟨a0,Ad6,Aah,e0,e3,e4,f1⟩:=f1
    rcases f1 with ⟨f1,_⟩|⟨ad',g',o',Fs,ea,UL,hg',rfl,hFl,f1⟩
    ·exact absurd f1 TI
    ·have UL:=UL (by omega)
     subst UL
     simp only [Es,Value.slice.injEq,cA] at e0
     obtain ⟨e0,_⟩:=e0
     rw [ea] at e0
     simp only [Aa,Addr.mk.injEq,cA] at e0
     obtain ⟨rfl,rfl⟩:=e0
     refine ⟨Fs,⟨hFl,λi z Fi hz hF=>?_⟩,(Bw.1 f2.1).2,λb hb=>f2.2 b (Aq _ hb)⟩
     obtain ⟨es,q1,q2,q3⟩:=f1 i z Fi hz hF
     refine ⟨es,q1,λj u hu=>?_,q3⟩
     have hi:=(Ai.1 hz).1
     have hj:=(Ai.1 hu).1
     refine n5 _ u ?_ (by have:=q2 j u hu;rw [Er] at this;exact this)
     have:(i+1)*e.size<=ys.length*e.size:=Ea _ (by omega)
     rw [Ch,Qz] at this
     omega
   cases hp:π l with
   |none=>
    rw [hp] at nG hA
    obtain ⟨rfl,rfl,rfl⟩:=nG
    have hr:=run_append_nil (P:=P) w t ty te i _ hu hi mb ⟨g,o,none⟩ ys.length c news MA MB BR (by simp only [maxLen] at dk;omega) (by have:=m9;rw [Dp] at this;omega)
    have zV:=grownCap_ge w ys.length 0 te
    have GA:=grownCap_le_maxLen w ys.length 0 te (by omega)
    have hN: ∃N:List Nat,(∀b∈N,(X.w0.heap.size<=b\/X.gv b)/\b<w.heap.size/\ ∀m r0,m≠l->π m=some r0-> ¬r0.cl b)/\((tr&&tr2)=true->N.Nodup/\ ∃Fs,List.flatten Fs=N/\Ow w e news ((List.take 0 (List.drop 0 xs))++ys) Fs):=by
     cases ib:(tr&&tr2) with
     |false=>exact ⟨[],by simp,λh=>by cases h⟩
     |true=>
      simp only [Ag] at ib
      obtain ⟨Fs,t1,t2⟩:=new ib.2
      exact ⟨_,λb hb=>⟨(t2.2 b hb).1,(t2.2 b hb).2.1,λm r0 _=>(t2.2 b hb).2.2 m r0⟩,λ_=>⟨t2.1,Fs,rfl,by simpa using t1⟩⟩
    obtain ⟨N,q1,q2⟩:=hN
    have:=bn h l kQ (fr&&fr3) (tr&&tr2) e te ((List.take 0 (List.drop 0 xs))++ys) news (news.toArray++Builtin.zeroCells (Bi e (Bb e)).cells (grownCap w ys.length 0 te-ys.length)) (grownCap w ys.length 0 te) _ N (.inl rfl) (by
      rw [Array.size_append,Eu,Qa,QW,n1,Qv,<-Ch];congr 1;omega) GA (by simpa using zV) (λk u hu=>by
      rw [Hk (by simpa using (Ai.1 hu).1)];simpa using hu) (by simpa using BF.cells λes z hc=>hc.and_right) q1 q2
    refine ⟨_,_,_,hr,this.1,?_⟩
    have:=this.2 ys.length (by simp)
    simpa using this
   |some r=>
    rw [hp] at nG hA
    obtain ⟨JW,rfl,lb,j9⟩:=nG
    obtain ⟨cur,cl,ti,k1,k2,k3,k4,k5⟩:=dd hA hlen
    have kO:r.cap<=maxLen:=by obtain ⟨_,_,_,_,_,h4,_⟩:=hA;exact h4
    have TQ:cl.length=len*e.size:=by rw [k3.1,Ol]
    have hN: ∃N:List Nat,(∀b∈N,(X.w0.heap.size<=b\/X.gv b)/\b<w.heap.size/\b≠r.g/\ ∀m r0,m≠l->π m=some r0-> ¬r0.cl b)/\((tr&&tr2)=true->N.Nodup/\ ∃Fs,List.flatten Fs=N/\Ow w e (cl++news) (((xs.drop off).take len)++ys) Fs):=by
     cases ib:(tr&&tr2) with
     |false=>exact ⟨[],by simp,λh=>by cases h⟩
     |true=>
      simp only [Ag] at ib
      obtain ⟨Fs,t1,t2,t3⟩:=k5 ib.1
      obtain ⟨YI,t4,t5⟩:=new ib.2
      have ho:=o0 r hp Fs t2 t3
      refine ⟨List.flatten (Fs++YI),λb hb=>?_,λ_=>⟨?_,Fs++YI,rfl,Ow.append (by rw [TQ,Ol]) t1 t4⟩⟩
      ·rw [List.flatten_append] at hb
       rcases Av.1 hb with hb|hb
       ·exact ho b hb
       ·have:=t5.2 b hb
        exact ⟨this.1,this.2.1,λe=>this.2.2 l r hp (e▸h.1.sub l r _ hp (h.1.Bu hp)),λm r0 _=>this.2.2 m r0⟩
      ·rw [List.flatten_append]
       refine Cz.2 ⟨(Bw.1 t2).2,t5.1,λb hb b' nF e=>?_⟩
       subst e
       exact (t5.2 b nF).2.2 l r hp (t3 b hb)
    obtain ⟨N,q1,q2⟩:=hN
    by_cases tn:len+ys.length<=r.cap-off
    ·
     have VG:=j9 (by omega)
     subst VG
     have Su:(r.o+off)*e.size+len*i.size+news.length<=cur.size:=by
      rw [Qv,n1,<-Ch,<-Ch,k2]
      exact Ea _ (by omega)
     have Uf:(r.o+off)*e.size+len*i.size+news.length<=cur.toList.length:=by simpa using Su
     have hr:=Vg (P:=P) (w:=w) (ty:=ty) hu hi r.g ((r.o+off)*e.size) len (r.cap-off) cur ti k1 ⟨g,o,none⟩ ys.length c news MA MB n3 tn Su
     refine ⟨_,_,Ry π l (some (Real.with r.g (r.o+off) (r.cap-off) N)),hr,h.dK l kQ _ _ (by rw [hp];exact Kq w r.g _) (λr' b h1 h2=>?_) (λr' b h1 h2=>?_) (λm=>?_),?_⟩
     ·cases h1
      have h2:b=r.g:=h2
      exact ⟨.inl h2, .inl ⟨r,hp,h2▸h.1.Bu hp⟩⟩
     ·cases h1
      rcases h2 with h2|h2
      ·have h2:b=r.g:=h2
       subst h2
       have gz:=h.1.sub l r _ hp (h.1.Bu hp)
       exact ⟨(h.1.place l r _ hp gz).1,by simpa using (h.1.place l r _ hp gz).2,λm r0 hm h3 h4=>hm (h.1.inj m l r0 r _ h3 hp h4 gz)⟩
      ·obtain ⟨h3,h4,_,h5⟩:=q1 b h2
       exact ⟨h3,by simpa using h4,h5⟩
     ·refine Tq (tid:=te) (cl:=cl++news) (λhf=>hA.1.2.2 (by simp only [Ag] at hf;exact hf.1)) (setRow_heap w r.g cur _ ti _ k1) ?_ (by omega) (by rw [xI xs];omega) (λk u hu=>?_)
       (((k3.cells λes z hc=>(m.cells _ _ _ _ hc).and_left)).append (BF.cells λes z hc=>(m.cells _ _ _ _ hc).and_right)) (λib=>?_)
      ·rw [Eu,Gg _ _ _ Uf,Sf,k2];congr 1;omega
      ·rw [Fv,Fu _ _ _ _ Uf]
       by_cases hk:k<cl.length
       ·rw [Am hk] at hu
        rw [Af (by rw [Qv];omega)]
        simpa using (k4 k u hu).2
       ·rw [Al (by omega)] at hu
        have:=(Ai.1 hu).1
        rw [Aj (by rw [Qv];omega),Af (by rw [Qv];omega)]
        rw [show (r.o+off)*e.size+k-((r.o+off)*e.size+len*i.size)=k-cl.length by rw [Qv,TQ];omega]
        exact hu
      ·obtain ⟨z1,Fs,rfl,z2⟩:=q2 ib
       exact ⟨Bw.2 ⟨λhm=>(q1 _ hm).2.2.1 rfl,z1⟩,Fs,rfl,z2.Ep (by simp) λb hb=>setRow_other w r.g b _ (q1 b hb).2.2.1⟩
     ·refine tV (St.Ew st l _) (by rw [xI xs];omega) ?_
      rw [Eo]
      exact ⟨_,rfl,by dsimp only [Real.with];omega,λ_=>by simp [Real.with]⟩
    ·
     have hold: ∀j u,cl[j]?=some u->w.cell? (JW.add j)=some u:=by
      intro j u hu
      obtain ⟨q1,q2⟩:=k4 j u hu
      have kQ:0<len:=by
       rcases Uz len with h0|h0
       ·rw [h0] at q1;simp at q1
       ·exact h0
      rw [j9 (by omega),Addr.add_lit,cellOf k1];exact q2
     have hr:=run_append_grow (P:=P) w t ty te i _ hu hi mb JW len (r.cap-off) cl (by rw [Qv];exact TQ) hold ⟨g,o,none⟩ ys.length c news MA MB (by omega) (by simp only [maxLen] at dk;omega) (growslice_fits (by omega) m9)
     have zV:=grownCap_ge w (len+ys.length) (r.cap-off) te
     have GA:=grownCap_le_maxLen w (len+ys.length) (r.cap-off) te dk
     have:=bn h l kQ (fr&&fr3) (tr&&tr2) e te (((xs.drop off).take len)++ys) (cl++news) (cl.toArray++news.toArray++Builtin.zeroCells (Bi e (Bb e)).cells (grownCap w (len+ys.length) (r.cap-off) te-(len+ys.length))) (grownCap w (len+ys.length) (r.cap-off) te) _ N (.inl rfl) (by
       rw [Array.size_append,Array.size_append,Eu,Eu,Qa,QW,TQ,n1,Qv,<-Ch,<-Ch];congr 1;omega) GA (by rw [xI xs];exact zV) (λk u hu=>by
       have hk:=(Ai.1 hu).1
       rw [Hk (by simpa using hk)]
       simpa using hu) ((k3.cells λes z hc=>hc.and_left).append (BF.cells λes z hc=>hc.and_right)) (λb hb=>⟨(q1 b hb).1,(q1 b hb).2.1,(q1 b hb).2.2.2⟩) q2
     exact ⟨_,_,_,hr,this.1,this.2 _ (xI xs).symm⟩
theorem mR {st:St} {a:Act} (h:Ax X π st a w) {l off len:Nat} {fr tr:Bool} {e:Ty} {tid:TypeId} {xs:List e.den} (kQ:l<Az) (hl:Ap st.heap l=some (.arr fr tr e tid xs)) {v:Value} (hb:Fe X w π st.heap (.own l off len) v):
  ∃π',Ax X π' (st.new l (.arr fr tr e tid ((xs.drop off).take len))) a w/\Fe X w π' (st.new l (.arr fr tr e tid ((xs.drop off).take len))).heap (.own l 0 ((xs.drop off).take len).length) v/\ ∀k,k≠l->π' k=π k:=by
 obtain ⟨hlen,nG⟩:=Lk (X:=X) (w:=w) hb hl
 have hA:=(h.1.heap l).Ns hl
 simp only [Bn] at hA
 have Ol:((xs.drop off).take len).length=len:=by simp;omega
 have o0: ∀r,π l=some r-> ∀Fs:List (List Nat),(r.g::List.flatten Fs).Nodup->(∀b∈List.flatten Fs,r.cl b)->
   ∀b∈List.flatten Fs,(X.w0.heap.size<=b\/X.gv b)/\b<w.heap.size/\b≠r.g/\ ∀m r0,m≠l->π m=some r0-> ¬r0.cl b:= λr hr Fs hn hc b hb=>
  ⟨(h.1.place l r b hr (hc b hb)).1,(h.1.place l r b hr (hc b hb)).2,λe=>(Bw.1 hn).1 (e▸hb),λm r0 hm h1 h2=>hm (h.1.inj m l r0 r b h1 hr h2 (hc b hb))⟩
 cases hp:π l with
 |none=>
  rw [hp] at nG hA
  obtain ⟨rfl,rfl,rfl⟩:=nG
  refine ⟨Ry π l none,h.replace l kQ none _ (Mi w _) (λr hr=>by cases hr) (λ_=>?_),?_⟩
  ·simp only [Bn,Hg];simp
  ·exact ⟨⟨_,e.size,_,St.Ew st l _,rfl,by simp,by rw [Eo];exact ⟨rfl,rfl,by simp⟩⟩,λk hk=>Ek _ _ hk⟩
 |some r=>
  rw [hp] at nG hA
  obtain ⟨JW,rfl,lb,j9⟩:=nG
  obtain ⟨cur,cl,ti,k1,k2,k3,k4,k5⟩:=dd hA hlen
  have kO:r.cap<=maxLen:=by obtain ⟨_,_,_,_,_,h4,_⟩:=hA;exact h4
  have hN: ∃N:List Nat,(∀b∈N,(X.w0.heap.size<=b\/X.gv b)/\b<w.heap.size/\b≠r.g/\ ∀m r0,m≠l->π m=some r0-> ¬r0.cl b)/\(tr=true->(r.g::N).Nodup/\ ∃Fs,List.flatten Fs=N/\Ow w e cl ((xs.drop off).take len) Fs):=by
   cases ib:tr with
   |false=>exact ⟨[],by simp,λh=>by cases h⟩
   |true=>
    obtain ⟨Fs,t1,t2,t3⟩:=k5 ib
    exact ⟨_,o0 r hp Fs t2 t3,λ_=>⟨t2,Fs,rfl,t1⟩⟩
  obtain ⟨N,n1,n2⟩:=hN
  refine ⟨Ry π l (some (Real.with r.g (r.o+off) (r.cap-off) N)),h.dK l kQ _ _ (Mi w _) (λr' b h1 h2=>?_) (λr' b h1 h2=>?_) (λm=>?_),?_⟩
  ·cases h1
   have h2:b=r.g:=h2
   exact ⟨.inl h2, .inl ⟨r,hp,h2▸h.1.Bu hp⟩⟩
  ·cases h1
   rcases h2 with h2|h2
   ·have h2:b=r.g:=h2
    subst h2
    have gz:=h.1.sub l r _ hp (h.1.Bu hp)
    exact ⟨(h.1.place l r _ hp gz).1,(h.1.place l r _ hp gz).2,λm r0 hm h3 h4=>hm (h.1.inj m l r0 r _ h3 hp h4 gz)⟩
   ·obtain ⟨h3,h4,_,h5⟩:=n1 b h2
    exact ⟨h3,h4,h5⟩
  ·exact Tq (tid:=tid) (λhf=>hA.1.2.2 hf) k1 (by rw [k2];congr 1;omega) (by omega) (by rw [Ol];omega) (λk u hu=>(k4 k u hu).2) (k3.cells λes z hc=>m.cells _ _ _ _ hc) n2
  ·refine ⟨⟨_,e.size,_,St.Ew st l _,rfl,by simp,?_⟩,λk hk=>Ek _ _ hk⟩
   rw [Eo,Ol]
   exact ⟨JW,rfl,by dsimp only [Real.with];omega,λIm=>by simpa [Real.with] using j9 (by dsimp only [Real.with] at Im;omega)⟩
end
end Go.Proofs.Ytfgfigkbgecfnaa
