/-
  Part 12 of the proof that the statement FnExactSolveTwoPhaseWithin holds.
-/
import Derived.Test.YtfgfigkbgecfnaaCSolveTwoPhaseWithin10
namespace Go.Proofs.Ytfgfigkbgecfnaa
open Go.RowKit
section
variable {P:Program} {T:Tab} {X:Ctx} {w w':World} {π:Pi} {H:List (Nat×OB)}
def Flat (w:World) (S:Nat->Prop) (e:Ty) (cl:List Value) (zs:List e.den):Prop:=
 cl.length=zs.length*e.size/\ ∀(i:Nat) (z:e.den),zs[i]?=some z-> ∃es:List Value,es.length=e.size/\(∀j u,es[j]?=some u->cl[i*e.size+j]?=some u)/\Cells w S e es z
theorem Flat.append {S:Nat->Prop} {e:Ty} {c1 c2:List Value} {z1 z2:List e.den} (h1:Flat w S e c1 z1) (h2:Flat w S e c2 z2):Flat w S e (c1++c2) (z1++z2):=by
 refine ⟨by simp [h1.1,h2.1,Dr],λi z hz=>?_⟩
 by_cases hi:i<z1.length
 ·rw [Au hi] at hz;obtain ⟨es,he,hc,hr⟩:=h1.2 i z hz;refine ⟨es,he,λj u hu=>?_,hr⟩;have:=hc j u hu;rw [Au (Ao.1 this).1];exact this
 ·rw [As (by omega)] at hz;obtain ⟨es,he,hc,hr⟩:=h2.2 _ z hz;refine ⟨es,he,λj u hu=>?_,hr⟩;have:=hc j u hu
  have e1:i*e.size=z1.length*e.size+(i-z1.length)*e.size:=by rw [<-Dr];congr 1;omega
  rw [As (by rw [h1.1];omega),h1.1,show i*e.size+j-z1.length*e.size=(i-z1.length)*e.size+j by omega];exact this
theorem Flat.cells {S S':Nat->Prop} {e:Ty} {cl:List Value} {zs:List e.den} (h:Flat w S e cl zs) (hc: ∀es z,Cells w S e es z->Cells w' S' e es z):Flat w' S' e cl zs:=
 ⟨h.1,λi z hz=>let ⟨es,a,b,c⟩:=h.2 i z hz;⟨es,a,b,hc es z c⟩⟩
theorem Flat.nil {S:Nat->Prop} {e:Ty} :Flat w S e [] []:=⟨by simp,λi z hz=>by simp at hz⟩
def Tp (w:World) (e:Ty) (cl:List Value) (zs:List e.den) (Fs:List (List Nat)):Prop:=
 Fs.length=zs.length/\ ∀(i:Nat) (z:e.den) (F:List Nat),zs[i]?=some z->Fs[i]?=some F-> ∃es:List Value,es.length=e.size/\(∀j u,es[j]?=some u->cl[i*e.size+j]?=some u)/\Dn w F e es z
theorem Tp.append {e:Ty} {c1 c2:List Value} {z1 z2:List e.den} {F1 F2:List (List Nat)} (hc:c1.length=z1.length*e.size) (h1:Tp w e c1 z1 F1) (h2:Tp w e c2 z2 F2):Tp w e (c1++c2) (z1++z2) (F1++F2):=by
 have hl:=h1.1;refine ⟨by simp [h1.1,h2.1],λi z F hz hF=>?_⟩
 by_cases hi:i<z1.length
 ·rw [Au hi] at hz;rw [Au (by omega)] at hF;obtain ⟨es,he,FY,hr⟩:=h1.2 i z F hz hF;refine ⟨es,he,λj u hu=>?_,hr⟩;have:=FY j u hu;rw [Au (Ao.1 this).1];exact this
 ·rw [As (by omega)] at hz;rw [As (by omega),hl] at hF;obtain ⟨es,he,FY,hr⟩:=h2.2 _ z F hz hF;refine ⟨es,he,λj u hu=>?_,hr⟩;have:=FY j u hu;have hle:z1.length*e.size<=i*e.size:=Fk _ (by omega);rw [As (by omega),<-this]
  congr 1
  rw [hc,Nat.sub_mul];omega
theorem Tp.Gd {e:Ty} {cl:List Value} {zs:List e.den} {Fs:List (List Nat)} (h:Tp w e cl zs Fs) (hs:w.heap.size<=w'.heap.size) (hk: ∀b∈List.flatten Fs,w'.heap[b]?=w.heap[b]?):Tp w' e cl zs Fs:=
 ⟨h.1,λi z F hz hF=>by
  obtain ⟨es,he,FY,hr⟩:=h.2 i z F hz hF
  exact ⟨es,he,FY,hr.Gd _ _ _ _ hs λb hb=>hk b (Hv.2 ⟨F,Cs hF,hb⟩)⟩⟩
theorem Tp.lt {e:Ty} {cl:List Value} {zs:List e.den} {Fs:List (List Nat)} (h:Tp w e cl zs Fs) (b:Nat) (hb:b∈List.flatten Fs):b<w.heap.size:=by
 obtain ⟨F,hF,hb⟩:=Hv.1 hb;obtain ⟨i,hi,rfl⟩:=Sa hF;have hl:=h.1;obtain ⟨es,_,_,hr⟩:=h.2 i (zs[i]'(by omega)) _ (Ad _) (Ad hi);exact hr.lt _ _ _ _ b hb
def Real.with (g o cap:Nat) (N:List Nat):Real:=⟨g,o,cap,λb=>b=g,λb=>b=g\/b∈N⟩
theorem Zv {g o cap:Nat} {N:List Nat} {fr tr:Bool} {e:Ty} {tid:TypeId} {zs:List e.den} {cl:List Value} {cur:Array Value} {ti:TypeId} (hB:fr=true->X.w0.heap.size<=g) (hg:w.heap[g]?=some (.cells cur ti (0,0)))
  (hs:cur.size=(o+cap)*e.size) (hm:cap<=maxLen) (hl:zs.length<=cap) (Ra: ∀k u,cl[k]?=some u->cur[o*e.size+k]?=some u) (hf:Flat w (Dk X.w0.heap.size X.Sc π fr) e cl zs)
  (ht:tr=true->(g::N).Nodup/\ ∃Fs,List.flatten Fs=N/\Tp w e cl zs Fs):
  Km X w π (some (Real.with g o cap N)) fr tr e tid zs:=by
 refine ⟨⟨rfl,λb hb=>hb,hB⟩,cur,_,hg,hs,hm,hl,λi z hz=>?_,λo7=>?_⟩
 ·obtain ⟨es,a,b,c⟩:=hf.2 i z hz;refine ⟨es,a,λj u hu=>?_,c⟩;have:=Ra _ u (b j u hu);rw [<-He,<-Dr] at this;exact this
 ·obtain ⟨hn,Fs,rfl,h1,h2⟩:=ht o7;refine ⟨Fs,h1,hn,λb hb=> .inr hb,λi z F hz hF=>?_⟩;obtain ⟨es,a,b,c⟩:=h2 i z F hz hF;refine ⟨es,a,λj u hu=>?_,c⟩;have:=Ra _ u (b j u hu);rw [<-He,<-Dr] at this;exact this
theorem jf {r:Real} {fr tr:Bool} {e:Ty} {tid:TypeId} {xs:List e.den} {off len:Nat} (h:Km X w π (some r) fr tr e tid xs) (hl:off+len<=xs.length):
  ∃cur cl ti,w.heap[r.g]?=some (.cells cur ti (0,0))/\cur.size=(r.o+r.cap)*e.size/\Flat w (Dk X.w0.heap.size X.Sc π fr) e cl ((xs.drop off).take len)/\
   (∀k u,cl[k]?=some u->k<len*e.size/\cur[(r.o+off)*e.size+k]?=some u)/\
   (tr=true-> ∃Fs,Tp w e cl ((xs.drop off).take len) Fs/\(r.g::List.flatten Fs).Nodup/\ ∀b∈List.flatten Fs,r.cl b):=by
 obtain ⟨h1,cur,ti,h2,h3,h4,h5,h6,h7⟩:=h
 have LF:((xs.drop off).take len).length=len:=by simp;omega
 have Jq:(r.o+off)*e.size+len*e.size<=cur.size:=by
  rw [<-Dr,h3];exact Fk _ (by omega)
 have Ak4: ∀k u,((cur.toList.drop ((r.o+off)*e.size)).take (len*e.size))[k]?=some u↔k<len*e.size/\cur[(r.o+off)*e.size+k]?=some u:=by
  intro k u;rw [Di];split
  ·rename_i hk;rw [Cp];simp [hk]
  ·rename_i hk;simp [hk]
 refine ⟨cur,(cur.toList.drop ((r.o+off)*e.size)).take (len*e.size),ti,h2,h3,⟨by rw [LF];simp;omega,λi z hz=>?_⟩,λk u hu=>(Ak4 k u).1 hu,λht=>?_⟩
 rotate_left
 ·obtain ⟨Fs,t1,t2,t3,t4⟩:=h7 ht;refine ⟨(Fs.drop off).take len,⟨by simp [t1],λi x F hx hF=>?_⟩,?_,λb hb=>t3 b (Te off len b hb)⟩
  ·have hi:i<len:=by
    have:=(Ao.1 hx).1;rw [LF] at this;exact this
   have hx':xs[off+i]?=some x:=by rw [Di,Ac hi,Cp] at hx;exact hx
   have hF':Fs[off+i]?=some F:=by rw [Di,Ac hi,Cp] at hF;exact hF
   obtain ⟨es,a,b,c⟩:=t4 (off+i) x F hx' hF';refine ⟨es,a,λj u hu=>(Ak4 _ u).2 ⟨?_,?_⟩,c⟩
   ·have hj:=(Ao.1 hu).1;have:(i+1)*e.size<=len*e.size:=Fk _ (by omega);rw [Dr,Wm] at this;omega
   ·have:=b j u hu;rw [<-He,Dr (r.o+off) i] at this;rw [<-He];exact this
  ·have:=Cn.1 t2;exact Cn.2 ⟨λhm=>this.1 (Te off len _ hm),mT off len this.2⟩
 have hi:i<len:=by have:=(Ao.1 hz).1;omega
 have hz':xs[off+i]?=some z:=by
  rw [Di,Ac hi,Cp] at hz;exact hz
 obtain ⟨es,a,b,c⟩:=h6 (off+i) z hz';refine ⟨es,a,λj u hu=>(Ak4 _ u).2 ⟨?_,?_⟩,c⟩
 ·have hj:=(Ao.1 hu).1;have:(i+1)*e.size<=len*e.size:=Fk _ (by omega);rw [Dr,Wm] at this;omega
 ·have:=b j u hu;rw [<-He,Dr (r.o+off) i] at this;rw [<-He];exact this
theorem ir {t ty e:TypeId} {i:TypeInfo} (hu:P.underlying t=some (.slice e)) (hi:P.info? e=some i) (b:Option Addr) (len cap:Nat) (y:Option Addr) (c:Nat) (hl:len<=cap):
  (Builtin.append_ #[t,t] ty #[.slice b len cap, .slice y 0 c]).run P w= .ok (.slice b len cap) w:=by
 cases b<;>cases y<;>simp [Builtin.append_,run_underlying hu,sizeOf,typeInfo,hi,Builtin.lenOf,hl,Builtin.firstCells,loadCells,loadCellsFrom,storeCells]
theorem aW {t ty e:TypeId} {i:TypeInfo} (hu:P.underlying t=some (.slice e)) (hi:P.info? e=some i) (g ob WU Am8:Nat) (cur:Array Value) (tid:TypeId) (hg:w.heap[g]?=some (.cells cur tid (0,0)))
  (a:Addr) (m c:Nat) (news:List Value) (hl:news.length=m*i.size) (Api: ∀j u,news[j]?=some u->w.cell? (a.add j)=some u) (h1: ∀u∈news,u.oneCell'=true)
  (GG:WU+m<=Am8) (Wz:ob+WU*i.size+news.length<=cur.size):
  (Builtin.append_ #[t,t] ty #[.slice (some ⟨g,ob,none⟩) WU Am8, .slice (some a) m c]).run P w=
   .ok (.slice (some ⟨g,ob,none⟩) (WU+m) Am8) (w.setRow g (Du cur.toList (ob+WU*i.size) news).toArray):=by
 have hf:=run_firstCells_some (P:=P) w i.size m a m c news hl Api;have Sd:=run_storeCells_at P g (ob+WU*i.size) tid news 0 cur w hg (by simpa using Wz) h1;simp only [El] at Sd;simp [Builtin.append_,run_underlying hu,sizeOf,typeInfo,hi,Builtin.lenOf,GG,hf,Addr.add_lit,Sd,Du]
theorem Vh (z:Array Value) (n:Nat):(Builtin.zeroCells z n).size=n*z.size:=by simp [Builtin.zeroCells]
theorem HR {l off len:Nat} {v:Value} {fr tr:Bool} {e:Ty} {tid:TypeId} {xs:List e.den} (hl:Ay H l=some (.arr fr tr e tid xs)) (h1:off+len<=xs.length) (h2:Ih (π l) e.size off len v):Bx X w π H (.at (.own l off len)) v:=
 OC (X:=X) (w:=w) hl h1 h2
theorem gl {st:St} {a:Act} (h:Bs X π st a w) (l:Nat) (ud:l<Bv) (fr tr:Bool) (e:Ty) (te:TypeId) (zs:List e.den) (cl:List Value) (cur:Array Value) (cap:Nat) (w1:World) (N:List Nat)
  (hw1:w1=w.drew.alloc (.cells cur te)\/w1=w.alloc (.cells cur te))
  (hs:cur.size=cap*e.size) (hm:cap<=maxLen) (hl:zs.length<=cap) (Ra: ∀(k:Nat) (u:Value),cl[k]?=some u->cur[k]?=some u) (hf:Flat w (Dk X.w0.heap.size X.Sc π fr) e cl zs)
  (hN: ∀b∈N,(X.w0.heap.size<=b\/X.gv b)/\b<w.heap.size/\ ∀m r0,m≠l->π m=some r0-> ¬r0.cl b) (ht:tr=true->N.Nodup/\ ∃Fs,List.flatten Fs=N/\Tp w e cl zs Fs):
  Bs X (Xp π l (some (Real.with w.heap.size 0 cap N))) (st.new l (.arr fr tr e te zs)) a w1/\
   ∀n,n=zs.length->Bx X w1 (Xp π l (some (Real.with w.heap.size 0 cap N))) (st.new l (.arr fr tr e te zs)).heap (.at (.own l 0 n)) (.slice (some ⟨w.heap.size,0,none⟩) n cap):=by
 have YQ:w.grownBy w1 ((π l).map (·.g)):=by
  rcases hw1 with rfl|rfl
  ·exact ⟨rfl,rfl,rfl,by simp,λk hk _=>Below.heap_alloc w.drew _ k hk⟩
  ·exact World.grownBy_alloc w _ _
 have l9:w1.heap[w.heap.size]?=some (.cells cur te (0,0)):=by
  rcases hw1 with rfl|rfl
  ·exact heap_alloc_new w.drew _
  ·exact heap_alloc_new w _
 have hold: ∀k,k<w.heap.size->w1.heap[k]?=w.heap[k]?:=by
  rcases hw1 with rfl|rfl
  ·exact λk hk=>Below.heap_alloc w.drew _ k hk
  ·exact λk hk=>Below.heap_alloc w _ k hk
 refine ⟨h.jL l ud _ _ YQ (λr b h1 h2=>?_) (λr b h1 h2=>?_) λm=>?_,λn hn=>HR (St.Hm st l _) (by omega) ?_⟩
 ·cases h1;have h2:b=w.heap.size:=h2;exact ⟨.inl h2, .inr (by omega)⟩
 ·cases h1;rcases h2 with h2|h2
  ·have h2:b=w.heap.size:=h2;subst h2;exact ⟨.inl h.1.below.size,Gv l9,λm r0 _ h3 h4=>by have:=(h.1.place m r0 _ h3 h4).2;omega⟩
  ·obtain ⟨h3,h4,h5⟩:=hN b h2;exact ⟨h3,Ep h4 YQ.size,h5⟩
 ·refine Zv (tid:=te) (λ_=>h.1.below.size) l9 (by simpa using hs) hm hl (by simpa using Ra) (hf.cells λes z hc=>m.cells _ _ _ _ hc) λo7=>?_;obtain ⟨n1,Fs,rfl,n2⟩:=ht o7;exact ⟨Cn.2 ⟨λhm=>by have:=(hN _ hm).2.1;omega,n1⟩,Fs,rfl,n2.Gd YQ.size λb hb=>hold b (n2.lt b hb)⟩
 ·rw [Gx];exact ⟨_,rfl,by dsimp only [Real.with];omega,λ_=>by simp [Real.with]⟩
theorem nB (hT:Ec P T) {st:St} {a:Act} (h:Bs X π st a w) {t te ty:TypeId} {e:Ty} (lL:T.elem t=some te) (Xv:T.ty te=some e) {l off len:Nat} (ud:l<Bv) {fr tr sA fr3 tr2:Bool} {xs ys:List e.den} {vb vy:Value} (h3f:fr3=(sA||e.flat))
  (hl:Ay st.heap l=some (.arr fr tr e te xs)) (hb:Bx X w π st.heap (.at (.own l off len)) vb) (hy:Cells w (Dk X.w0.heap.size X.Sc π sA) (.slice e) [vy] ys) (pJ:len+ys.length<=Db)
  (hy2:tr2=true->e.flat=true\/ ∃F,Dn w F (.slice e) [vy] ys/\iN X w π F):
  ∃v' w' π',(Builtin.append_ #[t,t] ty #[vb,vy]).run P w= .ok v' w'/\Bs X π' (st.new l (.arr (fr&&fr3) (tr&&tr2) e te (((xs.drop off).take len)++ys))) a w'/\
   Bx X w' π' (st.new l (.arr (fr&&fr3) (tr&&tr2) e te (((xs.drop off).take len)++ys))).heap (.at (.own l 0 (len+ys.length))) v':=by
 have hu:=hT.elem t te lL;obtain ⟨i,hi,Wi,sa,tZ⟩:=(hT.ty te e Xv).info;obtain ⟨hlen,wo⟩:=Pe (X:=X) (w:=w) hb hl;have hA:=(h.1.heap l).Se hl;simp only [Cq] at hA
 have Ra:((xs.drop off).take len).length=len:=by simp;omega
 have tW:(len+ys.length)*i.bytes<=140737488355328:=by
  have:(len+ys.length)*i.bytes<=4294967296*256:=Nat.mul_le_mul pJ sa;omega
 have jt:len+ys.length<=maxLen:=by unfold Db at pJ;simp only [maxLen];omega
 obtain ⟨ad,c,rfl,ND⟩:=vn hy
 have hzs:(Cj e (Cd e)).cells.size=i.size:=by
  rw [Wi]
  have hz: ∀τ:Ty,(Cd τ).length=τ.size:=by
   intro τ
   induction τ with
   |pair a r iL iH=>simp [Cd,Ty.size,iL,iH]
   |_=>rfl
  cases Sd:e.Ar with
  |true=>simp [Cj,Sd,Value.cells,hz]
  |false=>cases e<;>simp_all [Ty.Ar,Cj,Cd,Value.cells,Ty.size]
 have wu: ∀r,π l=some r-> ∀Fs:List (List Nat),(r.g::List.flatten Fs).Nodup->(∀b∈List.flatten Fs,r.cl b)->
   ∀b∈List.flatten Fs,(X.w0.heap.size<=b\/X.gv b)/\b<w.heap.size/\b≠r.g/\ ∀m r0,m≠l->π m=some r0-> ¬r0.cl b:= λr hr Fs hn hc b hb=>
  ⟨(h.1.place l r b hr (hc b hb)).1,(h.1.place l r b hr (hc b hb)).2,λe=>(Cn.1 hn).1 (e▸hb),λm r0 hm h1 h2=>hm (h.1.inj m l r0 r b h1 hr h2 (hc b hb))⟩
 by_cases hm0:ys= []
 ·
  subst hm0;simp only [iQ,Ex,El]
  cases hp:π l with
  |none=>
   rw [hp] at wo hA;obtain ⟨rfl,rfl,rfl⟩:=wo;have hr:=ir (P:=P) (w:=w) (ty:=ty) hu hi none 0 0 ad c (Ap _);refine ⟨_,w,Xp π l none,hr,h.replace l ud none _ (Qc w _) (λr hr=>by cases hr) (λ_=>?_),?_⟩
   ·simp only [Cq,Km];simp
   ·exact HR (St.Hm st l _) (by simp) (by rw [Gx];exact ⟨rfl,rfl,rfl⟩)
  |some r=>
   rw [hp] at wo hA;obtain ⟨adb,rfl,qT,lE⟩:=wo;have hr:=ir (P:=P) (w:=w) (ty:=ty) hu hi (some adb) len (r.cap-off) ad c (by omega);obtain ⟨cur,cl,ti,k1,k2,k3,k4,k5⟩:=jf hA hlen
   have tX:r.cap<=maxLen:=by obtain ⟨_,_,_,_,_,h4,_⟩:=hA;exact h4
   have hN: ∃N:List Nat,(∀b∈N,(X.w0.heap.size<=b\/X.gv b)/\b<w.heap.size/\b≠r.g/\ ∀m r0,m≠l->π m=some r0-> ¬r0.cl b)/\((tr&&tr2)=true->(r.g::N).Nodup/\ ∃Fs,List.flatten Fs=N/\Tp w e cl ((xs.drop off).take len) Fs):=by
    cases o7:(tr&&tr2) with
    |false=>exact ⟨[],by simp,λh=>by cases h⟩
    |true=>
     simp only [Ak] at o7;obtain ⟨Fs,t1,t2,t3⟩:=k5 o7.1;exact ⟨_,wu r hp Fs t2 t3,λ_=>⟨t2,Fs,rfl,t1⟩⟩
   obtain ⟨N,n1,n2⟩:=hN;refine ⟨_,w,Xp π l (some (Real.with r.g (r.o+off) (r.cap-off) N)),hr,h.jL l ud _ _ (Qc w _) (λr' b h1 h2=>?_) (λr' b h1 h2=>?_) (λm=>?_),?_⟩
   ·cases h1;have h2:b=r.g:=h2;exact ⟨.inl h2, .inl ⟨r,hp,h2▸h.1.Df hp⟩⟩
   ·cases h1;rcases h2 with h2|h2
    ·have h2:b=r.g:=h2;subst h2;have mF:=h.1.sub l r _ hp (h.1.Df hp);exact ⟨(h.1.place l r _ hp mF).1,(h.1.place l r _ hp mF).2,λm r0 hm h3 h4=>hm (h.1.inj m l r0 r _ h3 hp h4 mF)⟩
    ·obtain ⟨h3,h4,_,h5⟩:=n1 b h2;exact ⟨h3,h4,h5⟩
   ·exact Zv (tid:=te) (λhf=>hA.1.2.2 (by simp only [Ak] at hf;exact hf.1)) k1 (by rw [k2];congr 1;omega) (by omega) (by rw [Ra];omega) (λk u hu=>(k4 k u hu).2) (k3.cells λes z hc=>(m.cells _ _ _ _ hc).and_left) n2
   ·refine HR (St.Hm st l _) (by rw [Ra];omega) ?_;rw [Gx];exact ⟨adb,rfl,by dsimp only [Real.with];omega,λKr=>by simpa [Real.with] using lE (by dsimp only [Real.with] at Kr;omega)⟩
 ·rcases ND with h0|⟨g,o,rfl,news,n1,n2,n3,n5,n4⟩
  ·exact absurd h0 hm0
  ·have mH:0<ys.length:=by
    rcases Uh ys.length with h0|h0
    ·exact absurd (Cr h0) hm0
    ·exact h0
   have n1':news.length=ys.length*i.size:=by rw [Wi];exact n1
   have n2': ∀j u,news[j]?=some u->w.cell? ((⟨g,o,none⟩:Addr).add j)=some u:= λj u hu=>by rw [Addr.add_lit];exact n2 j u hu
   have hfn:Flat w (Dk X.w0.heap.size X.Sc π fr3) e news ys:=⟨n1,λi y hy=>by
    obtain ⟨es,k1,k2,k3⟩:=n4 i y hy;refine ⟨es,k1,k2,?_⟩
    cases hef:e.flat with
    |true=>exact Cells.flat e es y hef k3
    |false=>rw [hef,iK] at h3f;rw [h3f];exact k3⟩
   have SP: ∀zs:List e.den,(((xs.drop off).take len)++ys).length=len+ys.length:= λ_=>by simp [Ra]
   have new:tr2=true-> ∃Fs,Tp w e news ys Fs/\iN X w π (List.flatten Fs):=by
    intro ht2;rcases hy2 ht2 with YP|⟨F,f1,f2⟩
    ·refine ⟨List.replicate ys.length [],⟨by simp,λi z Fi hz hF=>?_⟩,by simp,by simp⟩;obtain ⟨es,q1,q2,q3⟩:=hfn.2 i z hz;have:Fi= []:=Gf (Cs hF);subst this;exact ⟨es,q1,q2,Yt e es z YP q3⟩
    simp only [Dn] at f1;obtain ⟨a0,Bdb,Azw,e0,e3,e4,f1⟩:=f1;rcases f1 with ⟨f1,_⟩|⟨ad',g',o',Fs,ea,ea',fz,rfl,hFl,f1⟩
    ·exact absurd f1 hm0
    ·have ea':=ea' (by omega);subst ea';simp only [Hi,Value.slice.injEq,bz] at e0;obtain ⟨e0,_⟩:=e0;rw [ea] at e0;simp only [Aa,Addr.mk.injEq,bz] at e0;obtain ⟨rfl,rfl⟩:=e0;refine ⟨Fs,⟨hFl,λi z Fi hz hF=>?_⟩,(Cn.1 f2.1).2,λb hb=>f2.2 b (At _ hb)⟩;obtain ⟨es,q1,q2,q3⟩:=f1 i z Fi hz hF;refine ⟨es,q1,λj u hu=>?_,q3⟩;have hi:=(Ao.1 hz).1;have hj:=(Ao.1 hu).1;refine n5 _ u ?_ (by have:=q2 j u hu;rw [He] at this;exact this);have:(i+1)*e.size<=ys.length*e.size:=Fk _ (by omega);rw [Dr,Wm] at this;omega
   cases hp:π l with
   |none=>
    rw [hp] at wo hA;obtain ⟨rfl,rfl,rfl⟩:=wo;have hr:=run_append_nil (P:=P) w t ty te i _ hu hi tZ ⟨g,o,none⟩ ys.length c news n1' n2' mH (by simp only [maxLen] at jt;omega) (by have:=tW;rw [Bl] at this;omega);have wG:=grownCap_ge w ys.length 0 te;have hcm:=grownCap_le_maxLen w ys.length 0 te (by omega)
    have hN: ∃N:List Nat,(∀b∈N,(X.w0.heap.size<=b\/X.gv b)/\b<w.heap.size/\ ∀m r0,m≠l->π m=some r0-> ¬r0.cl b)/\((tr&&tr2)=true->N.Nodup/\ ∃Fs,List.flatten Fs=N/\Tp w e news ((List.take 0 (List.drop 0 xs))++ys) Fs):=by
     cases o7:(tr&&tr2) with
     |false=>exact ⟨[],by simp,λh=>by cases h⟩
     |true=>
      simp only [Ak] at o7;obtain ⟨Fs,t1,t2⟩:=new o7.2;exact ⟨_,λb hb=>⟨(t2.2 b hb).1,(t2.2 b hb).2.1,λm r0 _=>(t2.2 b hb).2.2 m r0⟩,λ_=>⟨t2.1,Fs,rfl,by simpa using t1⟩⟩
    obtain ⟨N,q1,q2⟩:=hN
    have:=gl h l ud (fr&&fr3) (tr&&tr2) e te ((List.take 0 (List.drop 0 xs))++ys) news (news.toArray++Builtin.zeroCells (Cj e (Cd e)).cells (grownCap w ys.length 0 te-ys.length)) (grownCap w ys.length 0 te) _ N (.inl rfl) (by
      rw [Array.size_append,Hk,Vh,hzs,n1,Wi,<-Dr];congr 1;omega) hcm (by simpa using wG) (λk u hu=>by
      rw [Uf (by simpa using (Ao.1 hu).1)];simpa using hu) (by simpa using hfn.cells λes z hc=>hc.and_right) q1 q2
    refine ⟨_,_,_,hr,this.1,?_⟩;have:=this.2 ys.length (by simp);simpa using this
   |some r=>
    rw [hp] at wo hA;obtain ⟨adb,rfl,qT,lE⟩:=wo;obtain ⟨cur,cl,ti,k1,k2,k3,k4,k5⟩:=jf hA hlen
    have tX:r.cap<=maxLen:=by obtain ⟨_,_,_,_,_,h4,_⟩:=hA;exact h4
    have k3l:cl.length=len*e.size:=by rw [k3.1,Ra]
    have hN: ∃N:List Nat,(∀b∈N,(X.w0.heap.size<=b\/X.gv b)/\b<w.heap.size/\b≠r.g/\ ∀m r0,m≠l->π m=some r0-> ¬r0.cl b)/\((tr&&tr2)=true->N.Nodup/\ ∃Fs,List.flatten Fs=N/\Tp w e (cl++news) (((xs.drop off).take len)++ys) Fs):=by
     cases o7:(tr&&tr2) with
     |false=>exact ⟨[],by simp,λh=>by cases h⟩
     |true=>
      simp only [Ak] at o7;obtain ⟨Fs,t1,t2,t3⟩:=k5 o7.1;obtain ⟨Fs2,t4,t5⟩:=new o7.2;have ho:=wu r hp Fs t2 t3;refine ⟨List.flatten (Fs++Fs2),λb hb=>?_,λ_=>⟨?_,Fs++Fs2,rfl,Tp.append (by rw [k3l,Ra]) t1 t4⟩⟩
      ·rw [List.flatten_append] at hb;rcases Be.1 hb with hb|hb
       ·exact ho b hb
       ·have:=t5.2 b hb;exact ⟨this.1,this.2.1,λe=>this.2.2 l r hp (e▸h.1.sub l r _ hp (h.1.Df hp)),λm r0 _=>this.2.2 m r0⟩
      ·rw [List.flatten_append];refine Ee.2 ⟨(Cn.1 t2).2,t5.1,λb hb b' sD e=>?_⟩;subst e;exact (t5.2 b sD).2.2 l r hp (t3 b hb)
    obtain ⟨N,q1,q2⟩:=hN
    by_cases GG:len+ys.length<=r.cap-off
    ·
     have Auj:=lE (by omega);subst Auj
     have Wz:(r.o+off)*e.size+len*i.size+news.length<=cur.size:=by
      rw [Wi,n1,<-Dr,<-Dr,k2];exact Fk _ (by omega)
     have ak:(r.o+off)*e.size+len*i.size+news.length<=cur.toList.length:=by simpa using Wz
     have hr:=aW (P:=P) (w:=w) (ty:=ty) hu hi r.g ((r.o+off)*e.size) len (r.cap-off) cur ti k1 ⟨g,o,none⟩ ys.length c news n1' n2' n3 GG Wz;refine ⟨_,_,Xp π l (some (Real.with r.g (r.o+off) (r.cap-off) N)),hr,h.jL l ud _ _ (by rw [hp];exact Oe w r.g _) (λr' b h1 h2=>?_) (λr' b h1 h2=>?_) (λm=>?_),?_⟩
     ·cases h1;have h2:b=r.g:=h2;exact ⟨.inl h2, .inl ⟨r,hp,h2▸h.1.Df hp⟩⟩
     ·cases h1;rcases h2 with h2|h2
      ·have h2:b=r.g:=h2;subst h2;have mF:=h.1.sub l r _ hp (h.1.Df hp);exact ⟨(h.1.place l r _ hp mF).1,by simpa using (h.1.place l r _ hp mF).2,λm r0 hm h3 h4=>hm (h.1.inj m l r0 r _ h3 hp h4 mF)⟩
      ·obtain ⟨h3,h4,_,h5⟩:=q1 b h2;exact ⟨h3,by simpa using h4,h5⟩
     ·refine Zv (tid:=te) (cl:=cl++news) (λhf=>hA.1.2.2 (by simp only [Ak] at hf;exact hf.1)) (setRow_heap w r.g cur _ ti _ k1) ?_ (by omega) (by rw [SP xs];omega) (λk u hu=>?_)
       (((k3.cells λes z hc=>(m.cells _ _ _ _ hc).and_left)).append (hfn.cells λes z hc=>(m.cells _ _ _ _ hc).and_right)) (λo7=>?_)
      ·rw [Hk,Jf _ _ _ ak,Yf,k2];congr 1;omega
      ·rw [Io,Im _ _ _ _ ak]
       by_cases hk:k<cl.length
       ·rw [Au hk] at hu;rw [Ac (by rw [Wi];omega)];simpa using (k4 k u hu).2
       ·rw [As (by omega)] at hu;have:=(Ao.1 hu).1;rw [Ai (by rw [Wi];omega),Ac (by rw [Wi];omega)];rw [show (r.o+off)*e.size+k-((r.o+off)*e.size+len*i.size)=k-cl.length by rw [Wi,k3l];omega];exact hu
      ·obtain ⟨z1,Fs,rfl,z2⟩:=q2 o7;exact ⟨Cn.2 ⟨λhm=>(q1 _ hm).2.2.1 rfl,z1⟩,Fs,rfl,z2.Gd (by simp) λb hb=>setRow_other w r.g b _ (q1 b hb).2.2.1⟩
     ·refine HR (St.Hm st l _) (by rw [SP xs];omega) ?_;rw [Gx];exact ⟨_,rfl,by dsimp only [Real.with];omega,λ_=>by simp [Real.with]⟩
    ·
     have hold: ∀j u,cl[j]?=some u->w.cell? (adb.add j)=some u:=by
      intro j u hu;obtain ⟨q1,q2⟩:=k4 j u hu
      have ud:0<len:=by
       rcases Uh len with h0|h0
       ·rw [h0] at q1;simp at q1
       ·exact h0
      rw [lE (by omega),Addr.add_lit,cellOf k1];exact q2
     have hr:=run_append_grow (P:=P) w t ty te i _ hu hi tZ adb len (r.cap-off) cl (by rw [Wi];exact k3l) hold ⟨g,o,none⟩ ys.length c news n1' n2' (by omega) (by simp only [maxLen] at jt;omega) (growslice_fits (by omega) tW);have wG:=grownCap_ge w (len+ys.length) (r.cap-off) te;have hcm:=grownCap_le_maxLen w (len+ys.length) (r.cap-off) te jt
     have:=gl h l ud (fr&&fr3) (tr&&tr2) e te (((xs.drop off).take len)++ys) (cl++news) (cl.toArray++news.toArray++Builtin.zeroCells (Cj e (Cd e)).cells (grownCap w (len+ys.length) (r.cap-off) te-(len+ys.length))) (grownCap w (len+ys.length) (r.cap-off) te) _ N (.inl rfl) (by
       rw [Array.size_append,Array.size_append,Hk,Hk,Vh,hzs,k3l,n1,Wi,<-Dr,<-Dr];congr 1;omega) hcm (by rw [SP xs];exact wG) (λk u hu=>by
       have hk:=(Ao.1 hu).1;rw [Uf (by simpa using hk)]
       simpa using hu) ((k3.cells λes z hc=>hc.and_left).append (hfn.cells λes z hc=>hc.and_right)) (λb hb=>⟨(q1 b hb).1,(q1 b hb).2.1,(q1 b hb).2.2.2⟩) q2
     exact ⟨_,_,_,hr,this.1,this.2 _ (SP xs).symm⟩
theorem uV {st:St} {a:Act} (h:Bs X π st a w) {l off len:Nat} {fr tr:Bool} {e:Ty} {tid:TypeId} {xs:List e.den} (ud:l<Bv) (hl:Ay st.heap l=some (.arr fr tr e tid xs)) {v:Value} (hb:Hw X w π st.heap (.own l off len) v):
  ∃π',Bs X π' (st.new l (.arr fr tr e tid ((xs.drop off).take len))) a w/\Hw X w π' (st.new l (.arr fr tr e tid ((xs.drop off).take len))).heap (.own l 0 ((xs.drop off).take len).length) v/\ ∀k,k≠l->π' k=π k:=by
 obtain ⟨hlen,wo⟩:=Pe (X:=X) (w:=w) hb hl;have hA:=(h.1.heap l).Se hl;simp only [Cq] at hA
 have Ra:((xs.drop off).take len).length=len:=by simp;omega
 have wu: ∀r,π l=some r-> ∀Fs:List (List Nat),(r.g::List.flatten Fs).Nodup->(∀b∈List.flatten Fs,r.cl b)->
   ∀b∈List.flatten Fs,(X.w0.heap.size<=b\/X.gv b)/\b<w.heap.size/\b≠r.g/\ ∀m r0,m≠l->π m=some r0-> ¬r0.cl b:= λr hr Fs hn hc b hb=>
  ⟨(h.1.place l r b hr (hc b hb)).1,(h.1.place l r b hr (hc b hb)).2,λe=>(Cn.1 hn).1 (e▸hb),λm r0 hm h1 h2=>hm (h.1.inj m l r0 r b h1 hr h2 (hc b hb))⟩
 cases hp:π l with
 |none=>
  rw [hp] at wo hA;obtain ⟨rfl,rfl,rfl⟩:=wo;refine ⟨Xp π l none,h.replace l ud none _ (Qc w _) (λr hr=>by cases hr) (λ_=>?_),?_⟩
  ·simp only [Cq,Km];simp
  ·exact ⟨⟨_,e.size,_,St.Hm st l _,rfl,by simp,by rw [Gx];exact ⟨rfl,rfl,by simp⟩⟩,λk hk=>Gw _ _ hk⟩
 |some r=>
  rw [hp] at wo hA;obtain ⟨adb,rfl,qT,lE⟩:=wo;obtain ⟨cur,cl,ti,k1,k2,k3,k4,k5⟩:=jf hA hlen
  have tX:r.cap<=maxLen:=by obtain ⟨_,_,_,_,_,h4,_⟩:=hA;exact h4
  have hN: ∃N:List Nat,(∀b∈N,(X.w0.heap.size<=b\/X.gv b)/\b<w.heap.size/\b≠r.g/\ ∀m r0,m≠l->π m=some r0-> ¬r0.cl b)/\(tr=true->(r.g::N).Nodup/\ ∃Fs,List.flatten Fs=N/\Tp w e cl ((xs.drop off).take len) Fs):=by
   cases o7:tr with
   |false=>exact ⟨[],by simp,λh=>by cases h⟩
   |true=>
    obtain ⟨Fs,t1,t2,t3⟩:=k5 o7;exact ⟨_,wu r hp Fs t2 t3,λ_=>⟨t2,Fs,rfl,t1⟩⟩
  obtain ⟨N,n1,n2⟩:=hN;refine ⟨Xp π l (some (Real.with r.g (r.o+off) (r.cap-off) N)),h.jL l ud _ _ (Qc w _) (λr' b h1 h2=>?_) (λr' b h1 h2=>?_) (λm=>?_),?_⟩
  ·cases h1;have h2:b=r.g:=h2;exact ⟨.inl h2, .inl ⟨r,hp,h2▸h.1.Df hp⟩⟩
  ·cases h1;rcases h2 with h2|h2
   ·have h2:b=r.g:=h2;subst h2;have mF:=h.1.sub l r _ hp (h.1.Df hp);exact ⟨(h.1.place l r _ hp mF).1,(h.1.place l r _ hp mF).2,λm r0 hm h3 h4=>hm (h.1.inj m l r0 r _ h3 hp h4 mF)⟩
   ·obtain ⟨h3,h4,_,h5⟩:=n1 b h2;exact ⟨h3,h4,h5⟩
  ·exact Zv (tid:=tid) (λhf=>hA.1.2.2 hf) k1 (by rw [k2];congr 1;omega) (by omega) (by rw [Ra];omega) (λk u hu=>(k4 k u hu).2) (k3.cells λes z hc=>m.cells _ _ _ _ hc) n2
  ·refine ⟨⟨_,e.size,_,St.Hm st l _,rfl,by simp,?_⟩,λk hk=>Gw _ _ hk⟩;rw [Gx,Ra];exact ⟨adb,rfl,by dsimp only [Real.with];omega,λKr=>by simpa [Real.with] using lE (by dsimp only [Real.with] at Kr;omega)⟩
end
end Go.Proofs.Ytfgfigkbgecfnaa
