/-
  Part 12 of the proof that the statement FnPatterns holds.
-/
import Derived.Test.YtkkdpknjohcekaaGreatCFPatterns10
namespace Go.Proofs.YtkkdpknjohcekaaGreat
open Go.RowKit
section
variable {P:Program} {T:Tab} {X:Ctx} {w w':World} {π:Pi} {H:List (Nat×OB)}
def Flat (w:World) (S:Nat->Prop) (e:Ty) (cl:List Value) (zs:List e.den):Prop:=
 cl.length=zs.length*e.size/\ ∀(i:Nat) (z:e.den),zs[i]?=some z-> ∃es:List Value,es.length=e.size/\(∀j u,es[j]?=some u->cl[i*e.size+j]?=some u)/\Cells w S e es z
theorem Flat.append {S:Nat->Prop} {e:Ty} {c1 c2:List Value} {z1 z2:List e.den} (h1:Flat w S e c1 z1) (h2:Flat w S e c2 z2):Flat w S e (c1++c2) (z1++z2):=by
 refine ⟨by simp [h1.1,h2.1,Dj],λi z hz=>?_⟩
 by_cases hi:i<z1.length
 ·rw [As hi] at hz
  obtain ⟨es,he,hc,hr⟩:=h1.2 i z hz
  refine ⟨es,he,λj u hu=>?_,hr⟩
  have:=hc j u hu
  rw [As (An.1 this).1];exact this
 ·rw [Ar (by omega)] at hz
  obtain ⟨es,he,hc,hr⟩:=h2.2 _ z hz
  refine ⟨es,he,λj u hu=>?_,hr⟩
  have:=hc j u hu
  have e1:i*e.size=z1.length*e.size+(i-z1.length)*e.size:=by rw [<-Dj];congr 1;omega
  rw [Ar (by rw [h1.1];omega),h1.1,show i*e.size+j-z1.length*e.size=(i-z1.length)*e.size+j by omega]
  exact this
theorem Flat.cells {S S':Nat->Prop} {e:Ty} {cl:List Value} {zs:List e.den} (h:Flat w S e cl zs) (hc: ∀es z,Cells w S e es z->Cells w' S' e es z):Flat w' S' e cl zs:=
 ⟨h.1,λi z hz=>let ⟨es,a,b,c⟩:=h.2 i z hz;⟨es,a,b,hc es z c⟩⟩
theorem Flat.nil {S:Nat->Prop} {e:Ty} :Flat w S e [] []:=⟨by simp,λi z hz=>by simp at hz⟩
def Sy (w:World) (e:Ty) (cl:List Value) (zs:List e.den) (Fs:List (List Nat)):Prop:=
 Fs.length=zs.length/\ ∀(i:Nat) (z:e.den) (F:List Nat),zs[i]?=some z->Fs[i]?=some F-> ∃es:List Value,es.length=e.size/\(∀j u,es[j]?=some u->cl[i*e.size+j]?=some u)/\Dg w F e es z
theorem Sy.append {e:Ty} {c1 c2:List Value} {z1 z2:List e.den} {F1 F2:List (List Nat)} (hc:c1.length=z1.length*e.size) (h1:Sy w e c1 z1 F1) (h2:Sy w e c2 z2 F2):Sy w e (c1++c2) (z1++z2) (F1++F2):=by
 have hl:=h1.1
 refine ⟨by simp [h1.1,h2.1],λi z F hz hF=>?_⟩
 by_cases hi:i<z1.length
 ·rw [As hi] at hz
  rw [As (by omega)] at hF
  obtain ⟨es,he,xz,hr⟩:=h1.2 i z F hz hF
  refine ⟨es,he,λj u hu=>?_,hr⟩
  have:=xz j u hu
  rw [As (An.1 this).1];exact this
 ·rw [Ar (by omega)] at hz
  rw [Ar (by omega),hl] at hF
  obtain ⟨es,he,xz,hr⟩:=h2.2 _ z F hz hF
  refine ⟨es,he,λj u hu=>?_,hr⟩
  have:=xz j u hu
  have hle:z1.length*e.size<=i*e.size:=Eo _ (by omega)
  rw [Ar (by omega),<-this]
  congr 1
  rw [hc,Nat.sub_mul];omega
theorem Sy.Fk {e:Ty} {cl:List Value} {zs:List e.den} {Fs:List (List Nat)} (h:Sy w e cl zs Fs) (hs:w.heap.size<=w'.heap.size) (hk: ∀b∈List.flatten Fs,w'.heap[b]?=w.heap[b]?):Sy w' e cl zs Fs:=
 ⟨h.1,λi z F hz hF=>by
  obtain ⟨es,he,xz,hr⟩:=h.2 i z F hz hF
  exact ⟨es,he,xz,hr.Fk _ _ _ _ hs λb hb=>hk b (Hu.2 ⟨F,Cl hF,hb⟩)⟩⟩
theorem Sy.lt {e:Ty} {cl:List Value} {zs:List e.den} {Fs:List (List Nat)} (h:Sy w e cl zs Fs) (b:Nat) (hb:b∈List.flatten Fs):b<w.heap.size:=by
 obtain ⟨F,hF,hb⟩:=Hu.1 hb
 obtain ⟨i,hi,rfl⟩:=Nn hF
 have hl:=h.1
 obtain ⟨es,_,_,hr⟩:=h.2 i (zs[i]'(by omega)) _ (Ac _) (Ac hi)
 exact hr.lt _ _ _ _ b hb
def Real.with (g o cap:Nat) (N:List Nat):Real:=⟨g,o,cap,λb=>b=g,λb=>b=g\/b∈N⟩
theorem Zg {g o cap:Nat} {N:List Nat} {fr tr:Bool} {e:Ty} {tid:TypeId} {zs:List e.den} {cl:List Value} {cur:Array Value} {ti:TypeId} (hB:fr=true->X.w0.heap.size<=g) (hg:w.heap[g]?=some (.cells cur ti (0,0)))
  (hs:cur.size=(o+cap)*e.size) (hm:cap<=maxLen) (hl:zs.length<=cap) (Pc: ∀k u,cl[k]?=some u->cur[o*e.size+k]?=some u) (hf:Flat w (Da X.w0.heap.size X.Sc π fr) e cl zs)
  (ht:tr=true->(g::N).Nodup/\ ∃Fs,List.flatten Fs=N/\Sy w e cl zs Fs):
  Kg X w π (some (Real.with g o cap N)) fr tr e tid zs:=by
 refine ⟨⟨rfl,λb hb=>hb,hB⟩,cur,_,hg,hs,hm,hl,λi z hz=>?_,λnB=>?_⟩
 ·obtain ⟨es,a,b,c⟩:=hf.2 i z hz
  refine ⟨es,a,λj u hu=>?_,c⟩
  have:=Pc _ u (b j u hu)
  rw [<-Ha,<-Dj] at this
  exact this
 ·obtain ⟨hn,Fs,rfl,h1,h2⟩:=ht nB
  refine ⟨Fs,h1,hn,λb hb=> .inr hb,λi z F hz hF=>?_⟩
  obtain ⟨es,a,b,c⟩:=h2 i z F hz hF
  refine ⟨es,a,λj u hu=>?_,c⟩
  have:=Pc _ u (b j u hu)
  rw [<-Ha,<-Dj] at this
  exact this
theorem iN {r:Real} {fr tr:Bool} {e:Ty} {tid:TypeId} {xs:List e.den} {off len:Nat} (h:Kg X w π (some r) fr tr e tid xs) (hl:off+len<=xs.length):
  ∃cur cl ti,w.heap[r.g]?=some (.cells cur ti (0,0))/\cur.size=(r.o+r.cap)*e.size/\Flat w (Da X.w0.heap.size X.Sc π fr) e cl ((xs.drop off).take len)/\
   (∀k u,cl[k]?=some u->k<len*e.size/\cur[(r.o+off)*e.size+k]?=some u)/\
   (tr=true-> ∃Fs,Sy w e cl ((xs.drop off).take len) Fs/\(r.g::List.flatten Fs).Nodup/\ ∀b∈List.flatten Fs,r.cl b):=by
 obtain ⟨h1,cur,ti,h2,h3,h4,h5,h6,h7⟩:=h
 have hll:((xs.drop off).take len).length=len:=by simp;omega
 have Zw:(r.o+off)*e.size+len*e.size<=cur.size:=by
  rw [<-Dj,h3];exact Eo _ (by omega)
 have Aig: ∀k u,((cur.toList.drop ((r.o+off)*e.size)).take (len*e.size))[k]?=some u↔k<len*e.size/\cur[(r.o+off)*e.size+k]?=some u:=by
  intro k u
  rw [Cx]
  split
  ·rename_i hk;rw [De];simp [hk]
  ·rename_i hk;simp [hk]
 refine ⟨cur,(cur.toList.drop ((r.o+off)*e.size)).take (len*e.size),ti,h2,h3,⟨by rw [hll];simp;omega,λi z hz=>?_⟩,λk u hu=>(Aig k u).1 hu,λht=>?_⟩
 rotate_left
 ·obtain ⟨Fs,t1,t2,t3,t4⟩:=h7 ht
  refine ⟨(Fs.drop off).take len,⟨by simp [t1],λi x F hx hF=>?_⟩,?_,λb hb=>t3 b (Sl off len b hb)⟩
  ·have hi:i<len:=by
    have:=(An.1 hx).1
    rw [hll] at this;exact this
   have hx':xs[off+i]?=some x:=by rw [Cx,Ab hi,De] at hx;exact hx
   have hF':Fs[off+i]?=some F:=by rw [Cx,Ab hi,De] at hF;exact hF
   obtain ⟨es,a,b,c⟩:=t4 (off+i) x F hx' hF'
   refine ⟨es,a,λj u hu=>(Aig _ u).2 ⟨?_,?_⟩,c⟩
   ·have hj:=(An.1 hu).1
    have:(i+1)*e.size<=len*e.size:=Eo _ (by omega)
    rw [Dj,Sh] at this
    omega
   ·have:=b j u hu
    rw [<-Ha,Dj (r.o+off) i] at this
    rw [<-Ha];exact this
  ·have:=Ce.1 t2
   exact Ce.2 ⟨λhm=>this.1 (Sl off len _ hm),mj off len this.2⟩
 have hi:i<len:=by have:=(An.1 hz).1;omega
 have hz':xs[off+i]?=some z:=by
  rw [Cx,Ab hi,De] at hz;exact hz
 obtain ⟨es,a,b,c⟩:=h6 (off+i) z hz'
 refine ⟨es,a,λj u hu=>(Aig _ u).2 ⟨?_,?_⟩,c⟩
 ·have hj:=(An.1 hu).1
  have:(i+1)*e.size<=len*e.size:=Eo _ (by omega)
  rw [Dj,Sh] at this
  omega
 ·have:=b j u hu
  rw [<-Ha,Dj (r.o+off) i] at this
  rw [<-Ha];exact this
theorem gL {t ty e:TypeId} {i:TypeInfo} (hu:P.underlying t=some (.slice e)) (hi:P.info? e=some i) (b:Option Addr) (len cap:Nat) (y:Option Addr) (c:Nat) (hl:len<=cap):
  (Builtin.append_ #[t,t] ty #[.slice b len cap, .slice y 0 c]).run P w= .ok (.slice b len cap) w:=by
 cases b<;>cases y<;>simp [Builtin.append_,run_underlying hu,sizeOf,typeInfo,hi,Builtin.lenOf,hl,Builtin.firstCells,loadCells,loadCellsFrom,storeCells]
theorem aG {t ty e:TypeId} {i:TypeInfo} (hu:P.underlying t=some (.slice e)) (hi:P.info? e=some i) (g ob VZ Ak8:Nat) (cur:Array Value) (tid:TypeId) (hg:w.heap[g]?=some (.cells cur tid (0,0)))
  (a:Addr) (m c:Nat) (news:List Value) (hl:news.length=m*i.size) (Amx: ∀j u,news[j]?=some u->w.cell? (a.add j)=some u) (h1: ∀u∈news,u.oneCell'=true)
  (FN:VZ+m<=Ak8) (Yg:ob+VZ*i.size+news.length<=cur.size):
  (Builtin.append_ #[t,t] ty #[.slice (some ⟨g,ob,none⟩) VZ Ak8, .slice (some a) m c]).run P w=
   .ok (.slice (some ⟨g,ob,none⟩) (VZ+m) Ak8) (w.setRow g (Dw cur.toList (ob+VZ*i.size) news).toArray):=by
 have hf:=run_firstCells_some (P:=P) w i.size m a m c news hl Amx
 have Uh:=run_storeCells_at P g (ob+VZ*i.size) tid news 0 cur w hg (by simpa using Yg) h1
 simp only [Er] at Uh
 simp [Builtin.append_,run_underlying hu,sizeOf,typeInfo,hi,Builtin.lenOf,FN,hf,Addr.add_lit,Uh,Dw]
theorem Uo (z:Array Value) (n:Nat):(Builtin.zeroCells z n).size=n*z.size:=by simp [Builtin.zeroCells]
theorem GV {l off len:Nat} {v:Value} {fr tr:Bool} {e:Ty} {tid:TypeId} {xs:List e.den} (hl:At H l=some (.arr fr tr e tid xs)) (h1:off+len<=xs.length) (h2:Ih (π l) e.size off len v):Bs X w π H (.at (.own l off len)) v:=
 MU (X:=X) (w:=w) hl h1 h2
theorem fG {st:St} {a:Act} (h:Bi X π st a w) (l:Nat) (p7:l<Bn) (fr tr:Bool) (e:Ty) (te:TypeId) (zs:List e.den) (cl:List Value) (cur:Array Value) (cap:Nat) (w1:World) (N:List Nat)
  (hw1:w1=w.drew.alloc (.cells cur te)\/w1=w.alloc (.cells cur te))
  (hs:cur.size=cap*e.size) (hm:cap<=maxLen) (hl:zs.length<=cap) (Pc: ∀(k:Nat) (u:Value),cl[k]?=some u->cur[k]?=some u) (hf:Flat w (Da X.w0.heap.size X.Sc π fr) e cl zs)
  (hN: ∀b∈N,(X.w0.heap.size<=b\/X.gv b)/\b<w.heap.size/\ ∀m r0,m≠l->π m=some r0-> ¬r0.cl b) (ht:tr=true->N.Nodup/\ ∃Fs,List.flatten Fs=N/\Sy w e cl zs Fs):
  Bi X (Xb π l (some (Real.with w.heap.size 0 cap N))) (st.new l (.arr fr tr e te zs)) a w1/\
   ∀n,n=zs.length->Bs X w1 (Xb π l (some (Real.with w.heap.size 0 cap N))) (st.new l (.arr fr tr e te zs)).heap (.at (.own l 0 n)) (.slice (some ⟨w.heap.size,0,none⟩) n cap):=by
 have xC:w.grownBy w1 ((π l).map (·.g)):=by
  rcases hw1 with rfl|rfl
  ·exact ⟨rfl,rfl,rfl,by simp,λk hk _=>Below.heap_alloc w.drew _ k hk⟩
  ·exact World.grownBy_alloc w _ _
 have kF:w1.heap[w.heap.size]?=some (.cells cur te (0,0)):=by
  rcases hw1 with rfl|rfl
  ·exact heap_alloc_new w.drew _
  ·exact heap_alloc_new w _
 have hold: ∀k,k<w.heap.size->w1.heap[k]?=w.heap[k]?:=by
  rcases hw1 with rfl|rfl
  ·exact λk hk=>Below.heap_alloc w.drew _ k hk
  ·exact λk hk=>Below.heap_alloc w _ k hk
 refine ⟨h.jl l p7 _ _ xC (λr b h1 h2=>?_) (λr b h1 h2=>?_) λm=>?_,λn hn=>GV (St.Hg st l _) (by omega) ?_⟩
 ·cases h1
  have h2:b=w.heap.size:=h2
  exact ⟨.inl h2, .inr (by omega)⟩
 ·cases h1
  rcases h2 with h2|h2
  ·have h2:b=w.heap.size:=h2
   subst h2
   exact ⟨.inl h.1.below.size,Gq kF,λm r0 _ h3 h4=>by have:=(h.1.place m r0 _ h3 h4).2;omega⟩
  ·obtain ⟨h3,h4,h5⟩:=hN b h2
   exact ⟨h3,Eg h4 xC.size,h5⟩
 ·refine Zg (tid:=te) (λ_=>h.1.below.size) kF (by simpa using hs) hm hl (by simpa using Pc) (hf.cells λes z hc=>m.cells _ _ _ _ hc) λnB=>?_
  obtain ⟨n1,Fs,rfl,n2⟩:=ht nB
  exact ⟨Ce.2 ⟨λhm=>by have:=(hN _ hm).2.1;omega,n1⟩,Fs,rfl,n2.Fk xC.size λb hb=>hold b (n2.lt b hb)⟩
 ·rw [Gu]
  exact ⟨_,rfl,by dsimp only [Real.with];omega,λ_=>by simp [Real.with]⟩
theorem mN (hT:Eb P T) {st:St} {a:Act} (h:Bi X π st a w) {t te ty:TypeId} {e:Ty} (l5:T.elem t=some te) (Yi:T.ty te=some e) {l off len:Nat} (p7:l<Bn) {fr tr rO fr3 tr2:Bool} {xs ys:List e.den} {vb vy:Value} (h3f:fr3=(rO||e.flat))
  (hl:At st.heap l=some (.arr fr tr e te xs)) (hb:Bs X w π st.heap (.at (.own l off len)) vb) (hy:Cells w (Da X.w0.heap.size X.Sc π rO) (.slice e) [vy] ys) (oZ:len+ys.length<=Db)
  (hy2:tr2=true->e.flat=true\/ ∃F,Dg w F (.slice e) [vy] ys/\ie X w π F):
  ∃v' w' π',(Builtin.append_ #[t,t] ty #[vb,vy]).run P w= .ok v' w'/\Bi X π' (st.new l (.arr (fr&&fr3) (tr&&tr2) e te (((xs.drop off).take len)++ys))) a w'/\
   Bs X w' π' (st.new l (.arr (fr&&fr3) (tr&&tr2) e te (((xs.drop off).take len)++ys))).heap (.at (.own l 0 (len+ys.length))) v':=by
 have hu:=hT.elem t te l5
 obtain ⟨i,hi,Vt,ri,tj⟩:=(hT.ty te e Yi).info
 obtain ⟨hlen,vI⟩:=Oi (X:=X) (w:=w) hb hl
 have hA:=(h.1.heap l).Ro hl
 simp only [Cj] at hA
 have Pc:((xs.drop off).take len).length=len:=by simp;omega
 have ta:(len+ys.length)*i.bytes<=140737488355328:=by
  have:(len+ys.length)*i.bytes<=4294967296*256:=dN oZ ri
  omega
 have iW:len+ys.length<=maxLen:=by unfold Db at oZ;simp only [maxLen];omega
 obtain ⟨ad,c,rfl,LX⟩:=uJ hy
 have hzs:(Cd e (Bx e)).cells.size=i.size:=by
  rw [Vt]
  have hz: ∀τ:Ty,(Bx τ).length=τ.size:=by
   intro τ
   induction τ with
   |pair a r ib gZ=>simp [Bx,Ty.size,ib,gZ]
   |_=>rfl
  cases Uh:e.Ap with
  |true=>simp [Cd,Uh,Value.cells,hz]
  |false=>cases e<;>simp_all [Ty.Ap,Cd,Bx,Value.cells,Ty.size]
 have vM: ∀r,π l=some r-> ∀Fs:List (List Nat),(r.g::List.flatten Fs).Nodup->(∀b∈List.flatten Fs,r.cl b)->
   ∀b∈List.flatten Fs,(X.w0.heap.size<=b\/X.gv b)/\b<w.heap.size/\b≠r.g/\ ∀m r0,m≠l->π m=some r0-> ¬r0.cl b:= λr hr Fs hn hc b hb=>
  ⟨(h.1.place l r b hr (hc b hb)).1,(h.1.place l r b hr (hc b hb)).2,λe=>(Ce.1 hn).1 (e▸hb),λm r0 hm h1 h2=>hm (h.1.inj m l r0 r b h1 hr h2 (hc b hb))⟩
 by_cases hm0:ys= []
 ·
  subst hm0
  simp only [List.append_nil,Fb,Er]
  cases hp:π l with
  |none=>
   rw [hp] at vI hA
   obtain ⟨rfl,rfl,rfl⟩:=vI
   have hr:=gL (P:=P) (w:=w) (ty:=ty) hu hi none 0 0 ad c (Ao _)
   refine ⟨_,w,Xb π l none,hr,h.replace l p7 none _ (Pr w _) (λr hr=>by cases hr) (λ_=>?_),?_⟩
   ·simp only [Cj,Kg];simp
   ·exact GV (St.Hg st l _) (by simp) (by rw [Gu];exact ⟨rfl,rfl,rfl⟩)
  |some r=>
   rw [hp] at vI hA
   obtain ⟨adb,rfl,oC,gT⟩:=vI
   have hr:=gL (P:=P) (w:=w) (ty:=ty) hu hi (some adb) len (r.cap-off) ad c (by omega)
   obtain ⟨cur,cl,ti,k1,k2,k3,k4,k5⟩:=iN hA hlen
   have tb:r.cap<=maxLen:=by obtain ⟨_,_,_,_,_,h4,_⟩:=hA;exact h4
   have hN: ∃N:List Nat,(∀b∈N,(X.w0.heap.size<=b\/X.gv b)/\b<w.heap.size/\b≠r.g/\ ∀m r0,m≠l->π m=some r0-> ¬r0.cl b)/\((tr&&tr2)=true->(r.g::N).Nodup/\ ∃Fs,List.flatten Fs=N/\Sy w e cl ((xs.drop off).take len) Fs):=by
    cases nB:(tr&&tr2) with
    |false=>exact ⟨[],by simp,λh=>by cases h⟩
    |true=>
     simp only [Ag] at nB
     obtain ⟨Fs,t1,t2,t3⟩:=k5 nB.1
     exact ⟨_,vM r hp Fs t2 t3,λ_=>⟨t2,Fs,rfl,t1⟩⟩
   obtain ⟨N,n1,n2⟩:=hN
   refine ⟨_,w,Xb π l (some (Real.with r.g (r.o+off) (r.cap-off) N)),hr,h.jl l p7 _ _ (Pr w _) (λr' b h1 h2=>?_) (λr' b h1 h2=>?_) (λm=>?_),?_⟩
   ·cases h1
    have h2:b=r.g:=h2
    exact ⟨.inl h2, .inl ⟨r,hp,h2▸h.1.Cv hp⟩⟩
   ·cases h1
    rcases h2 with h2|h2
    ·have h2:b=r.g:=h2
     subst h2
     have jU:=h.1.sub l r _ hp (h.1.Cv hp)
     exact ⟨(h.1.place l r _ hp jU).1,(h.1.place l r _ hp jU).2,λm r0 hm h3 h4=>hm (h.1.inj m l r0 r _ h3 hp h4 jU)⟩
    ·obtain ⟨h3,h4,_,h5⟩:=n1 b h2
     exact ⟨h3,h4,h5⟩
   ·exact Zg (tid:=te) (λhf=>hA.1.2.2 (by simp only [Ag] at hf;exact hf.1)) k1 (by rw [k2];congr 1;omega) (by omega) (by rw [Pc];omega) (λk u hu=>(k4 k u hu).2) (k3.cells λes z hc=>(m.cells _ _ _ _ hc).and_left) n2
   ·refine GV (St.Hg st l _) (by rw [Pc];omega) ?_
    rw [Gu]
    exact ⟨adb,rfl,by dsimp only [Real.with];omega,λJj=>by simpa [Real.with] using gT (by dsimp only [Real.with] at Jj;omega)⟩
 ·rcases LX with h0|⟨g,o,rfl,news,n1,n2,n3,n5,n4⟩
  ·exact absurd h0 hm0
  ·have MA:0<ys.length:=by
    rcases Tq ys.length with h0|h0
    ·exact absurd (Ck h0) hm0
    ·exact h0
   have n1':news.length=ys.length*i.size:=by rw [Vt];exact n1
   have n2': ∀j u,news[j]?=some u->w.cell? ((⟨g,o,none⟩:Addr).add j)=some u:= λj u hu=>by rw [Addr.add_lit];exact n2 j u hu
   have hfn:Flat w (Da X.w0.heap.size X.Sc π fr3) e news ys:=⟨n1,λi y hy=>by
    obtain ⟨es,k1,k2,k3⟩:=n4 i y hy
    refine ⟨es,k1,k2,?_⟩
    cases hef:e.flat with
    |true=>exact Cells.flat e es y hef k3
    |false=>rw [hef,hZ] at h3f;rw [h3f];exact k3⟩
   have RY: ∀zs:List e.den,(((xs.drop off).take len)++ys).length=len+ys.length:= λ_=>by simp [Pc]
   have new:tr2=true-> ∃Fs,Sy w e news ys Fs/\ie X w π (List.flatten Fs):=by
    intro ht2
    rcases hy2 ht2 with hfl|⟨F,f1,f2⟩
    ·refine ⟨List.replicate ys.length [],⟨by simp,λi z Fi hz hF=>?_⟩,by simp,by simp⟩
     obtain ⟨es,q1,q2,q3⟩:=hfn.2 i z hz
     have:Fi= []:=Fv (Cl hF)
     subst this
     exact ⟨es,q1,q2,Yf e es z hfl q3⟩
    simp only [Dg] at f1
    obtain ⟨a0,Azg,Awo,e0,e3,e4,f1⟩:=f1
    rcases f1 with ⟨f1,_⟩|⟨ad',g',o',Fs,ea,ea',Se,rfl,hFl,f1⟩
    ·exact absurd f1 hm0
    ·have ea':=ea' (by omega)
     subst ea'
     simp only [Hb,Value.slice.injEq,Oh] at e0
     obtain ⟨e0,_⟩:=e0
     rw [ea] at e0
     simp only [Aa,Addr.mk.injEq,Oh] at e0
     obtain ⟨rfl,rfl⟩:=e0
     refine ⟨Fs,⟨hFl,λi z Fi hz hF=>?_⟩,(Ce.1 f2.1).2,λb hb=>f2.2 b (Aq _ hb)⟩
     obtain ⟨es,q1,q2,q3⟩:=f1 i z Fi hz hF
     refine ⟨es,q1,λj u hu=>?_,q3⟩
     have hi:=(An.1 hz).1
     have hj:=(An.1 hu).1
     refine n5 _ u ?_ (by have:=q2 j u hu;rw [Ha] at this;exact this)
     have:(i+1)*e.size<=ys.length*e.size:=Eo _ (by omega)
     rw [Dj,Sh] at this
     omega
   cases hp:π l with
   |none=>
    rw [hp] at vI hA
    obtain ⟨rfl,rfl,rfl⟩:=vI
    have hr:=run_append_nil (P:=P) w t ty te i _ hu hi tj ⟨g,o,none⟩ ys.length c news n1' n2' MA (by simp only [maxLen] at iW;omega) (by have:=ta;rw [Bo] at this;omega)
    have oD:=grownCap_ge w ys.length 0 te
    have hcm:=grownCap_le_maxLen w ys.length 0 te (by omega)
    have hN: ∃N:List Nat,(∀b∈N,(X.w0.heap.size<=b\/X.gv b)/\b<w.heap.size/\ ∀m r0,m≠l->π m=some r0-> ¬r0.cl b)/\((tr&&tr2)=true->N.Nodup/\ ∃Fs,List.flatten Fs=N/\Sy w e news ((List.take 0 (List.drop 0 xs))++ys) Fs):=by
     cases nB:(tr&&tr2) with
     |false=>exact ⟨[],by simp,λh=>by cases h⟩
     |true=>
      simp only [Ag] at nB
      obtain ⟨Fs,t1,t2⟩:=new nB.2
      exact ⟨_,λb hb=>⟨(t2.2 b hb).1,(t2.2 b hb).2.1,λm r0 _=>(t2.2 b hb).2.2 m r0⟩,λ_=>⟨t2.1,Fs,rfl,by simpa using t1⟩⟩
    obtain ⟨N,q1,q2⟩:=hN
    have:=fG h l p7 (fr&&fr3) (tr&&tr2) e te ((List.take 0 (List.drop 0 xs))++ys) news (news.toArray++Builtin.zeroCells (Cd e (Bx e)).cells (grownCap w ys.length 0 te-ys.length)) (grownCap w ys.length 0 te) _ N (.inl rfl) (by
      rw [Array.size_append,Hc,Uo,hzs,n1,Vt,<-Dj];congr 1;omega) hcm (by simpa using oD) (λk u hu=>by
      rw [Tp (by simpa using (An.1 hu).1)];simpa using hu) (by simpa using hfn.cells λes z hc=>hc.and_right) q1 q2
    refine ⟨_,_,_,hr,this.1,?_⟩
    have:=this.2 ys.length (by simp)
    simpa using this
   |some r=>
    rw [hp] at vI hA
    obtain ⟨adb,rfl,oC,gT⟩:=vI
    obtain ⟨cur,cl,ti,k1,k2,k3,k4,k5⟩:=iN hA hlen
    have tb:r.cap<=maxLen:=by obtain ⟨_,_,_,_,_,h4,_⟩:=hA;exact h4
    have k3l:cl.length=len*e.size:=by rw [k3.1,Pc]
    have hN: ∃N:List Nat,(∀b∈N,(X.w0.heap.size<=b\/X.gv b)/\b<w.heap.size/\b≠r.g/\ ∀m r0,m≠l->π m=some r0-> ¬r0.cl b)/\((tr&&tr2)=true->N.Nodup/\ ∃Fs,List.flatten Fs=N/\Sy w e (cl++news) (((xs.drop off).take len)++ys) Fs):=by
     cases nB:(tr&&tr2) with
     |false=>exact ⟨[],by simp,λh=>by cases h⟩
     |true=>
      simp only [Ag] at nB
      obtain ⟨Fs,t1,t2,t3⟩:=k5 nB.1
      obtain ⟨Fs2,t4,t5⟩:=new nB.2
      have ho:=vM r hp Fs t2 t3
      refine ⟨List.flatten (Fs++Fs2),λb hb=>?_,λ_=>⟨?_,Fs++Fs2,rfl,Sy.append (by rw [k3l,Pc]) t1 t4⟩⟩
      ·rw [List.flatten_append] at hb
       rcases Az.1 hb with hb|hb
       ·exact ho b hb
       ·have:=t5.2 b hb
        exact ⟨this.1,this.2.1,λe=>this.2.2 l r hp (e▸h.1.sub l r _ hp (h.1.Cv hp)),λm r0 _=>this.2.2 m r0⟩
      ·rw [List.flatten_append]
       refine Dv.2 ⟨(Ce.1 t2).2,t5.1,λb hb b' vG e=>?_⟩
       subst e
       exact (t5.2 b vG).2.2 l r hp (t3 b hb)
    obtain ⟨N,q1,q2⟩:=hN
    by_cases FN:len+ys.length<=r.cap-off
    ·
     have Ary:=gT (by omega)
     subst Ary
     have Yg:(r.o+off)*e.size+len*i.size+news.length<=cur.size:=by
      rw [Vt,n1,<-Dj,<-Dj,k2]
      exact Eo _ (by omega)
     have Zv:(r.o+off)*e.size+len*i.size+news.length<=cur.toList.length:=by simpa using Yg
     have hr:=aG (P:=P) (w:=w) (ty:=ty) hu hi r.g ((r.o+off)*e.size) len (r.cap-off) cur ti k1 ⟨g,o,none⟩ ys.length c news n1' n2' n3 FN Yg
     refine ⟨_,_,Xb π l (some (Real.with r.g (r.o+off) (r.cap-off) N)),hr,h.jl l p7 _ _ (by rw [hp];exact Np w r.g _) (λr' b h1 h2=>?_) (λr' b h1 h2=>?_) (λm=>?_),?_⟩
     ·cases h1
      have h2:b=r.g:=h2
      exact ⟨.inl h2, .inl ⟨r,hp,h2▸h.1.Cv hp⟩⟩
     ·cases h1
      rcases h2 with h2|h2
      ·have h2:b=r.g:=h2
       subst h2
       have jU:=h.1.sub l r _ hp (h.1.Cv hp)
       exact ⟨(h.1.place l r _ hp jU).1,by simpa using (h.1.place l r _ hp jU).2,λm r0 hm h3 h4=>hm (h.1.inj m l r0 r _ h3 hp h4 jU)⟩
      ·obtain ⟨h3,h4,_,h5⟩:=q1 b h2
       exact ⟨h3,by simpa using h4,h5⟩
     ·refine Zg (tid:=te) (cl:=cl++news) (λhf=>hA.1.2.2 (by simp only [Ag] at hf;exact hf.1)) (setRow_heap w r.g cur _ ti _ k1) ?_ (by omega) (by rw [RY xs];omega) (λk u hu=>?_)
       (((k3.cells λes z hc=>(m.cells _ _ _ _ hc).and_left)).append (hfn.cells λes z hc=>(m.cells _ _ _ _ hc).and_right)) (λnB=>?_)
      ·rw [Hc,Je _ _ _ Zv,Xq,k2];congr 1;omega
      ·rw [Ip,Im _ _ _ _ Zv]
       by_cases hk:k<cl.length
       ·rw [As hk] at hu
        rw [Ab (by rw [Vt];omega)]
        simpa using (k4 k u hu).2
       ·rw [Ar (by omega)] at hu
        have:=(An.1 hu).1
        rw [Ak (by rw [Vt];omega),Ab (by rw [Vt];omega)]
        rw [show (r.o+off)*e.size+k-((r.o+off)*e.size+len*i.size)=k-cl.length by rw [Vt,k3l];omega]
        exact hu
      ·obtain ⟨z1,Fs,rfl,z2⟩:=q2 nB
       exact ⟨Ce.2 ⟨λhm=>(q1 _ hm).2.2.1 rfl,z1⟩,Fs,rfl,z2.Fk (by simp) λb hb=>setRow_other w r.g b _ (q1 b hb).2.2.1⟩
     ·refine GV (St.Hg st l _) (by rw [RY xs];omega) ?_
      rw [Gu]
      exact ⟨_,rfl,by dsimp only [Real.with];omega,λ_=>by simp [Real.with]⟩
    ·
     have hold: ∀j u,cl[j]?=some u->w.cell? (adb.add j)=some u:=by
      intro j u hu
      obtain ⟨q1,q2⟩:=k4 j u hu
      have p7:0<len:=by
       rcases Tq len with h0|h0
       ·rw [h0] at q1;simp at q1
       ·exact h0
      rw [gT (by omega),Addr.add_lit,cellOf k1];exact q2
     have hr:=run_append_grow (P:=P) w t ty te i _ hu hi tj adb len (r.cap-off) cl (by rw [Vt];exact k3l) hold ⟨g,o,none⟩ ys.length c news n1' n2' (by omega) (by simp only [maxLen] at iW;omega) (growslice_fits (by omega) ta)
     have oD:=grownCap_ge w (len+ys.length) (r.cap-off) te
     have hcm:=grownCap_le_maxLen w (len+ys.length) (r.cap-off) te iW
     have:=fG h l p7 (fr&&fr3) (tr&&tr2) e te (((xs.drop off).take len)++ys) (cl++news) (cl.toArray++news.toArray++Builtin.zeroCells (Cd e (Bx e)).cells (grownCap w (len+ys.length) (r.cap-off) te-(len+ys.length))) (grownCap w (len+ys.length) (r.cap-off) te) _ N (.inl rfl) (by
       rw [Array.size_append,Array.size_append,Hc,Hc,Uo,hzs,k3l,n1,Vt,<-Dj,<-Dj];congr 1;omega) hcm (by rw [RY xs];exact oD) (λk u hu=>by
       have hk:=(An.1 hu).1
       rw [Tp (by simpa using hk)]
       simpa using hu) ((k3.cells λes z hc=>hc.and_left).append (hfn.cells λes z hc=>hc.and_right)) (λb hb=>⟨(q1 b hb).1,(q1 b hb).2.1,(q1 b hb).2.2.2⟩) q2
     exact ⟨_,_,_,hr,this.1,this.2 _ (RY xs).symm⟩
theorem uo {st:St} {a:Act} (h:Bi X π st a w) {l off len:Nat} {fr tr:Bool} {e:Ty} {tid:TypeId} {xs:List e.den} (p7:l<Bn) (hl:At st.heap l=some (.arr fr tr e tid xs)) {v:Value} (hb:Hv X w π st.heap (.own l off len) v):
  ∃π',Bi X π' (st.new l (.arr fr tr e tid ((xs.drop off).take len))) a w/\Hv X w π' (st.new l (.arr fr tr e tid ((xs.drop off).take len))).heap (.own l 0 ((xs.drop off).take len).length) v/\ ∀k,k≠l->π' k=π k:=by
 obtain ⟨hlen,vI⟩:=Oi (X:=X) (w:=w) hb hl
 have hA:=(h.1.heap l).Ro hl
 simp only [Cj] at hA
 have Pc:((xs.drop off).take len).length=len:=by simp;omega
 have vM: ∀r,π l=some r-> ∀Fs:List (List Nat),(r.g::List.flatten Fs).Nodup->(∀b∈List.flatten Fs,r.cl b)->
   ∀b∈List.flatten Fs,(X.w0.heap.size<=b\/X.gv b)/\b<w.heap.size/\b≠r.g/\ ∀m r0,m≠l->π m=some r0-> ¬r0.cl b:= λr hr Fs hn hc b hb=>
  ⟨(h.1.place l r b hr (hc b hb)).1,(h.1.place l r b hr (hc b hb)).2,λe=>(Ce.1 hn).1 (e▸hb),λm r0 hm h1 h2=>hm (h.1.inj m l r0 r b h1 hr h2 (hc b hb))⟩
 cases hp:π l with
 |none=>
  rw [hp] at vI hA
  obtain ⟨rfl,rfl,rfl⟩:=vI
  refine ⟨Xb π l none,h.replace l p7 none _ (Pr w _) (λr hr=>by cases hr) (λ_=>?_),?_⟩
  ·simp only [Cj,Kg];simp
  ·exact ⟨⟨_,e.size,_,St.Hg st l _,rfl,by simp,by rw [Gu];exact ⟨rfl,rfl,by simp⟩⟩,λk hk=>Gr _ _ hk⟩
 |some r=>
  rw [hp] at vI hA
  obtain ⟨adb,rfl,oC,gT⟩:=vI
  obtain ⟨cur,cl,ti,k1,k2,k3,k4,k5⟩:=iN hA hlen
  have tb:r.cap<=maxLen:=by obtain ⟨_,_,_,_,_,h4,_⟩:=hA;exact h4
  have hN: ∃N:List Nat,(∀b∈N,(X.w0.heap.size<=b\/X.gv b)/\b<w.heap.size/\b≠r.g/\ ∀m r0,m≠l->π m=some r0-> ¬r0.cl b)/\(tr=true->(r.g::N).Nodup/\ ∃Fs,List.flatten Fs=N/\Sy w e cl ((xs.drop off).take len) Fs):=by
   cases nB:tr with
   |false=>exact ⟨[],by simp,λh=>by cases h⟩
   |true=>
    obtain ⟨Fs,t1,t2,t3⟩:=k5 nB
    exact ⟨_,vM r hp Fs t2 t3,λ_=>⟨t2,Fs,rfl,t1⟩⟩
  obtain ⟨N,n1,n2⟩:=hN
  refine ⟨Xb π l (some (Real.with r.g (r.o+off) (r.cap-off) N)),h.jl l p7 _ _ (Pr w _) (λr' b h1 h2=>?_) (λr' b h1 h2=>?_) (λm=>?_),?_⟩
  ·cases h1
   have h2:b=r.g:=h2
   exact ⟨.inl h2, .inl ⟨r,hp,h2▸h.1.Cv hp⟩⟩
  ·cases h1
   rcases h2 with h2|h2
   ·have h2:b=r.g:=h2
    subst h2
    have jU:=h.1.sub l r _ hp (h.1.Cv hp)
    exact ⟨(h.1.place l r _ hp jU).1,(h.1.place l r _ hp jU).2,λm r0 hm h3 h4=>hm (h.1.inj m l r0 r _ h3 hp h4 jU)⟩
   ·obtain ⟨h3,h4,_,h5⟩:=n1 b h2
    exact ⟨h3,h4,h5⟩
  ·exact Zg (tid:=tid) (λhf=>hA.1.2.2 hf) k1 (by rw [k2];congr 1;omega) (by omega) (by rw [Pc];omega) (λk u hu=>(k4 k u hu).2) (k3.cells λes z hc=>m.cells _ _ _ _ hc) n2
  ·refine ⟨⟨_,e.size,_,St.Hg st l _,rfl,by simp,?_⟩,λk hk=>Gr _ _ hk⟩
   rw [Gu,Pc]
   exact ⟨adb,rfl,by dsimp only [Real.with];omega,λJj=>by simpa [Real.with] using gT (by dsimp only [Real.with] at Jj;omega)⟩
end
end Go.Proofs.YtkkdpknjohcekaaGreat
