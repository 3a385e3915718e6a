/-
  Part 12 of the proof that the statement FnExactProvesNoSolutionWithin holds.
-/
import Derived.Test.YtfolipnappekaaaGreatCProvesNoSolutionWithin10
namespace Go.Proofs.YtfolipnappekaaaGreat
open Go.RowKit
section
variable {P:Program} {T:Tab} {X:Ctx} {w w':World} {π:Pi} {H:List (Nat×OB)}
def Flat (w:World) (S:Nat->Prop) (e:Ty) (cl:List Value) (zs:List e.den):Prop:=
 cl.length=zs.length*e.size/\ ∀(i:Nat) (z:e.den),zs[i]?=some z-> ∃es:List Value,es.length=e.size/\(∀j u,es[j]?=some u->cl[i*e.size+j]?=some u)/\Cells w S e es z
theorem Flat.append {S:Nat->Prop} {e:Ty} {c1 c2:List Value} {z1 z2:List e.den} (h1:Flat w S e c1 z1) (h2:Flat w S e c2 z2):Flat w S e (c1++c2) (z1++z2):=by
 refine ⟨by simp [h1.1,h2.1,Nat.add_mul],λi z hz=>?_⟩
 by_cases hi:i<z1.length
 ·rw [List.getElem?_append_left hi] at hz
  obtain ⟨es,he,hc,hr⟩:=h1.2 i z hz
  refine ⟨es,he,λj u hu=>?_,hr⟩
  have:=hc j u hu
  rw [List.getElem?_append_left (List.getElem?_eq_some_iff.1 this).1];exact this
 ·rw [List.getElem?_append_right (by omega)] at hz
  obtain ⟨es,he,hc,hr⟩:=h2.2 _ z hz
  refine ⟨es,he,λj u hu=>?_,hr⟩
  have:=hc j u hu
  have e1:i*e.size=z1.length*e.size+(i-z1.length)*e.size:=by rw [<-Nat.add_mul];congr 1;omega
  rw [List.getElem?_append_right (by rw [h1.1];omega),h1.1,show i*e.size+j-z1.length*e.size=(i-z1.length)*e.size+j by omega]
  exact this
theorem Flat.cells {S S':Nat->Prop} {e:Ty} {cl:List Value} {zs:List e.den} (h:Flat w S e cl zs) (hc: ∀es z,Cells w S e es z->Cells w' S' e es z):Flat w' S' e cl zs:=
 ⟨h.1,λi z hz=>let ⟨es,a,b,c⟩:=h.2 i z hz;⟨es,a,b,hc es z c⟩⟩
theorem Flat.nil {S:Nat->Prop} {e:Ty} :Flat w S e [] []:=⟨by simp,λi z hz=>by simp at hz⟩
def No (w:World) (e:Ty) (cl:List Value) (zs:List e.den) (Fs:List (List Nat)):Prop:=
 Fs.length=zs.length/\ ∀(i:Nat) (z:e.den) (F:List Nat),zs[i]?=some z->Fs[i]?=some F-> ∃es:List Value,es.length=e.size/\(∀j u,es[j]?=some u->cl[i*e.size+j]?=some u)/\Ax w F e es z
theorem No.append {e:Ty} {c1 c2:List Value} {z1 z2:List e.den} {F1 F2:List (List Nat)} (hc:c1.length=z1.length*e.size) (h1:No w e c1 z1 F1) (h2:No w e c2 z2 F2):No w e (c1++c2) (z1++z2) (F1++F2):=by
 have hl:=h1.1
 refine ⟨by simp [h1.1,h2.1],λi z F hz hF=>?_⟩
 by_cases hi:i<z1.length
 ·rw [List.getElem?_append_left hi] at hz
  rw [List.getElem?_append_left (by omega)] at hF
  obtain ⟨es,he,z8,hr⟩:=h1.2 i z F hz hF
  refine ⟨es,he,λj u hu=>?_,hr⟩
  have:=z8 j u hu
  rw [List.getElem?_append_left (List.getElem?_eq_some_iff.1 this).1];exact this
 ·rw [List.getElem?_append_right (by omega)] at hz
  rw [List.getElem?_append_right (by omega),hl] at hF
  obtain ⟨es,he,z8,hr⟩:=h2.2 _ z F hz hF
  refine ⟨es,he,λj u hu=>?_,hr⟩
  have:=z8 j u hu
  have hle:z1.length*e.size<=i*e.size:=Nat.mul_le_mul_right _ (by omega)
  rw [List.getElem?_append_right (by omega),<-this]
  congr 1
  rw [hc,Nat.sub_mul];omega
theorem No.Cn {e:Ty} {cl:List Value} {zs:List e.den} {Fs:List (List Nat)} (h:No w e cl zs Fs) (hs:w.heap.size<=w'.heap.size) (hk: ∀b∈List.flatten Fs,w'.heap[b]?=w.heap[b]?):No w' e cl zs Fs:=
 ⟨h.1,λi z F hz hF=>by
  obtain ⟨es,he,z8,hr⟩:=h.2 i z F hz hF
  exact ⟨es,he,z8,hr.Cn _ _ _ _ hs λb hb=>hk b (List.mem_flatten.2 ⟨F,List.mem_of_getElem? hF,hb⟩)⟩⟩
theorem No.lt {e:Ty} {cl:List Value} {zs:List e.den} {Fs:List (List Nat)} (h:No w e cl zs Fs) (b:Nat) (hb:b∈List.flatten Fs):b<w.heap.size:=by
 obtain ⟨F,hF,hb⟩:=List.mem_flatten.1 hb
 obtain ⟨i,hi,rfl⟩:=List.getElem_of_mem hF
 have hl:=h.1
 obtain ⟨es,_,_,hr⟩:=h.2 i (zs[i]'(by omega)) _ (List.getElem?_eq_getElem _) (List.getElem?_eq_getElem hi)
 exact hr.lt _ _ _ _ b hb
def Real.with (g o cap:Nat) (N:List Nat):Real:=⟨g,o,cap,λb=>b=g,λb=>b=g\/b∈N⟩
theorem Ts {g o cap:Nat} {N:List Nat} {fr tr:Bool} {e:Ty} {tid:TypeId} {zs:List e.den} {cl:List Value} {cur:Array Value} {ti:TypeId} (hB:fr=true->X.w0.heap.size<=g) (hg:w.heap[g]?=some (.cells cur ti (0,0)))
  (hs:cur.size=(o+cap)*e.size) (hm:cap<=maxLen) (hl:zs.length<=cap) (Ky: ∀k u,cl[k]?=some u->cur[o*e.size+k]?=some u) (hf:Flat w (Bj X.w0.heap.size X.Sc π fr) e cl zs)
  (ht:tr=true->(g::N).Nodup/\ ∃Fs,List.flatten Fs=N/\No w e cl zs Fs):
  Fv X w π (some (Real.with g o cap N)) fr tr e tid zs:=by
 refine ⟨⟨rfl,λb hb=>hb,hB⟩,cur,_,hg,hs,hm,hl,λi z hz=>?_,λjY=>?_⟩
 ·obtain ⟨es,a,b,c⟩:=hf.2 i z hz
  refine ⟨es,a,λj u hu=>?_,c⟩
  have:=Ky _ u (b j u hu)
  rw [<-Nat.add_assoc,<-Nat.add_mul] at this
  exact this
 ·obtain ⟨hn,Fs,rfl,h1,h2⟩:=ht jY
  refine ⟨Fs,h1,hn,λb hb=> .inr hb,λi z F hz hF=>?_⟩
  obtain ⟨es,a,b,c⟩:=h2 i z F hz hF
  refine ⟨es,a,λj u hu=>?_,c⟩
  have:=Ky _ u (b j u hu)
  rw [<-Nat.add_assoc,<-Nat.add_mul] at this
  exact this
theorem dE {r:Real} {fr tr:Bool} {e:Ty} {tid:TypeId} {xs:List e.den} {off len:Nat} (h:Fv X w π (some r) fr tr e tid xs) (hl:off+len<=xs.length):
  ∃cur cl ti,w.heap[r.g]?=some (.cells cur ti (0,0))/\cur.size=(r.o+r.cap)*e.size/\Flat w (Bj X.w0.heap.size X.Sc π fr) e cl ((xs.drop off).take len)/\
   (∀k u,cl[k]?=some u->k<len*e.size/\cur[(r.o+off)*e.size+k]?=some u)/\
   (tr=true-> ∃Fs,No w e cl ((xs.drop off).take len) Fs/\(r.g::List.flatten Fs).Nodup/\ ∀b∈List.flatten Fs,r.cl b):=by
 obtain ⟨h1,cur,ti,h2,h3,h4,h5,h6,h7⟩:=h
 have WT:((xs.drop off).take len).length=len:=by simp;omega
 have dO:(r.o+off)*e.size+len*e.size<=cur.size:=by
  rw [<-Nat.add_mul,h3];exact Nat.mul_le_mul_right _ (by omega)
 have Ac5: ∀k u,((cur.toList.drop ((r.o+off)*e.size)).take (len*e.size))[k]?=some u↔k<len*e.size/\cur[(r.o+off)*e.size+k]?=some u:=by
  intro k u
  rw [List.getElem?_take]
  split
  ·rename_i hk;rw [List.getElem?_drop];simp [hk]
  ·rename_i hk;simp [hk]
 refine ⟨cur,(cur.toList.drop ((r.o+off)*e.size)).take (len*e.size),ti,h2,h3,⟨by rw [WT];simp;omega,λi z hz=>?_⟩,λk u hu=>(Ac5 k u).1 hu,λht=>?_⟩
 rotate_left
 ·obtain ⟨Fs,t1,t2,t3,t4⟩:=h7 ht
  refine ⟨(Fs.drop off).take len,⟨by simp [t1],λi x F hx hF=>?_⟩,?_,λb hb=>t3 b (Ng off len b hb)⟩
  ·have hi:i<len:=by
    have:=(List.getElem?_eq_some_iff.1 hx).1
    rw [WT] at this;exact this
   have hx':xs[off+i]?=some x:=by rw [List.getElem?_take,if_pos hi,List.getElem?_drop] at hx;exact hx
   have hF':Fs[off+i]?=some F:=by rw [List.getElem?_take,if_pos hi,List.getElem?_drop] at hF;exact hF
   obtain ⟨es,a,b,c⟩:=t4 (off+i) x F hx' hF'
   refine ⟨es,a,λj u hu=>(Ac5 _ u).2 ⟨?_,?_⟩,c⟩
   ·have hj:=(List.getElem?_eq_some_iff.1 hu).1
    have:(i+1)*e.size<=len*e.size:=Nat.mul_le_mul_right _ (by omega)
    rw [Nat.add_mul,Nat.one_mul] at this
    omega
   ·have:=b j u hu
    rw [<-Nat.add_assoc,Nat.add_mul (r.o+off) i] at this
    rw [<-Nat.add_assoc];exact this
  ·have:=List.nodup_cons.1 t2
   exact List.nodup_cons.2 ⟨λhm=>this.1 (Ng off len _ hm),j0 off len this.2⟩
 have hi:i<len:=by have:=(List.getElem?_eq_some_iff.1 hz).1;omega
 have hz':xs[off+i]?=some z:=by
  rw [List.getElem?_take,if_pos hi,List.getElem?_drop] at hz;exact hz
 obtain ⟨es,a,b,c⟩:=h6 (off+i) z hz'
 refine ⟨es,a,λj u hu=>(Ac5 _ u).2 ⟨?_,?_⟩,c⟩
 ·have hj:=(List.getElem?_eq_some_iff.1 hu).1
  have:(i+1)*e.size<=len*e.size:=Nat.mul_le_mul_right _ (by omega)
  rw [Nat.add_mul,Nat.one_mul] at this
  omega
 ·have:=b j u hu
  rw [<-Nat.add_assoc,Nat.add_mul (r.o+off) i] at this
  rw [<-Nat.add_assoc];exact this
theorem cN {t ty e:TypeId} {i:TypeInfo} (hu:P.underlying t=some (.slice e)) (hi:P.info? e=some i) (b:Option Addr) (len cap:Nat) (y:Option Addr) (c:Nat) (hl:len<=cap):
  (Builtin.append_ #[t,t] ty #[.slice b len cap, .slice y 0 c]).run P w= .ok (.slice b len cap) w:=by
 cases b<;>cases y<;>simp [Builtin.append_,run_underlying hu,sizeOf,typeInfo,hi,Builtin.lenOf,hl,Builtin.firstCells,loadCells,loadCellsFrom,storeCells]
theorem Vs {t ty e:TypeId} {i:TypeInfo} (hu:P.underlying t=some (.slice e)) (hi:P.info? e=some i) (g ob NW Aec:Nat) (cur:Array Value) (tid:TypeId) (hg:w.heap[g]?=some (.cells cur tid (0,0)))
  (a:Addr) (m c:Nat) (news:List Value) (hl:news.length=m*i.size) (Agx: ∀j u,news[j]?=some u->w.cell? (a.add j)=some u) (h1: ∀u∈news,u.oneCell'=true)
  (zh:NW+m<=Aec) (Sq:ob+NW*i.size+news.length<=cur.size):
  (Builtin.append_ #[t,t] ty #[.slice (some ⟨g,ob,none⟩) NW Aec, .slice (some a) m c]).run P w=
   .ok (.slice (some ⟨g,ob,none⟩) (NW+m) Aec) (w.setRow g (Bs cur.toList (ob+NW*i.size) news).toArray):=by
 have hf:=run_firstCells_some (P:=P) w i.size m a m c news hl Agx
 have Oq:=run_storeCells_at P g (ob+NW*i.size) tid news 0 cur w hg (by simpa using Sq) h1
 simp only [Nat.add_zero] at Oq
 simp [Builtin.append_,run_underlying hu,sizeOf,typeInfo,hi,Builtin.lenOf,zh,hf,Addr.add_lit,Oq,Bs]
theorem Ow (z:Array Value) (n:Nat):(Builtin.zeroCells z n).size=n*z.size:=by simp [Builtin.zeroCells]
theorem zN {l off len:Nat} {v:Value} {fr tr:Bool} {e:Ty} {tid:TypeId} {xs:List e.den} (hl:Ad H l=some (.arr fr tr e tid xs)) (h1:off+len<=xs.length) (h2:Ec (π l) e.size off len v):Ao X w π H (.at (.own l off len)) v:=
 FF (X:=X) (w:=w) hl h1 h2
theorem bO {st:St} {a:Act} (h:Ak X π st a w) (l:Nat) (pY:l<Am) (fr tr:Bool) (e:Ty) (te:TypeId) (zs:List e.den) (cl:List Value) (cur:Array Value) (cap:Nat) (w1:World) (N:List Nat)
  (hw1:w1=w.drew.alloc (.cells cur te)\/w1=w.alloc (.cells cur te))
  (hs:cur.size=cap*e.size) (hm:cap<=maxLen) (hl:zs.length<=cap) (Ky: ∀(k:Nat) (u:Value),cl[k]?=some u->cur[k]?=some u) (hf:Flat w (Bj X.w0.heap.size X.Sc π fr) e cl zs)
  (hN: ∀b∈N,(X.w0.heap.size<=b\/X.gv b)/\b<w.heap.size/\ ∀m r0,m≠l->π m=some r0-> ¬r0.cl b) (ht:tr=true->N.Nodup/\ ∃Fs,List.flatten Fs=N/\No w e cl zs Fs):
  Ak X (Rl π l (some (Real.with w.heap.size 0 cap N))) (st.new l (.arr fr tr e te zs)) a w1/\
   ∀n,n=zs.length->Ao X w1 (Rl π l (some (Real.with w.heap.size 0 cap N))) (st.new l (.arr fr tr e te zs)).heap (.at (.own l 0 n)) (.slice (some ⟨w.heap.size,0,none⟩) n cap):=by
 have uh:w.grownBy w1 ((π l).map (·.g)):=by
  rcases hw1 with rfl|rfl
  ·exact ⟨rfl,rfl,rfl,by simp,λk hk _=>Below.heap_alloc w.drew _ k hk⟩
  ·exact World.grownBy_alloc w _ _
 have gh:w1.heap[w.heap.size]?=some (.cells cur te (0,0)):=by
  rcases hw1 with rfl|rfl
  ·exact heap_alloc_new w.drew _
  ·exact heap_alloc_new w _
 have hold: ∀k,k<w.heap.size->w1.heap[k]?=w.heap[k]?:=by
  rcases hw1 with rfl|rfl
  ·exact λk hk=>Below.heap_alloc w.drew _ k hk
  ·exact λk hk=>Below.heap_alloc w _ k hk
 refine ⟨h.er l pY _ _ uh (λr b h1 h2=>?_) (λr b h1 h2=>?_) λm=>?_,λn hn=>zN (St.Dq st l _) (by omega) ?_⟩
 ·cases h1
  have h2:b=w.heap.size:=h2
  exact ⟨.inl h2, .inr (by omega)⟩
 ·cases h1
  rcases h2 with h2|h2
  ·have h2:b=w.heap.size:=h2
   subst h2
   exact ⟨.inl h.1.below.size,Dd gh,λm r0 _ h3 h4=>by have:=(h.1.place m r0 _ h3 h4).2;omega⟩
  ·obtain ⟨h3,h4,h5⟩:=hN b h2
   exact ⟨h3,Nat.lt_of_lt_of_le h4 uh.size,h5⟩
 ·refine Ts (tid:=te) (λ_=>h.1.below.size) gh (by simpa using hs) hm hl (by simpa using Ky) (hf.cells λes z hc=>m.cells _ _ _ _ hc) λjY=>?_
  obtain ⟨n1,Fs,rfl,n2⟩:=ht jY
  exact ⟨List.nodup_cons.2 ⟨λhm=>by have:=(hN _ hm).2.1;omega,n1⟩,Fs,rfl,n2.Cn uh.size λb hb=>hold b (n2.lt b hb)⟩
 ·rw [Df]
  exact ⟨_,rfl,by dsimp only [Real.with];omega,λ_=>by simp [Real.with]⟩
theorem ju (hT:By P T) {st:St} {a:Act} (h:Ak X π st a w) {t te ty:TypeId} {e:Ty} (gO:T.elem t=some te) (Ss:T.ty te=some e) {l off len:Nat} (pY:l<Am) {fr tr oI fr3 tr2:Bool} {xs ys:List e.den} {vb vy:Value} (h3f:fr3=(oI||e.flat))
  (hl:Ad st.heap l=some (.arr fr tr e te xs)) (hb:Ao X w π st.heap (.at (.own l off len)) vb) (hy:Cells w (Bj X.w0.heap.size X.Sc π oI) (.slice e) [vy] ys) (lL:len+ys.length<=Be)
  (hy2:tr2=true->e.flat=true\/ ∃F,Ax w F (.slice e) [vy] ys/\dc X w π F):
  ∃v' w' π',(Builtin.append_ #[t,t] ty #[vb,vy]).run P w= .ok v' w'/\Ak X π' (st.new l (.arr (fr&&fr3) (tr&&tr2) e te (((xs.drop off).take len)++ys))) a w'/\
   Ao X w' π' (st.new l (.arr (fr&&fr3) (tr&&tr2) e te (((xs.drop off).take len)++ys))).heap (.at (.own l 0 (len+ys.length))) v':=by
 have hu:=hT.elem t te gO
 obtain ⟨i,hi,Qg,o0,pU⟩:=(hT.ty te e Ss).info
 obtain ⟨hlen,s9⟩:=Jv (X:=X) (w:=w) hb hl
 have hA:=(h.1.heap l).Md hl
 simp only [Av] at hA
 have Ky:((xs.drop off).take len).length=len:=by simp;omega
 have pQ:(len+ys.length)*i.bytes<=140737488355328:=by
  have:(len+ys.length)*i.bytes<=4294967296*256:=Nat.mul_le_mul lL o0
  omega
 have dQ:len+ys.length<=maxLen:=by unfold Be at lL;simp only [maxLen];omega
 obtain ⟨ad,c,rfl,EF⟩:=r8 hy
 have hzs:(Au e (Ar e)).cells.size=i.size:=by
  rw [Qg]
  have hz: ∀τ:Ty,(Ar τ).length=τ.size:=by
   intro τ
   induction τ with
   |pair a r jm fv=>simp [Ar,Ty.size,jm,fv]
   |_=>rfl
  cases Oq:e.Ac with
  |true=>simp [Au,Oq,Value.cells,hz]
  |false=>cases e<;>simp_all [Ty.Ac,Au,Ar,Value.cells,Ty.size]
 have sa: ∀r,π l=some r-> ∀Fs:List (List Nat),(r.g::List.flatten Fs).Nodup->(∀b∈List.flatten Fs,r.cl b)->
   ∀b∈List.flatten Fs,(X.w0.heap.size<=b\/X.gv b)/\b<w.heap.size/\b≠r.g/\ ∀m r0,m≠l->π m=some r0-> ¬r0.cl b:= λr hr Fs hn hc b hb=>
  ⟨(h.1.place l r b hr (hc b hb)).1,(h.1.place l r b hr (hc b hb)).2,λe=>(List.nodup_cons.1 hn).1 (e▸hb),λm r0 hm h1 h2=>hm (h.1.inj m l r0 r b h1 hr h2 (hc b hb))⟩
 by_cases hm0:ys= []
 ·
  subst hm0
  simp only [List.append_nil,List.length_nil,Nat.add_zero]
  cases hp:π l with
  |none=>
   rw [hp] at s9 hA
   obtain ⟨rfl,rfl,rfl⟩:=s9
   have hr:=cN (P:=P) (w:=w) (ty:=ty) hu hi none 0 0 ad c (Nat.le_refl _)
   refine ⟨_,w,Rl π l none,hr,h.replace l pY none _ (Kx w _) (λr hr=>by cases hr) (λ_=>?_),?_⟩
   ·simp only [Av,Fv];simp
   ·exact zN (St.Dq st l _) (by simp) (by rw [Df];exact ⟨rfl,rfl,rfl⟩)
  |some r=>
   rw [hp] at s9 hA
   obtain ⟨adb,rfl,lg,cV⟩:=s9
   have hr:=cN (P:=P) (w:=w) (ty:=ty) hu hi (some adb) len (r.cap-off) ad c (by omega)
   obtain ⟨cur,cl,ti,k1,k2,k3,k4,k5⟩:=dE hA hlen
   have pR:r.cap<=maxLen:=by obtain ⟨_,_,_,_,_,h4,_⟩:=hA;exact h4
   have hN: ∃N:List Nat,(∀b∈N,(X.w0.heap.size<=b\/X.gv b)/\b<w.heap.size/\b≠r.g/\ ∀m r0,m≠l->π m=some r0-> ¬r0.cl b)/\((tr&&tr2)=true->(r.g::N).Nodup/\ ∃Fs,List.flatten Fs=N/\No w e cl ((xs.drop off).take len) Fs):=by
    cases jY:(tr&&tr2) with
    |false=>exact ⟨[],by simp,λh=>by cases h⟩
    |true=>
     simp only [Bool.and_eq_true] at jY
     obtain ⟨Fs,t1,t2,t3⟩:=k5 jY.1
     exact ⟨_,sa r hp Fs t2 t3,λ_=>⟨t2,Fs,rfl,t1⟩⟩
   obtain ⟨N,n1,n2⟩:=hN
   refine ⟨_,w,Rl π l (some (Real.with r.g (r.o+off) (r.cap-off) N)),hr,h.er l pY _ _ (Kx w _) (λr' b h1 h2=>?_) (λr' b h1 h2=>?_) (λm=>?_),?_⟩
   ·cases h1
    have h2:b=r.g:=h2
    exact ⟨.inl h2, .inl ⟨r,hp,h2▸h.1.Bg hp⟩⟩
   ·cases h1
    rcases h2 with h2|h2
    ·have h2:b=r.g:=h2
     subst h2
     have gI:=h.1.sub l r _ hp (h.1.Bg hp)
     exact ⟨(h.1.place l r _ hp gI).1,(h.1.place l r _ hp gI).2,λm r0 hm h3 h4=>hm (h.1.inj m l r0 r _ h3 hp h4 gI)⟩
    ·obtain ⟨h3,h4,_,h5⟩:=n1 b h2
     exact ⟨h3,h4,h5⟩
   ·exact Ts (tid:=te) (λhf=>hA.1.2.2 (by simp only [Bool.and_eq_true] at hf;exact hf.1)) k1 (by rw [k2];congr 1;omega) (by omega) (by rw [Ky];omega) (λk u hu=>(k4 k u hu).2) (k3.cells λes z hc=>(m.cells _ _ _ _ hc).and_left) n2
   ·refine zN (St.Dq st l _) (by rw [Ky];omega) ?_
    rw [Df]
    exact ⟨adb,rfl,by dsimp only [Real.with];omega,λEy=>by simpa [Real.with] using cV (by dsimp only [Real.with] at Ey;omega)⟩
 ·rcases EF with h0|⟨g,o,rfl,news,n1,n2,n3,n5,n4⟩
  ·exact absurd h0 hm0
  ·have ME:0<ys.length:=by
    rcases Nat.eq_zero_or_pos ys.length with h0|h0
    ·exact absurd (List.eq_nil_of_length_eq_zero h0) hm0
    ·exact h0
   have n1':news.length=ys.length*i.size:=by rw [Qg];exact n1
   have n2': ∀j u,news[j]?=some u->w.cell? ((⟨g,o,none⟩:Addr).add j)=some u:= λj u hu=>by rw [Addr.add_lit];exact n2 j u hu
   have hfn:Flat w (Bj X.w0.heap.size X.Sc π fr3) e news ys:=⟨n1,λi y hy=>by
    obtain ⟨es,k1,k2,k3⟩:=n4 i y hy
    refine ⟨es,k1,k2,?_⟩
    cases hef:e.flat with
    |true=>exact Cells.flat e es y hef k3
    |false=>rw [hef,Bool.or_false] at h3f;rw [h3f];exact k3⟩
   have JZ: ∀zs:List e.den,(((xs.drop off).take len)++ys).length=len+ys.length:= λ_=>by simp [Ky]
   have new:tr2=true-> ∃Fs,No w e news ys Fs/\dc X w π (List.flatten Fs):=by
    intro ht2
    rcases hy2 ht2 with PT|⟨F,f1,f2⟩
    ·refine ⟨List.replicate ys.length [],⟨by simp,λi z Fi hz hF=>?_⟩,by simp,by simp⟩
     obtain ⟨es,q1,q2,q3⟩:=hfn.2 i z hz
     have:Fi= []:=List.eq_of_mem_replicate (List.mem_of_getElem? hF)
     subst this
     exact ⟨es,q1,q2,So e es z PT q3⟩
    simp only [Ax] at f1
    obtain ⟨a0,Asp,Apz,e0,e3,e4,f1⟩:=f1
    rcases f1 with ⟨f1,_⟩|⟨ad',g',o',Fs,ea,ea',Np,rfl,hFl,f1⟩
    ·exact absurd f1 hm0
    ·have ea':=ea' (by omega)
     subst ea'
     simp only [List.cons.injEq,Value.slice.injEq,and_true] at e0
     obtain ⟨e0,_⟩:=e0
     rw [ea] at e0
     simp only [Option.some.injEq,Addr.mk.injEq,and_true] at e0
     obtain ⟨rfl,rfl⟩:=e0
     refine ⟨Fs,⟨hFl,λi z Fi hz hF=>?_⟩,(List.nodup_cons.1 f2.1).2,λb hb=>f2.2 b (List.mem_cons_of_mem _ hb)⟩
     obtain ⟨es,q1,q2,q3⟩:=f1 i z Fi hz hF
     refine ⟨es,q1,λj u hu=>?_,q3⟩
     have hi:=(List.getElem?_eq_some_iff.1 hz).1
     have hj:=(List.getElem?_eq_some_iff.1 hu).1
     refine n5 _ u ?_ (by have:=q2 j u hu;rw [Nat.add_assoc] at this;exact this)
     have:(i+1)*e.size<=ys.length*e.size:=Nat.mul_le_mul_right _ (by omega)
     rw [Nat.add_mul,Nat.one_mul] at this
     omega
   cases hp:π l with
   |none=>
    rw [hp] at s9 hA
    obtain ⟨rfl,rfl,rfl⟩:=s9
    have hr:=run_append_nil (P:=P) w t ty te i _ hu hi pU ⟨g,o,none⟩ ys.length c news n1' n2' ME (by simp only [maxLen] at dQ;omega) (by have:=pQ;rw [Nat.zero_add] at this;omega)
    have lh:=grownCap_ge w ys.length 0 te
    have XR:=grownCap_le_maxLen w ys.length 0 te (by omega)
    have hN: ∃N:List Nat,(∀b∈N,(X.w0.heap.size<=b\/X.gv b)/\b<w.heap.size/\ ∀m r0,m≠l->π m=some r0-> ¬r0.cl b)/\((tr&&tr2)=true->N.Nodup/\ ∃Fs,List.flatten Fs=N/\No w e news ((List.take 0 (List.drop 0 xs))++ys) Fs):=by
     cases jY:(tr&&tr2) with
     |false=>exact ⟨[],by simp,λh=>by cases h⟩
     |true=>
      simp only [Bool.and_eq_true] at jY
      obtain ⟨Fs,t1,t2⟩:=new jY.2
      exact ⟨_,λb hb=>⟨(t2.2 b hb).1,(t2.2 b hb).2.1,λm r0 _=>(t2.2 b hb).2.2 m r0⟩,λ_=>⟨t2.1,Fs,rfl,by simpa using t1⟩⟩
    obtain ⟨N,q1,q2⟩:=hN
    have:=bO h l pY (fr&&fr3) (tr&&tr2) e te ((List.take 0 (List.drop 0 xs))++ys) news (news.toArray++Builtin.zeroCells (Au e (Ar e)).cells (grownCap w ys.length 0 te-ys.length)) (grownCap w ys.length 0 te) _ N (.inl rfl) (by
      rw [Array.size_append,List.size_toArray,Ow,hzs,n1,Qg,<-Nat.add_mul];congr 1;omega) XR (by simpa using lh) (λk u hu=>by
      rw [Array.getElem?_append_left (by simpa using (List.getElem?_eq_some_iff.1 hu).1)];simpa using hu) (by simpa using hfn.cells λes z hc=>hc.and_right) q1 q2
    refine ⟨_,_,_,hr,this.1,?_⟩
    have:=this.2 ys.length (by simp)
    simpa using this
   |some r=>
    rw [hp] at s9 hA
    obtain ⟨adb,rfl,lg,cV⟩:=s9
    obtain ⟨cur,cl,ti,k1,k2,k3,k4,k5⟩:=dE hA hlen
    have pR:r.cap<=maxLen:=by obtain ⟨_,_,_,_,_,h4,_⟩:=hA;exact h4
    have k3l:cl.length=len*e.size:=by rw [k3.1,Ky]
    have hN: ∃N:List Nat,(∀b∈N,(X.w0.heap.size<=b\/X.gv b)/\b<w.heap.size/\b≠r.g/\ ∀m r0,m≠l->π m=some r0-> ¬r0.cl b)/\((tr&&tr2)=true->N.Nodup/\ ∃Fs,List.flatten Fs=N/\No w e (cl++news) (((xs.drop off).take len)++ys) Fs):=by
     cases jY:(tr&&tr2) with
     |false=>exact ⟨[],by simp,λh=>by cases h⟩
     |true=>
      simp only [Bool.and_eq_true] at jY
      obtain ⟨Fs,t1,t2,t3⟩:=k5 jY.1
      obtain ⟨Fs2,t4,t5⟩:=new jY.2
      have ho:=sa r hp Fs t2 t3
      refine ⟨List.flatten (Fs++Fs2),λb hb=>?_,λ_=>⟨?_,Fs++Fs2,rfl,No.append (by rw [k3l,Ky]) t1 t4⟩⟩
      ·rw [List.flatten_append] at hb
       rcases List.mem_append.1 hb with hb|hb
       ·exact ho b hb
       ·have:=t5.2 b hb
        exact ⟨this.1,this.2.1,λe=>this.2.2 l r hp (e▸h.1.sub l r _ hp (h.1.Bg hp)),λm r0 _=>this.2.2 m r0⟩
      ·rw [List.flatten_append]
       refine List.nodup_append.2 ⟨(List.nodup_cons.1 t2).2,t5.1,λb hb b' rZ e=>?_⟩
       subst e
       exact (t5.2 b rZ).2.2 l r hp (t3 b hb)
    obtain ⟨N,q1,q2⟩:=hN
    by_cases zh:len+ys.length<=r.cap-off
    ·
     have Alk:=cV (by omega)
     subst Alk
     have Sq:(r.o+off)*e.size+len*i.size+news.length<=cur.size:=by
      rw [Qg,n1,<-Nat.add_mul,<-Nat.add_mul,k2]
      exact Nat.mul_le_mul_right _ (by omega)
     have Uj:(r.o+off)*e.size+len*i.size+news.length<=cur.toList.length:=by simpa using Sq
     have hr:=Vs (P:=P) (w:=w) (ty:=ty) hu hi r.g ((r.o+off)*e.size) len (r.cap-off) cur ti k1 ⟨g,o,none⟩ ys.length c news n1' n2' n3 zh Sq
     refine ⟨_,_,Rl π l (some (Real.with r.g (r.o+off) (r.cap-off) N)),hr,h.er l pY _ _ (by rw [hp];exact Jb w r.g _) (λr' b h1 h2=>?_) (λr' b h1 h2=>?_) (λm=>?_),?_⟩
     ·cases h1
      have h2:b=r.g:=h2
      exact ⟨.inl h2, .inl ⟨r,hp,h2▸h.1.Bg hp⟩⟩
     ·cases h1
      rcases h2 with h2|h2
      ·have h2:b=r.g:=h2
       subst h2
       have gI:=h.1.sub l r _ hp (h.1.Bg hp)
       exact ⟨(h.1.place l r _ hp gI).1,by simpa using (h.1.place l r _ hp gI).2,λm r0 hm h3 h4=>hm (h.1.inj m l r0 r _ h3 hp h4 gI)⟩
      ·obtain ⟨h3,h4,_,h5⟩:=q1 b h2
       exact ⟨h3,by simpa using h4,h5⟩
     ·refine Ts (tid:=te) (cl:=cl++news) (λhf=>hA.1.2.2 (by simp only [Bool.and_eq_true] at hf;exact hf.1)) (setRow_heap w r.g cur _ ti _ k1) ?_ (by omega) (by rw [JZ xs];omega) (λk u hu=>?_)
       (((k3.cells λes z hc=>(m.cells _ _ _ _ hc).and_left)).append (hfn.cells λes z hc=>(m.cells _ _ _ _ hc).and_right)) (λjY=>?_)
      ·rw [List.size_toArray,Et _ _ _ Uj,Array.length_toList,k2];congr 1;omega
      ·rw [List.getElem?_toArray,Ei _ _ _ _ Uj]
       by_cases hk:k<cl.length
       ·rw [List.getElem?_append_left hk] at hu
        rw [if_pos (by rw [Qg];omega)]
        simpa using (k4 k u hu).2
       ·rw [List.getElem?_append_right (by omega)] at hu
        have:=(List.getElem?_eq_some_iff.1 hu).1
        rw [if_neg (by rw [Qg];omega),if_pos (by rw [Qg];omega)]
        rw [show (r.o+off)*e.size+k-((r.o+off)*e.size+len*i.size)=k-cl.length by rw [Qg,k3l];omega]
        exact hu
      ·obtain ⟨z1,Fs,rfl,z2⟩:=q2 jY
       exact ⟨List.nodup_cons.2 ⟨λhm=>(q1 _ hm).2.2.1 rfl,z1⟩,Fs,rfl,z2.Cn (by simp) λb hb=>setRow_other w r.g b _ (q1 b hb).2.2.1⟩
     ·refine zN (St.Dq st l _) (by rw [JZ xs];omega) ?_
      rw [Df]
      exact ⟨_,rfl,by dsimp only [Real.with];omega,λ_=>by simp [Real.with]⟩
    ·
     have hold: ∀j u,cl[j]?=some u->w.cell? (adb.add j)=some u:=by
      intro j u hu
      obtain ⟨q1,q2⟩:=k4 j u hu
      have pY:0<len:=by
       rcases Nat.eq_zero_or_pos len with h0|h0
       ·rw [h0] at q1;simp at q1
       ·exact h0
      rw [cV (by omega),Addr.add_lit,cellOf k1];exact q2
     have hr:=run_append_grow (P:=P) w t ty te i _ hu hi pU adb len (r.cap-off) cl (by rw [Qg];exact k3l) hold ⟨g,o,none⟩ ys.length c news n1' n2' (by omega) (by simp only [maxLen] at dQ;omega) (growslice_fits (by omega) pQ)
     have lh:=grownCap_ge w (len+ys.length) (r.cap-off) te
     have XR:=grownCap_le_maxLen w (len+ys.length) (r.cap-off) te dQ
     have:=bO h l pY (fr&&fr3) (tr&&tr2) e te (((xs.drop off).take len)++ys) (cl++news) (cl.toArray++news.toArray++Builtin.zeroCells (Au e (Ar e)).cells (grownCap w (len+ys.length) (r.cap-off) te-(len+ys.length))) (grownCap w (len+ys.length) (r.cap-off) te) _ N (.inl rfl) (by
       rw [Array.size_append,Array.size_append,List.size_toArray,List.size_toArray,Ow,hzs,k3l,n1,Qg,<-Nat.add_mul,<-Nat.add_mul];congr 1;omega) XR (by rw [JZ xs];exact lh) (λk u hu=>by
       have hk:=(List.getElem?_eq_some_iff.1 hu).1
       rw [Array.getElem?_append_left (by simpa using hk)]
       simpa using hu) ((k3.cells λes z hc=>hc.and_left).append (hfn.cells λes z hc=>hc.and_right)) (λb hb=>⟨(q1 b hb).1,(q1 b hb).2.1,(q1 b hb).2.2.2⟩) q2
     exact ⟨_,_,_,hr,this.1,this.2 _ (JZ xs).symm⟩
theorem qN {st:St} {a:Act} (h:Ak X π st a w) {l off len:Nat} {fr tr:Bool} {e:Ty} {tid:TypeId} {xs:List e.den} (pY:l<Am) (hl:Ad st.heap l=some (.arr fr tr e tid xs)) {v:Value} (hb:Dv X w π st.heap (.own l off len) v):
  ∃π',Ak X π' (st.new l (.arr fr tr e tid ((xs.drop off).take len))) a w/\Dv X w π' (st.new l (.arr fr tr e tid ((xs.drop off).take len))).heap (.own l 0 ((xs.drop off).take len).length) v/\ ∀k,k≠l->π' k=π k:=by
 obtain ⟨hlen,s9⟩:=Jv (X:=X) (w:=w) hb hl
 have hA:=(h.1.heap l).Md hl
 simp only [Av] at hA
 have Ky:((xs.drop off).take len).length=len:=by simp;omega
 have sa: ∀r,π l=some r-> ∀Fs:List (List Nat),(r.g::List.flatten Fs).Nodup->(∀b∈List.flatten Fs,r.cl b)->
   ∀b∈List.flatten Fs,(X.w0.heap.size<=b\/X.gv b)/\b<w.heap.size/\b≠r.g/\ ∀m r0,m≠l->π m=some r0-> ¬r0.cl b:= λr hr Fs hn hc b hb=>
  ⟨(h.1.place l r b hr (hc b hb)).1,(h.1.place l r b hr (hc b hb)).2,λe=>(List.nodup_cons.1 hn).1 (e▸hb),λm r0 hm h1 h2=>hm (h.1.inj m l r0 r b h1 hr h2 (hc b hb))⟩
 cases hp:π l with
 |none=>
  rw [hp] at s9 hA
  obtain ⟨rfl,rfl,rfl⟩:=s9
  refine ⟨Rl π l none,h.replace l pY none _ (Kx w _) (λr hr=>by cases hr) (λ_=>?_),?_⟩
  ·simp only [Av,Fv];simp
  ·exact ⟨⟨_,e.size,_,St.Dq st l _,rfl,by simp,by rw [Df];exact ⟨rfl,rfl,by simp⟩⟩,λk hk=>Cy _ _ hk⟩
 |some r=>
  rw [hp] at s9 hA
  obtain ⟨adb,rfl,lg,cV⟩:=s9
  obtain ⟨cur,cl,ti,k1,k2,k3,k4,k5⟩:=dE hA hlen
  have pR:r.cap<=maxLen:=by obtain ⟨_,_,_,_,_,h4,_⟩:=hA;exact h4
  have hN: ∃N:List Nat,(∀b∈N,(X.w0.heap.size<=b\/X.gv b)/\b<w.heap.size/\b≠r.g/\ ∀m r0,m≠l->π m=some r0-> ¬r0.cl b)/\(tr=true->(r.g::N).Nodup/\ ∃Fs,List.flatten Fs=N/\No w e cl ((xs.drop off).take len) Fs):=by
   cases jY:tr with
   |false=>exact ⟨[],by simp,λh=>by cases h⟩
   |true=>
    obtain ⟨Fs,t1,t2,t3⟩:=k5 jY
    exact ⟨_,sa r hp Fs t2 t3,λ_=>⟨t2,Fs,rfl,t1⟩⟩
  obtain ⟨N,n1,n2⟩:=hN
  refine ⟨Rl π l (some (Real.with r.g (r.o+off) (r.cap-off) N)),h.er l pY _ _ (Kx w _) (λr' b h1 h2=>?_) (λr' b h1 h2=>?_) (λm=>?_),?_⟩
  ·cases h1
   have h2:b=r.g:=h2
   exact ⟨.inl h2, .inl ⟨r,hp,h2▸h.1.Bg hp⟩⟩
  ·cases h1
   rcases h2 with h2|h2
   ·have h2:b=r.g:=h2
    subst h2
    have gI:=h.1.sub l r _ hp (h.1.Bg hp)
    exact ⟨(h.1.place l r _ hp gI).1,(h.1.place l r _ hp gI).2,λm r0 hm h3 h4=>hm (h.1.inj m l r0 r _ h3 hp h4 gI)⟩
   ·obtain ⟨h3,h4,_,h5⟩:=n1 b h2
    exact ⟨h3,h4,h5⟩
  ·exact Ts (tid:=tid) (λhf=>hA.1.2.2 hf) k1 (by rw [k2];congr 1;omega) (by omega) (by rw [Ky];omega) (λk u hu=>(k4 k u hu).2) (k3.cells λes z hc=>m.cells _ _ _ _ hc) n2
  ·refine ⟨⟨_,e.size,_,St.Dq st l _,rfl,by simp,?_⟩,λk hk=>Cy _ _ hk⟩
   rw [Df,Ky]
   exact ⟨adb,rfl,by dsimp only [Real.with];omega,λEy=>by simpa [Real.with] using cV (by dsimp only [Real.with] at Ey;omega)⟩
end
end Go.Proofs.YtfolipnappekaaaGreat
