/-
  Part 12 of the proof that the statement FnExactLowerBounds holds.
-/
import Derived.Test.YtfolipnappekaaaGreatCLowerBounds10
namespace Go.Proofs.YtfolipnappekaaaGreat
open Go.RowKit
section
variable {P:Program} {T:Tab} {X:Ctx} {w w':World} {π:Pi} {H:List (Nat×OB)}
def Flat (w:World) (S:Nat->Prop) (e:Ty) (cl:List Value) (zs:List e.den):Prop:=
 cl.length=zs.length*e.size/\ ∀(i:Nat) (z:e.den),zs[i]?=some z-> ∃es:List Value,es.length=e.size/\(∀j u,es[j]?=some u->cl[i*e.size+j]?=some u)/\Cells w S e es z
theorem Flat.append {S:Nat->Prop} {e:Ty} {c1 c2:List Value} {z1 z2:List e.den} (h1:Flat w S e c1 z1) (h2:Flat w S e c2 z2):Flat w S e (c1++c2) (z1++z2):=by
 refine ⟨by simp [h1.1,h2.1,Nat.add_mul],λi z hz=>?_⟩
 by_cases hi:i<z1.length
 ·rw [List.getElem?_append_left hi] at hz
  obtain ⟨es,he,hc,hr⟩:=h1.2 i z hz
  refine ⟨es,he,λj u hu=>?_,hr⟩
  have:=hc j u hu
  rw [List.getElem?_append_left (List.getElem?_eq_some_iff.1 this).1];exact this
 ·rw [List.getElem?_append_right (by omega)] at hz
  obtain ⟨es,he,hc,hr⟩:=h2.2 _ z hz
  refine ⟨es,he,λj u hu=>?_,hr⟩
  have:=hc j u hu
  have e1:i*e.size=z1.length*e.size+(i-z1.length)*e.size:=by rw [<-Nat.add_mul];congr 1;omega
  rw [List.getElem?_append_right (by rw [h1.1];omega),h1.1,show i*e.size+j-z1.length*e.size=(i-z1.length)*e.size+j by omega]
  exact this
theorem Flat.cells {S S':Nat->Prop} {e:Ty} {cl:List Value} {zs:List e.den} (h:Flat w S e cl zs) (hc: ∀es z,Cells w S e es z->Cells w' S' e es z):Flat w' S' e cl zs:=
 ⟨h.1,λi z hz=>let ⟨es,a,b,c⟩:=h.2 i z hz;⟨es,a,b,hc es z c⟩⟩
theorem Flat.nil {S:Nat->Prop} {e:Ty} :Flat w S e [] []:=⟨by simp,λi z hz=>by simp at hz⟩
def Mo (w:World) (e:Ty) (cl:List Value) (zs:List e.den) (Fs:List (List Nat)):Prop:=
 Fs.length=zs.length/\ ∀(i:Nat) (z:e.den) (F:List Nat),zs[i]?=some z->Fs[i]?=some F-> ∃es:List Value,es.length=e.size/\(∀j u,es[j]?=some u->cl[i*e.size+j]?=some u)/\Ar w F e es z
theorem Mo.append {e:Ty} {c1 c2:List Value} {z1 z2:List e.den} {F1 F2:List (List Nat)} (hc:c1.length=z1.length*e.size) (h1:Mo w e c1 z1 F1) (h2:Mo w e c2 z2 F2):Mo w e (c1++c2) (z1++z2) (F1++F2):=by
 have hl:=h1.1
 refine ⟨by simp [h1.1,h2.1],λi z F hz hF=>?_⟩
 by_cases hi:i<z1.length
 ·rw [List.getElem?_append_left hi] at hz
  rw [List.getElem?_append_left (by omega)] at hF
  obtain ⟨es,he,xr,hr⟩:=h1.2 i z F hz hF
  refine ⟨es,he,λj u hu=>?_,hr⟩
  have:=xr j u hu
  rw [List.getElem?_append_left (List.getElem?_eq_some_iff.1 this).1];exact this
 ·rw [List.getElem?_append_right (by omega)] at hz
  rw [List.getElem?_append_right (by omega),hl] at hF
  obtain ⟨es,he,xr,hr⟩:=h2.2 _ z F hz hF
  refine ⟨es,he,λj u hu=>?_,hr⟩
  have:=xr j u hu
  have hle:z1.length*e.size<=i*e.size:=Nat.mul_le_mul_right _ (by omega)
  rw [List.getElem?_append_right (by omega),<-this]
  congr 1
  rw [hc,Nat.sub_mul];omega
theorem Mo.Ch {e:Ty} {cl:List Value} {zs:List e.den} {Fs:List (List Nat)} (h:Mo w e cl zs Fs) (hs:w.heap.size<=w'.heap.size) (hk: ∀b∈List.flatten Fs,w'.heap[b]?=w.heap[b]?):Mo w' e cl zs Fs:=
 ⟨h.1,λi z F hz hF=>by
  obtain ⟨es,he,xr,hr⟩:=h.2 i z F hz hF
  exact ⟨es,he,xr,hr.Ch _ _ _ _ hs λb hb=>hk b (List.mem_flatten.2 ⟨F,List.mem_of_getElem? hF,hb⟩)⟩⟩
theorem Mo.lt {e:Ty} {cl:List Value} {zs:List e.den} {Fs:List (List Nat)} (h:Mo w e cl zs Fs) (b:Nat) (hb:b∈List.flatten Fs):b<w.heap.size:=by
 obtain ⟨F,hF,hb⟩:=List.mem_flatten.1 hb
 obtain ⟨i,hi,rfl⟩:=List.getElem_of_mem hF
 have hl:=h.1
 obtain ⟨es,_,_,hr⟩:=h.2 i (zs[i]'(by omega)) _ (List.getElem?_eq_getElem _) (List.getElem?_eq_getElem hi)
 exact hr.lt _ _ _ _ b hb
def Real.with (g o cap:Nat) (N:List Nat):Real:=⟨g,o,cap,λb=>b=g,λb=>b=g\/b∈N⟩
theorem Rz {g o cap:Nat} {N:List Nat} {fr tr:Bool} {e:Ty} {tid:TypeId} {zs:List e.den} {cl:List Value} {cur:Array Value} {ti:TypeId} (hB:fr=true->X.w0.heap.size<=g) (hg:w.heap[g]?=some (.cells cur ti (0,0)))
  (hs:cur.size=(o+cap)*e.size) (hm:cap<=maxLen) (hl:zs.length<=cap) (Mg: ∀k u,cl[k]?=some u->cur[o*e.size+k]?=some u) (hf:Flat w (Bg X.w0.heap.size X.Sc π fr) e cl zs)
  (ht:tr=true->(g::N).Nodup/\ ∃Fs,List.flatten Fs=N/\Mo w e cl zs Fs):
  Fq X w π (some (Real.with g o cap N)) fr tr e tid zs:=by
 refine ⟨⟨rfl,λb hb=>hb,hB⟩,cur,_,hg,hs,hm,hl,λi z hz=>?_,λiN=>?_⟩
 ·obtain ⟨es,a,b,c⟩:=hf.2 i z hz
  refine ⟨es,a,λj u hu=>?_,c⟩
  have:=Mg _ u (b j u hu)
  rw [<-Nat.add_assoc,<-Nat.add_mul] at this
  exact this
 ·obtain ⟨hn,Fs,rfl,h1,h2⟩:=ht iN
  refine ⟨Fs,h1,hn,λb hb=> .inr hb,λi z F hz hF=>?_⟩
  obtain ⟨es,a,b,c⟩:=h2 i z F hz hF
  refine ⟨es,a,λj u hu=>?_,c⟩
  have:=Mg _ u (b j u hu)
  rw [<-Nat.add_assoc,<-Nat.add_mul] at this
  exact this
theorem cL {r:Real} {fr tr:Bool} {e:Ty} {tid:TypeId} {xs:List e.den} {off len:Nat} (h:Fq X w π (some r) fr tr e tid xs) (hl:off+len<=xs.length):
  ∃cur cl ti,w.heap[r.g]?=some (.cells cur ti (0,0))/\cur.size=(r.o+r.cap)*e.size/\Flat w (Bg X.w0.heap.size X.Sc π fr) e cl ((xs.drop off).take len)/\
   (∀k u,cl[k]?=some u->k<len*e.size/\cur[(r.o+off)*e.size+k]?=some u)/\
   (tr=true-> ∃Fs,Mo w e cl ((xs.drop off).take len) Fs/\(r.g::List.flatten Fs).Nodup/\ ∀b∈List.flatten Fs,r.cl b):=by
 obtain ⟨h1,cur,ti,h2,h3,h4,h5,h6,h7⟩:=h
 have RI:((xs.drop off).take len).length=len:=by simp;omega
 have cT:(r.o+off)*e.size+len*e.size<=cur.size:=by
  rw [<-Nat.add_mul,h3];exact Nat.mul_le_mul_right _ (by omega)
 have XV: ∀k u,((cur.toList.drop ((r.o+off)*e.size)).take (len*e.size))[k]?=some u↔k<len*e.size/\cur[(r.o+off)*e.size+k]?=some u:=by
  intro k u
  rw [List.getElem?_take]
  split
  ·rename_i hk;rw [List.getElem?_drop];simp [hk]
  ·rename_i hk;simp [hk]
 refine ⟨cur,(cur.toList.drop ((r.o+off)*e.size)).take (len*e.size),ti,h2,h3,⟨by rw [RI];simp;omega,λi z hz=>?_⟩,λk u hu=>(XV k u).1 hu,λht=>?_⟩
 rotate_left
 ·obtain ⟨Fs,t1,t2,t3,t4⟩:=h7 ht
  refine ⟨(Fs.drop off).take len,⟨by simp [t1],λi x F hx hF=>?_⟩,?_,λb hb=>t3 b (Mf off len b hb)⟩
  ·have hi:i<len:=by
    have:=(List.getElem?_eq_some_iff.1 hx).1
    rw [RI] at this;exact this
   have ZG:xs[off+i]?=some x:=by rw [List.getElem?_take,if_pos hi,List.getElem?_drop] at hx;exact hx
   have UY:Fs[off+i]?=some F:=by rw [List.getElem?_take,if_pos hi,List.getElem?_drop] at hF;exact hF
   obtain ⟨es,a,b,c⟩:=t4 (off+i) x F ZG UY
   refine ⟨es,a,λj u hu=>(XV _ u).2 ⟨?_,?_⟩,c⟩
   ·have hj:=(List.getElem?_eq_some_iff.1 hu).1
    have:(i+1)*e.size<=len*e.size:=Nat.mul_le_mul_right _ (by omega)
    rw [Nat.add_mul,Nat.one_mul] at this
    omega
   ·have:=b j u hu
    rw [<-Nat.add_assoc,Nat.add_mul (r.o+off) i] at this
    rw [<-Nat.add_assoc];exact this
  ·have:=List.nodup_cons.1 t2
   exact List.nodup_cons.2 ⟨λhm=>this.1 (Mf off len _ hm),gI off len this.2⟩
 have hi:i<len:=by have:=(List.getElem?_eq_some_iff.1 hz).1;omega
 have hz':xs[off+i]?=some z:=by
  rw [List.getElem?_take,if_pos hi,List.getElem?_drop] at hz;exact hz
 obtain ⟨es,a,b,c⟩:=h6 (off+i) z hz'
 refine ⟨es,a,λj u hu=>(XV _ u).2 ⟨?_,?_⟩,c⟩
 ·have hj:=(List.getElem?_eq_some_iff.1 hu).1
  have:(i+1)*e.size<=len*e.size:=Nat.mul_le_mul_right _ (by omega)
  rw [Nat.add_mul,Nat.one_mul] at this
  omega
 ·have:=b j u hu
  rw [<-Nat.add_assoc,Nat.add_mul (r.o+off) i] at this
  rw [<-Nat.add_assoc];exact this
theorem bS {t ty e:TypeId} {i:TypeInfo} (hu:P.underlying t=some (.slice e)) (hi:P.info? e=some i) (b:Option Addr) (len cap:Nat) (y:Option Addr) (c:Nat) (hl:len<=cap):
  (Builtin.append_ #[t,t] ty #[.slice b len cap, .slice y 0 c]).run P w= .ok (.slice b len cap) w:=by
 cases b<;>cases y<;>simp [Builtin.append_,run_underlying hu,sizeOf,typeInfo,hi,Builtin.lenOf,hl,Builtin.firstCells,loadCells,loadCellsFrom,storeCells]
theorem Ub {t ty e:TypeId} {i:TypeInfo} (hu:P.underlying t=some (.slice e)) (hi:P.info? e=some i) (g ob JI Aaf:Nat) (cur:Array Value) (tid:TypeId) (hg:w.heap[g]?=some (.cells cur tid (0,0)))
  (a:Addr) (m c:Nat) (news:List Value) (hl:news.length=m*i.size) (Acu: ∀j u,news[j]?=some u->w.cell? (a.add j)=some u) (h1: ∀u∈news,u.oneCell'=true)
  (lx:JI+m<=Aaf) (Qt:ob+JI*i.size+news.length<=cur.size):
  (Builtin.append_ #[t,t] ty #[.slice (some ⟨g,ob,none⟩) JI Aaf, .slice (some a) m c]).run P w=
   .ok (.slice (some ⟨g,ob,none⟩) (JI+m) Aaf) (w.setRow g (Bp cur.toList (ob+JI*i.size) news).toArray):=by
 have hf:=run_firstCells_some (P:=P) w i.size m a m c news hl Acu
 have Tx:=run_storeCells_at P g (ob+JI*i.size) tid news 0 cur w hg (by simpa using Qt) h1
 simp only [Nat.add_zero] at Tx
 simp [Builtin.append_,run_underlying hu,sizeOf,typeInfo,hi,Builtin.lenOf,lx,hf,Addr.add_lit,Tx,Bp]
theorem Ns (z:Array Value) (n:Nat):(Builtin.zeroCells z n).size=n*z.size:=by simp [Builtin.zeroCells]
theorem ye {l off len:Nat} {v:Value} {fr tr:Bool} {e:Ty} {tid:TypeId} {xs:List e.den} (hl:Ad H l=some (.arr fr tr e tid xs)) (h1:off+len<=xs.length) (h2:Eb (π l) e.size off len v):An X w π H (.at (.own l off len)) v:=
 BP (X:=X) (w:=w) hl h1 h2
theorem aU {st:St} {a:Act} (h:Al X π st a w) (l:Nat) (oc:l<Ak) (fr tr:Bool) (e:Ty) (te:TypeId) (zs:List e.den) (cl:List Value) (cur:Array Value) (cap:Nat) (w1:World) (N:List Nat)
  (hw1:w1=w.drew.alloc (.cells cur te)\/w1=w.alloc (.cells cur te))
  (hs:cur.size=cap*e.size) (hm:cap<=maxLen) (hl:zs.length<=cap) (Mg: ∀(k:Nat) (u:Value),cl[k]?=some u->cur[k]?=some u) (hf:Flat w (Bg X.w0.heap.size X.Sc π fr) e cl zs)
  (hN: ∀b∈N,(X.w0.heap.size<=b\/X.gv b)/\b<w.heap.size/\ ∀m r0,m≠l->π m=some r0-> ¬r0.cl b) (ht:tr=true->N.Nodup/\ ∃Fs,List.flatten Fs=N/\Mo w e cl zs Fs):
  Al X (Qb π l (some (Real.with w.heap.size 0 cap N))) (st.new l (.arr fr tr e te zs)) a w1/\
   ∀n,n=zs.length->An X w1 (Qb π l (some (Real.with w.heap.size 0 cap N))) (st.new l (.arr fr tr e te zs)).heap (.at (.own l 0 n)) (.slice (some ⟨w.heap.size,0,none⟩) n cap):=by
 have su:w.grownBy w1 ((π l).map (·.g)):=by
  rcases hw1 with rfl|rfl
  ·exact ⟨rfl,rfl,rfl,by simp,λk hk _=>Below.heap_alloc w.drew _ k hk⟩
  ·exact World.grownBy_alloc w _ _
 have eR:w1.heap[w.heap.size]?=some (.cells cur te (0,0)):=by
  rcases hw1 with rfl|rfl
  ·exact heap_alloc_new w.drew _
  ·exact heap_alloc_new w _
 have hold: ∀k,k<w.heap.size->w1.heap[k]?=w.heap[k]?:=by
  rcases hw1 with rfl|rfl
  ·exact λk hk=>Below.heap_alloc w.drew _ k hk
  ·exact λk hk=>Below.heap_alloc w _ k hk
 refine ⟨h.dy l oc _ _ su (λr b h1 h2=>?_) (λr b h1 h2=>?_) λm=>?_,λn hn=>ye (St.Dr st l _) (by omega) ?_⟩
 ·cases h1
  have h2:b=w.heap.size:=h2
  exact ⟨.inl h2, .inr (by omega)⟩
 ·cases h1
  rcases h2 with h2|h2
  ·have h2:b=w.heap.size:=h2
   subst h2
   exact ⟨.inl h.1.below.size,Cs eR,λm r0 _ h3 h4=>by have:=(h.1.place m r0 _ h3 h4).2;omega⟩
  ·obtain ⟨h3,h4,h5⟩:=hN b h2
   exact ⟨h3,Nat.lt_of_lt_of_le h4 su.size,h5⟩
 ·refine Rz (tid:=te) (λ_=>h.1.below.size) eR (by simpa using hs) hm hl (by simpa using Mg) (hf.cells λes z hc=>m.cells _ _ _ _ hc) λiN=>?_
  obtain ⟨n1,Fs,rfl,n2⟩:=ht iN
  exact ⟨List.nodup_cons.2 ⟨λhm=>by have:=(hN _ hm).2.1;omega,n1⟩,Fs,rfl,n2.Ch su.size λb hb=>hold b (n2.lt b hb)⟩
 ·rw [Db]
  exact ⟨_,rfl,by dsimp only [Real.with];omega,λ_=>by simp [Real.with]⟩
theorem ig (hT:Ca P T) {st:St} {a:Act} (h:Al X π st a w) {t te ty:TypeId} {e:Ty} (fq:T.elem t=some te) (Qv:T.ty te=some e) {l off len:Nat} (oc:l<Ak) {fr tr mS fr3 tr2:Bool} {xs ys:List e.den} {vb vy:Value} (h3f:fr3=(mS||e.flat))
  (hl:Ad st.heap l=some (.arr fr tr e te xs)) (hb:An X w π st.heap (.at (.own l off len)) vb) (hy:Cells w (Bg X.w0.heap.size X.Sc π mS) (.slice e) [vy] ys) (ke:len+ys.length<=Bh)
  (hy2:tr2=true->e.flat=true\/ ∃F,Ar w F (.slice e) [vy] ys/\ck X w π F):
  ∃v' w' π',(Builtin.append_ #[t,t] ty #[vb,vy]).run P w= .ok v' w'/\Al X π' (st.new l (.arr (fr&&fr3) (tr&&tr2) e te (((xs.drop off).take len)++ys))) a w'/\
   An X w' π' (st.new l (.arr (fr&&fr3) (tr&&tr2) e te (((xs.drop off).take len)++ys))).heap (.at (.own l 0 (len+ys.length))) v':=by
 have hu:=hT.elem t te fq
 obtain ⟨i,hi,Oz,mf,o7⟩:=(hT.ty te e Qv).info
 obtain ⟨hlen,qc⟩:=Jh (X:=X) (w:=w) hb hl
 have hA:=(h.1.heap l).Ku hl
 simp only [Aw] at hA
 have Mg:((xs.drop off).take len).length=len:=by simp;omega
 have o3:(len+ys.length)*i.bytes<=140737488355328:=by
  have:(len+ys.length)*i.bytes<=4294967296*256:=Nat.mul_le_mul ke mf
  omega
 have cV:len+ys.length<=maxLen:=by unfold Bh at ke;simp only [maxLen];omega
 obtain ⟨ad,c,rfl,AR⟩:=pj hy
 have hzs:(As e (Aq e)).cells.size=i.size:=by
  rw [Oz]
  have hz: ∀τ:Ty,(Aq τ).length=τ.size:=by
   intro τ
   induction τ with
   |pair a r hJ er=>simp [Aq,Ty.size,hJ,er]
   |_=>rfl
  cases Tx:e.Ab with
  |true=>simp [As,Tx,Value.cells,hz]
  |false=>cases e<;>simp_all [Ty.Ab,As,Aq,Value.cells,Ty.size]
 have qe: ∀r,π l=some r-> ∀Fs:List (List Nat),(r.g::List.flatten Fs).Nodup->(∀b∈List.flatten Fs,r.cl b)->
   ∀b∈List.flatten Fs,(X.w0.heap.size<=b\/X.gv b)/\b<w.heap.size/\b≠r.g/\ ∀m r0,m≠l->π m=some r0-> ¬r0.cl b:= λr hr Fs hn hc b hb=>
  ⟨(h.1.place l r b hr (hc b hb)).1,(h.1.place l r b hr (hc b hb)).2,λe=>(List.nodup_cons.1 hn).1 (e▸hb),λm r0 hm h1 h2=>hm (h.1.inj m l r0 r b h1 hr h2 (hc b hb))⟩
 by_cases YM:ys= []
 ·
  subst YM
  simp only [List.append_nil,List.length_nil,Nat.add_zero]
  cases hp:π l with
  |none=>
   rw [hp] at qc hA
   obtain ⟨rfl,rfl,rfl⟩:=qc
   have hr:=bS (P:=P) (w:=w) (ty:=ty) hu hi none 0 0 ad c (Nat.le_refl _)
   refine ⟨_,w,Qb π l none,hr,h.replace l oc none _ (Kg w _) (λr hr=>by cases hr) (λ_=>?_),?_⟩
   ·simp only [Aw,Fq];simp
   ·exact ye (St.Dr st l _) (by simp) (by rw [Db];exact ⟨rfl,rfl,rfl⟩)
  |some r=>
   rw [hp] at qc hA
   obtain ⟨XB,rfl,jG,c8⟩:=qc
   have hr:=bS (P:=P) (w:=w) (ty:=ty) hu hi (some XB) len (r.cap-off) ad c (by omega)
   obtain ⟨cur,cl,ti,k1,k2,k3,k4,k5⟩:=cL hA hlen
   have o4:r.cap<=maxLen:=by obtain ⟨_,_,_,_,_,h4,_⟩:=hA;exact h4
   have hN: ∃N:List Nat,(∀b∈N,(X.w0.heap.size<=b\/X.gv b)/\b<w.heap.size/\b≠r.g/\ ∀m r0,m≠l->π m=some r0-> ¬r0.cl b)/\((tr&&tr2)=true->(r.g::N).Nodup/\ ∃Fs,List.flatten Fs=N/\Mo w e cl ((xs.drop off).take len) Fs):=by
    cases iN:(tr&&tr2) with
    |false=>exact ⟨[],by simp,λh=>by cases h⟩
    |true=>
     simp only [Bool.and_eq_true] at iN
     obtain ⟨Fs,t1,t2,t3⟩:=k5 iN.1
     exact ⟨_,qe r hp Fs t2 t3,λ_=>⟨t2,Fs,rfl,t1⟩⟩
   obtain ⟨N,n1,n2⟩:=hN
   refine ⟨_,w,Qb π l (some (Real.with r.g (r.o+off) (r.cap-off) N)),hr,h.dy l oc _ _ (Kg w _) (λr' b h1 h2=>?_) (λr' b h1 h2=>?_) (λm=>?_),?_⟩
   ·cases h1
    have h2:b=r.g:=h2
    exact ⟨.inl h2, .inl ⟨r,hp,h2▸h.1.Bb hp⟩⟩
   ·cases h1
    rcases h2 with h2|h2
    ·have h2:b=r.g:=h2
     subst h2
     have fj:=h.1.sub l r _ hp (h.1.Bb hp)
     exact ⟨(h.1.place l r _ hp fj).1,(h.1.place l r _ hp fj).2,λm r0 hm h3 h4=>hm (h.1.inj m l r0 r _ h3 hp h4 fj)⟩
    ·obtain ⟨h3,h4,_,h5⟩:=n1 b h2
     exact ⟨h3,h4,h5⟩
   ·exact Rz (tid:=te) (λhf=>hA.1.2.2 (by simp only [Bool.and_eq_true] at hf;exact hf.1)) k1 (by rw [k2];congr 1;omega) (by omega) (by rw [Mg];omega) (λk u hu=>(k4 k u hu).2) (k3.cells λes z hc=>(m.cells _ _ _ _ hc).and_left) n2
   ·refine ye (St.Dr st l _) (by rw [Mg];omega) ?_
    rw [Db]
    exact ⟨XB,rfl,by dsimp only [Real.with];omega,λFc=>by simpa [Real.with] using c8 (by dsimp only [Real.with] at Fc;omega)⟩
 ·rcases AR with h0|⟨g,o,rfl,news,n1,n2,n3,n5,n4⟩
  ·exact absurd h0 YM
  ·have HQ:0<ys.length:=by
    rcases Nat.eq_zero_or_pos ys.length with h0|h0
    ·exact absurd (List.eq_nil_of_length_eq_zero h0) YM
    ·exact h0
   have ZS:news.length=ys.length*i.size:=by rw [Oz];exact n1
   have ZU: ∀j u,news[j]?=some u->w.cell? ((⟨g,o,none⟩:Addr).add j)=some u:= λj u hu=>by rw [Addr.add_lit];exact n2 j u hu
   have MO:Flat w (Bg X.w0.heap.size X.Sc π fr3) e news ys:=⟨n1,λi y hy=>by
    obtain ⟨es,k1,k2,k3⟩:=n4 i y hy
    refine ⟨es,k1,k2,?_⟩
    cases hef:e.flat with
    |true=>exact Cells.flat e es y hef k3
    |false=>rw [hef,Bool.or_false] at h3f;rw [h3f];exact k3⟩
   have FW: ∀zs:List e.den,(((xs.drop off).take len)++ys).length=len+ys.length:= λ_=>by simp [Mg]
   have new:tr2=true-> ∃Fs,Mo w e news ys Fs/\ck X w π (List.flatten Fs):=by
    intro WA
    rcases hy2 WA with RD|⟨F,f1,f2⟩
    ·refine ⟨List.replicate ys.length [],⟨by simp,λi z Fi hz hF=>?_⟩,by simp,by simp⟩
     obtain ⟨es,q1,q2,q3⟩:=MO.2 i z hz
     have:Fi= []:=List.eq_of_mem_replicate (List.mem_of_getElem? hF)
     subst this
     exact ⟨es,q1,q2,Qs e es z RD q3⟩
    simp only [Ar] at f1
    obtain ⟨a0,Aoi,Als,e0,e3,e4,f1⟩:=f1
    rcases f1 with ⟨f1,_⟩|⟨ad',g',o',Fs,ea,ea',Mp,rfl,hFl,f1⟩
    ·exact absurd f1 YM
    ·have ea':=ea' (by omega)
     subst ea'
     simp only [List.cons.injEq,Value.slice.injEq,and_true] at e0
     obtain ⟨e0,_⟩:=e0
     rw [ea] at e0
     simp only [Option.some.injEq,Addr.mk.injEq,and_true] at e0
     obtain ⟨rfl,rfl⟩:=e0
     refine ⟨Fs,⟨hFl,λi z Fi hz hF=>?_⟩,(List.nodup_cons.1 f2.1).2,λb hb=>f2.2 b (List.mem_cons_of_mem _ hb)⟩
     obtain ⟨es,q1,q2,q3⟩:=f1 i z Fi hz hF
     refine ⟨es,q1,λj u hu=>?_,q3⟩
     have hi:=(List.getElem?_eq_some_iff.1 hz).1
     have hj:=(List.getElem?_eq_some_iff.1 hu).1
     refine n5 _ u ?_ (by have:=q2 j u hu;rw [Nat.add_assoc] at this;exact this)
     have:(i+1)*e.size<=ys.length*e.size:=Nat.mul_le_mul_right _ (by omega)
     rw [Nat.add_mul,Nat.one_mul] at this
     omega
   cases hp:π l with
   |none=>
    rw [hp] at qc hA
    obtain ⟨rfl,rfl,rfl⟩:=qc
    have hr:=run_append_nil (P:=P) w t ty te i _ hu hi o7 ⟨g,o,none⟩ ys.length c news ZS ZU HQ (by simp only [maxLen] at cV;omega) (by have:=o3;rw [Nat.zero_add] at this;omega)
    have jH:=grownCap_ge w ys.length 0 te
    have SH:=grownCap_le_maxLen w ys.length 0 te (by omega)
    have hN: ∃N:List Nat,(∀b∈N,(X.w0.heap.size<=b\/X.gv b)/\b<w.heap.size/\ ∀m r0,m≠l->π m=some r0-> ¬r0.cl b)/\((tr&&tr2)=true->N.Nodup/\ ∃Fs,List.flatten Fs=N/\Mo w e news ((List.take 0 (List.drop 0 xs))++ys) Fs):=by
     cases iN:(tr&&tr2) with
     |false=>exact ⟨[],by simp,λh=>by cases h⟩
     |true=>
      simp only [Bool.and_eq_true] at iN
      obtain ⟨Fs,t1,t2⟩:=new iN.2
      exact ⟨_,λb hb=>⟨(t2.2 b hb).1,(t2.2 b hb).2.1,λm r0 _=>(t2.2 b hb).2.2 m r0⟩,λ_=>⟨t2.1,Fs,rfl,by simpa using t1⟩⟩
    obtain ⟨N,q1,q2⟩:=hN
    have:=aU h l oc (fr&&fr3) (tr&&tr2) e te ((List.take 0 (List.drop 0 xs))++ys) news (news.toArray++Builtin.zeroCells (As e (Aq e)).cells (grownCap w ys.length 0 te-ys.length)) (grownCap w ys.length 0 te) _ N (.inl rfl) (by
      rw [Array.size_append,List.size_toArray,Ns,hzs,n1,Oz,<-Nat.add_mul];congr 1;omega) SH (by simpa using jH) (λk u hu=>by
      rw [Array.getElem?_append_left (by simpa using (List.getElem?_eq_some_iff.1 hu).1)];simpa using hu) (by simpa using MO.cells λes z hc=>hc.and_right) q1 q2
    refine ⟨_,_,_,hr,this.1,?_⟩
    have:=this.2 ys.length (by simp)
    simpa using this
   |some r=>
    rw [hp] at qc hA
    obtain ⟨XB,rfl,jG,c8⟩:=qc
    obtain ⟨cur,cl,ti,k1,k2,k3,k4,k5⟩:=cL hA hlen
    have o4:r.cap<=maxLen:=by obtain ⟨_,_,_,_,_,h4,_⟩:=hA;exact h4
    have k3l:cl.length=len*e.size:=by rw [k3.1,Mg]
    have hN: ∃N:List Nat,(∀b∈N,(X.w0.heap.size<=b\/X.gv b)/\b<w.heap.size/\b≠r.g/\ ∀m r0,m≠l->π m=some r0-> ¬r0.cl b)/\((tr&&tr2)=true->N.Nodup/\ ∃Fs,List.flatten Fs=N/\Mo w e (cl++news) (((xs.drop off).take len)++ys) Fs):=by
     cases iN:(tr&&tr2) with
     |false=>exact ⟨[],by simp,λh=>by cases h⟩
     |true=>
      simp only [Bool.and_eq_true] at iN
      obtain ⟨Fs,t1,t2,t3⟩:=k5 iN.1
      obtain ⟨Fs2,t4,t5⟩:=new iN.2
      have ho:=qe r hp Fs t2 t3
      refine ⟨List.flatten (Fs++Fs2),λb hb=>?_,λ_=>⟨?_,Fs++Fs2,rfl,Mo.append (by rw [k3l,Mg]) t1 t4⟩⟩
      ·rw [List.flatten_append] at hb
       rcases List.mem_append.1 hb with hb|hb
       ·exact ho b hb
       ·have:=t5.2 b hb
        exact ⟨this.1,this.2.1,λe=>this.2.2 l r hp (e▸h.1.sub l r _ hp (h.1.Bb hp)),λm r0 _=>this.2.2 m r0⟩
      ·rw [List.flatten_append]
       refine List.nodup_append.2 ⟨(List.nodup_cons.1 t2).2,t5.1,λb hb b' cS e=>?_⟩
       subst e
       exact (t5.2 b cS).2.2 l r hp (t3 b hb)
    obtain ⟨N,q1,q2⟩:=hN
    by_cases lx:len+ys.length<=r.cap-off
    ·
     have Ah4:=c8 (by omega)
     subst Ah4
     have Qt:(r.o+off)*e.size+len*i.size+news.length<=cur.size:=by
      rw [Oz,n1,<-Nat.add_mul,<-Nat.add_mul,k2]
      exact Nat.mul_le_mul_right _ (by omega)
     have Ss:(r.o+off)*e.size+len*i.size+news.length<=cur.toList.length:=by simpa using Qt
     have hr:=Ub (P:=P) (w:=w) (ty:=ty) hu hi r.g ((r.o+off)*e.size) len (r.cap-off) cur ti k1 ⟨g,o,none⟩ ys.length c news ZS ZU n3 lx Qt
     refine ⟨_,_,Qb π l (some (Real.with r.g (r.o+off) (r.cap-off) N)),hr,h.dy l oc _ _ (by rw [hp];exact Ip w r.g _) (λr' b h1 h2=>?_) (λr' b h1 h2=>?_) (λm=>?_),?_⟩
     ·cases h1
      have h2:b=r.g:=h2
      exact ⟨.inl h2, .inl ⟨r,hp,h2▸h.1.Bb hp⟩⟩
     ·cases h1
      rcases h2 with h2|h2
      ·have h2:b=r.g:=h2
       subst h2
       have fj:=h.1.sub l r _ hp (h.1.Bb hp)
       exact ⟨(h.1.place l r _ hp fj).1,by simpa using (h.1.place l r _ hp fj).2,λm r0 hm h3 h4=>hm (h.1.inj m l r0 r _ h3 hp h4 fj)⟩
      ·obtain ⟨h3,h4,_,h5⟩:=q1 b h2
       exact ⟨h3,by simpa using h4,h5⟩
     ·refine Rz (tid:=te) (cl:=cl++news) (λhf=>hA.1.2.2 (by simp only [Bool.and_eq_true] at hf;exact hf.1)) (setRow_heap w r.g cur _ ti _ k1) ?_ (by omega) (by rw [FW xs];omega) (λk u hu=>?_)
       (((k3.cells λes z hc=>(m.cells _ _ _ _ hc).and_left)).append (MO.cells λes z hc=>(m.cells _ _ _ _ hc).and_right)) (λiN=>?_)
      ·rw [List.size_toArray,Eo _ _ _ Ss,Array.length_toList,k2];congr 1;omega
      ·rw [List.getElem?_toArray,Eg _ _ _ _ Ss]
       by_cases hk:k<cl.length
       ·rw [List.getElem?_append_left hk] at hu
        rw [if_pos (by rw [Oz];omega)]
        simpa using (k4 k u hu).2
       ·rw [List.getElem?_append_right (by omega)] at hu
        have:=(List.getElem?_eq_some_iff.1 hu).1
        rw [if_neg (by rw [Oz];omega),if_pos (by rw [Oz];omega)]
        rw [show (r.o+off)*e.size+k-((r.o+off)*e.size+len*i.size)=k-cl.length by rw [Oz,k3l];omega]
        exact hu
      ·obtain ⟨z1,Fs,rfl,z2⟩:=q2 iN
       exact ⟨List.nodup_cons.2 ⟨λhm=>(q1 _ hm).2.2.1 rfl,z1⟩,Fs,rfl,z2.Ch (by simp) λb hb=>setRow_other w r.g b _ (q1 b hb).2.2.1⟩
     ·refine ye (St.Dr st l _) (by rw [FW xs];omega) ?_
      rw [Db]
      exact ⟨_,rfl,by dsimp only [Real.with];omega,λ_=>by simp [Real.with]⟩
    ·
     have hold: ∀j u,cl[j]?=some u->w.cell? (XB.add j)=some u:=by
      intro j u hu
      obtain ⟨q1,q2⟩:=k4 j u hu
      have oc:0<len:=by
       rcases Nat.eq_zero_or_pos len with h0|h0
       ·rw [h0] at q1;simp at q1
       ·exact h0
      rw [c8 (by omega),Addr.add_lit,cellOf k1];exact q2
     have hr:=run_append_grow (P:=P) w t ty te i _ hu hi o7 XB len (r.cap-off) cl (by rw [Oz];exact k3l) hold ⟨g,o,none⟩ ys.length c news ZS ZU (by omega) (by simp only [maxLen] at cV;omega) (growslice_fits (by omega) o3)
     have jH:=grownCap_ge w (len+ys.length) (r.cap-off) te
     have SH:=grownCap_le_maxLen w (len+ys.length) (r.cap-off) te cV
     have:=aU h l oc (fr&&fr3) (tr&&tr2) e te (((xs.drop off).take len)++ys) (cl++news) (cl.toArray++news.toArray++Builtin.zeroCells (As e (Aq e)).cells (grownCap w (len+ys.length) (r.cap-off) te-(len+ys.length))) (grownCap w (len+ys.length) (r.cap-off) te) _ N (.inl rfl) (by
       rw [Array.size_append,Array.size_append,List.size_toArray,List.size_toArray,Ns,hzs,k3l,n1,Oz,<-Nat.add_mul,<-Nat.add_mul];congr 1;omega) SH (by rw [FW xs];exact jH) (λk u hu=>by
       have hk:=(List.getElem?_eq_some_iff.1 hu).1
       rw [Array.getElem?_append_left (by simpa using hk)]
       simpa using hu) ((k3.cells λes z hc=>hc.and_left).append (MO.cells λes z hc=>hc.and_right)) (λb hb=>⟨(q1 b hb).1,(q1 b hb).2.1,(q1 b hb).2.2.2⟩) q2
     exact ⟨_,_,_,hr,this.1,this.2 _ (FW xs).symm⟩
theorem oX {st:St} {a:Act} (h:Al X π st a w) {l off len:Nat} {fr tr:Bool} {e:Ty} {tid:TypeId} {xs:List e.den} (oc:l<Ak) (hl:Ad st.heap l=some (.arr fr tr e tid xs)) {v:Value} (hb:Dw X w π st.heap (.own l off len) v):
  ∃π',Al X π' (st.new l (.arr fr tr e tid ((xs.drop off).take len))) a w/\Dw X w π' (st.new l (.arr fr tr e tid ((xs.drop off).take len))).heap (.own l 0 ((xs.drop off).take len).length) v/\ ∀k,k≠l->π' k=π k:=by
 obtain ⟨hlen,qc⟩:=Jh (X:=X) (w:=w) hb hl
 have hA:=(h.1.heap l).Ku hl
 simp only [Aw] at hA
 have Mg:((xs.drop off).take len).length=len:=by simp;omega
 have qe: ∀r,π l=some r-> ∀Fs:List (List Nat),(r.g::List.flatten Fs).Nodup->(∀b∈List.flatten Fs,r.cl b)->
   ∀b∈List.flatten Fs,(X.w0.heap.size<=b\/X.gv b)/\b<w.heap.size/\b≠r.g/\ ∀m r0,m≠l->π m=some r0-> ¬r0.cl b:= λr hr Fs hn hc b hb=>
  ⟨(h.1.place l r b hr (hc b hb)).1,(h.1.place l r b hr (hc b hb)).2,λe=>(List.nodup_cons.1 hn).1 (e▸hb),λm r0 hm h1 h2=>hm (h.1.inj m l r0 r b h1 hr h2 (hc b hb))⟩
 cases hp:π l with
 |none=>
  rw [hp] at qc hA
  obtain ⟨rfl,rfl,rfl⟩:=qc
  refine ⟨Qb π l none,h.replace l oc none _ (Kg w _) (λr hr=>by cases hr) (λ_=>?_),?_⟩
  ·simp only [Aw,Fq];simp
  ·exact ⟨⟨_,e.size,_,St.Dr st l _,rfl,by simp,by rw [Db];exact ⟨rfl,rfl,by simp⟩⟩,λk hk=>Cw _ _ hk⟩
 |some r=>
  rw [hp] at qc hA
  obtain ⟨XB,rfl,jG,c8⟩:=qc
  obtain ⟨cur,cl,ti,k1,k2,k3,k4,k5⟩:=cL hA hlen
  have o4:r.cap<=maxLen:=by obtain ⟨_,_,_,_,_,h4,_⟩:=hA;exact h4
  have hN: ∃N:List Nat,(∀b∈N,(X.w0.heap.size<=b\/X.gv b)/\b<w.heap.size/\b≠r.g/\ ∀m r0,m≠l->π m=some r0-> ¬r0.cl b)/\(tr=true->(r.g::N).Nodup/\ ∃Fs,List.flatten Fs=N/\Mo w e cl ((xs.drop off).take len) Fs):=by
   cases iN:tr with
   |false=>exact ⟨[],by simp,λh=>by cases h⟩
   |true=>
    obtain ⟨Fs,t1,t2,t3⟩:=k5 iN
    exact ⟨_,qe r hp Fs t2 t3,λ_=>⟨t2,Fs,rfl,t1⟩⟩
  obtain ⟨N,n1,n2⟩:=hN
  refine ⟨Qb π l (some (Real.with r.g (r.o+off) (r.cap-off) N)),h.dy l oc _ _ (Kg w _) (λr' b h1 h2=>?_) (λr' b h1 h2=>?_) (λm=>?_),?_⟩
  ·cases h1
   have h2:b=r.g:=h2
   exact ⟨.inl h2, .inl ⟨r,hp,h2▸h.1.Bb hp⟩⟩
  ·cases h1
   rcases h2 with h2|h2
   ·have h2:b=r.g:=h2
    subst h2
    have fj:=h.1.sub l r _ hp (h.1.Bb hp)
    exact ⟨(h.1.place l r _ hp fj).1,(h.1.place l r _ hp fj).2,λm r0 hm h3 h4=>hm (h.1.inj m l r0 r _ h3 hp h4 fj)⟩
   ·obtain ⟨h3,h4,_,h5⟩:=n1 b h2
    exact ⟨h3,h4,h5⟩
  ·exact Rz (tid:=tid) (λhf=>hA.1.2.2 hf) k1 (by rw [k2];congr 1;omega) (by omega) (by rw [Mg];omega) (λk u hu=>(k4 k u hu).2) (k3.cells λes z hc=>m.cells _ _ _ _ hc) n2
  ·refine ⟨⟨_,e.size,_,St.Dr st l _,rfl,by simp,?_⟩,λk hk=>Cw _ _ hk⟩
   rw [Db,Mg]
   exact ⟨XB,rfl,by dsimp only [Real.with];omega,λFc=>by simpa [Real.with] using c8 (by dsimp only [Real.with] at Fc;omega)⟩
end
end Go.Proofs.YtfolipnappekaaaGreat
