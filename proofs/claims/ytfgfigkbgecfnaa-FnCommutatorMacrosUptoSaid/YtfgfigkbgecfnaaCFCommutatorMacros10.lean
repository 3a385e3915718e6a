/-
  Part 11 of the proof that the statement FnCommutatorMacros holds.
-/
import Derived.Test.YtfgfigkbgecfnaaCFCommutatorMacros09
namespace Go.Proofs.Ytfgfigkbgecfnaa
open Go.RowKit
section
variable {P:Program} {T:Tab} {X:Ctx} {w w':World} {π:Pi} {H:List (Nat×OB)}
theorem OB.map_map (f g:AC->AC) (b:OB):OB.map g (OB.map f b)=OB.map (λc=>g (f c)) b:=by
 cases b with
 |var t vs=>simp [OB.map,Function.comp_def]
 |_=>rfl
theorem OB.tS (b:OB):OB.map (λc=>c) b=b:=by
 cases b with
 |var t vs=>simp [OB.map]
 |_=>rfl
def Ic (π π':Pi) (H H':List (Nat×OB)):Prop:= ∀l b',Ap H' l=some b'->π' l=π l/\ ∃b f,Ap H l=some b/\b'=OB.map f b
theorem Ic.refl (π:Pi) (H:List (Nat×OB)):Ic π π H H:= λ_ b h=>⟨rfl,b,λc=>c,h,(OB.tS b).symm⟩
theorem Ic.trans {Xp zR UD:Pi} {H1 H2 H3:List (Nat×OB)} (h:Ic Xp zR H1 H2) (h':Ic zR UD H2 H3):Ic Xp UD H1 H3:= λl b hb=>by
 obtain ⟨e1,b1,f1,h1,rfl⟩:=h' l b hb
 obtain ⟨e2,b2,f2,h2,rfl⟩:=h l b1 h1
 exact ⟨e1.trans e2,b2,_,h2,OB.map_map f2 f1 b2⟩
theorem Ic.freeze (st:St) (l:Nat) (fr:Bool) (e:Ty) (xs:List e.den):Ic π (Ry π l none) st.heap (st.freeze l fr e xs).heap:= λk b hb=>by
 by_cases hk:k=l
 ·subst hk;rw [St.Jn] at hb;cases hb
 ·rw [St.Ny st l k fr e xs hk] at hb
  cases h0:Ap st.heap k with
  |none=>rw [h0] at hb;cases hb
  |some b0=>
   rw [h0] at hb
   simp only [Ah,Aa] at hb
   exact ⟨Ek π none hk,b0,_,rfl,hb.symm⟩
theorem Ic.Gf (st:St) (l:Nat) (v:Ty) (m:ByteArray->Option v.den):Ic π (Ry π l none) st.heap (st.Gf l v m).heap:= λk b hb=>by
 by_cases hk:k=l
 ·subst hk;rw [St.Pa] at hb;cases hb
 ·rw [St.Nm st l k v m hk] at hb
  cases h0:Ap st.heap k with
  |none=>rw [h0] at hb;cases hb
  |some b0=>
   rw [h0] at hb
   simp only [Ah,Aa] at hb
   exact ⟨Ek π none hk,b0,_,rfl,hb.symm⟩
theorem Ic.gone {π':Pi} {H':List (Nat×OB)} (k:Ic π π' H H') {l:Nat} (h:Ap H l=none):Ap H' l=none:=by
 cases hb:Ap H' l with
 |none=>rfl
 |some b=>
  obtain ⟨_,b0,f,h1,_⟩:=k l b hb
  rw [h] at h1;cases h1
def Cm (st:St):AC->AC
 | .own l off len=>match st.at l with
  |some (.arr fr _ e _ xs)=> .data fr (.slice e) ((xs.drop off).take len)
  |some (.Ev e _ xs)=> .data false (.slice e) ((xs.drop off).take len)
  |_=> .own l off len
 | .Hv l=>match st.at l with
  |some (.Qy v m)=> .data false (.smap v) m
  |_=> .Hv l
 |c=>c
theorem Pf {st:St} {c:AC} (h:c.settled=true):Cm st c=c:=by
 cases c<;>simp [AC.settled] at h<;>rfl
theorem od {st st':St} {f:AC->AC} {l:Nat} (hH: ∀m,m≠l->Ap st'.heap m=(Ap st.heap m).map (OB.map f)) {c:AC} (hc: ∀k∈c.refs,k≠l):Cm st' c=Cm st c:=by
 cases c with
 |own k off len=>
  have hk:k≠l:=hc k (by simp [AC.refs])
  simp only [Cm,St.at,hH k hk]
  cases Ap st.heap k with
  |none=>rfl
  |some b=>cases b<;>rfl
 |Hv k=>
  have hk:k≠l:=hc k (by simp [AC.refs])
  simp only [Cm,St.at,hH k hk]
  cases Ap st.heap k with
  |none=>rfl
  |some b=>cases b<;>rfl
 |_=>rfl
theorem cf {a:Act} : ∀(n:Nat) (st:St) (π:Pi) (cs:List AC) (us:List Value) (cX:List AC) (st':St),Ax X π st a w->Eb X w π st.heap cs us->
  Ff n st cs=some (cX,st')-> ∃π',Ax X π' st' a w/\Eb X w π' st'.heap cX us/\cX.all (·.settled)=true/\Ic π π' st.heap st'.heap/\cX=cs.map (Cm st)/\
   (∀k,k∈cs.flatMap AC.refs->Ap st'.heap k=none)
 |0,st,π,cs,us,cX,st',h,hr,he=>by
  simp only [Ff] at he
  split at he
  ·rename_i hs
   simp only [Aa,Ab] at he
   obtain ⟨rfl,rfl⟩:=he
   have JC:=Au.1 hs
   exact ⟨π,h,hr,hs,Ic.refl _ _,((Fw λc hc=>Pf (JC c hc)).trans (List.map_id'' (λ_=>rfl) cs)).symm,λk hk=>by
    obtain ⟨c,hc,su⟩:=Mb.1 hk
    have:=JC c hc
    cases c<;>simp [AC.settled] at this<;>simp [AC.refs] at su⟩
  ·cases he
 |n+1,st,π,cs,us,cX,st',h,hr,he=>by
  simp only [Ff] at he
  have step: ∀(f:AC->AC) (l:Nat) (st1:St),Ax X (Ry π l none) st1 a w->Move X w w π (Ry π l none) st.heap st1.heap f->Ap st1.heap l=none->(∀m,m≠l->Ap st1.heap m=(Ap st.heap m).map (OB.map f))->
    Ic π (Ry π l none) st.heap st1.heap->(∀c∈cs,(∀k∈c.refs,k≠l)->f c=c)->(∀c∈cs,l∈c.refs->(f c).refs= []/\(Cm st1 (f c)).settled=true->f c=Cm st c)->
    (∀c∈cs,l∈c.refs->(f c).refs= [])->Ff n st1 (cs.map f)=some (cX,st')->
    ∃π',Ax X π' st' a w/\Eb X w π' st'.heap cX us/\cX.all (·.settled)=true/\Ic π π' st.heap st'.heap/\cX=cs.map (Cm st)/\(∀k,k∈cs.flatMap AC.refs->Ap st'.heap k=none):=by
   intro f l st1 h1 m hl hH hK SV SW KN he
   obtain ⟨π',h2,h3,h4,h5,h6,h7⟩:=cf n st1 _ (cs.map f) us cX st' h1 (m.EW hr) he
   refine ⟨π',h2,h3,h4,hK.trans h5,?_,λk hk=>?_⟩
   ·rw [h6,List.map_map]
    refine Fw λc hc=>?_
    simp only [Function.comp]
    by_cases Na:l∈c.refs
    ·have Ig:=Au.1 h4
     have nS:Cm st1 (f c)∈cX:=by rw [h6];exact Bq.2 ⟨f c,Bq.2 ⟨c,hc,rfl⟩,rfl⟩
     have hs:=Ig _ nS
     have h8:=SW c hc Na ⟨KN c hc Na,hs⟩
     have h9:Cm st1 (f c)=f c:=by
      have:=KN c hc Na
      cases VW:f c<;>rw [VW] at this<;>first|(simp [AC.refs] at this;done)|rfl
     rw [h9,h8]
    ·have Hs: ∀k∈c.refs,k≠l:= λk hk e=>Na (e▸hk)
     rw [SV c hc Hs]
     exact od hH Hs
   ·obtain ⟨c,hc,su⟩:=Mb.1 hk
    by_cases Om:k=l
    ·subst Om;exact h5.gone hl
    ·by_cases Na:l∈c.refs
     ·
      have Ig:=Au.1 h4
      have nS:Cm st1 (f c)∈cX:=by rw [h6];exact Bq.2 ⟨f c,Bq.2 ⟨c,hc,rfl⟩,rfl⟩
      have hs:=Ig _ nS
      have h8:=SW c hc Na ⟨KN c hc Na,hs⟩
      have h9:Cm st1 (f c)=f c:=by
       have:=KN c hc Na
       cases VW:f c<;>rw [VW] at this<;>first|(simp [AC.refs] at this;done)|rfl
      rw [h9,h8] at hs
      cases c with
      |clo g Cx=>simp [Cm,AC.settled] at hs
      |own k' _ _=>simp [AC.refs] at Na su;exact absurd (su.trans Na.symm) Om
      |Hv k'=>simp [AC.refs] at Na su;exact absurd (su.trans Na.symm) Om
      |Ez k' _=>simp [AC.refs] at Na su;exact absurd (su.trans Na.symm) Om
      |Hj k' _=>simp [AC.refs] at Na su;exact absurd (su.trans Na.symm) Om
      |sub k' _ _=>simp [AC.refs] at Na su;exact absurd (su.trans Na.symm) Om
      |Hf k' _ _=>simp [AC.refs] at Na su;exact absurd (su.trans Na.symm) Om
      |_=>simp [AC.refs] at su
     ·have Hs: ∀k∈c.refs,k≠l:= λk hk e=>Na (e▸hk)
      exact h7 k (Mb.2 ⟨f c,Bq.2 ⟨c,hc,rfl⟩,by rw [SV c hc Hs];exact su⟩)
  have sw: ∀(st1:St) (c:AC),(Cm st1 c).settled=true->c≠ .undef:= λst1 c hs e=>by rw [e] at hs;simp [Cm,AC.settled] at hs
  split at he
  ·rename_i hf
   simp only [Aa,Ab] at he
   obtain ⟨rfl,rfl⟩:=he
   have JC: ∀c∈cs,c.settled=true:= λc hc=>by have:=List.find?_eq_none.1 hf c hc;simpa using this
   exact ⟨π,h,hr,Au.2 JC,Ic.refl _ _,((Fw λc hc=>Pf (JC c hc)).trans (List.map_id'' (λ_=>rfl) cs)).symm,λk hk=>by
    obtain ⟨c,hc,su⟩:=Mb.1 hk
    have:=JC c hc
    cases c<;>simp [AC.settled] at this<;>simp [AC.refs] at su⟩
  ·rename_i l off len hf
   split at he
   ·rename_i fr tr e tid xs hl
    unfold St.at at hl
    obtain ⟨h1,m⟩:=h.freeze (fr:=fr) (.inl ⟨tr,tid,hl⟩)
    refine step _ l _ h1 m (St.Jn st l fr e xs) (λm hm=>St.Ny st l m fr e xs hm) (Ic.freeze st l fr e xs) (λc _ hc=>di hc) (λc _ Na hs=>?_) (λc _ Na=>?_) he
    ·cases c with
     |own k o n=>have:k=l:=(Ad.1 Na).symm
                 subst this;simp only [Ca,Af,Cm,St.at,hl]
     |Ez k o=>have:k=l:=(Ad.1 Na).symm
              subst this;simp only [Ca,Af] at hs;exact absurd rfl (sw _ _ hs.2)
     |Hj k o=>have:k=l:=(Ad.1 Na).symm
              subst this;simp only [Ca,Af] at hs;exact absurd rfl (sw _ _ hs.2)
     |sub k o o2=>have:k=l:=(Ad.1 Na).symm
                  subst this;simp only [Ca,Af] at hs;exact absurd rfl (sw _ _ hs.2)
     |Hf k o o2=>have:k=l:=(Ad.1 Na).symm
                 subst this;simp only [Ca,Af] at hs;exact absurd rfl (sw _ _ hs.2)
     |Hv k=>have:k=l:=(Ad.1 Na).symm
            subst this;simp only [Ca,Af] at hs;exact absurd rfl (sw _ _ hs.2)
     |clo g Cx=>
      simp only [Ca] at hs
      rw [Af (by simpa [AC.refs] using Na)] at hs
      exact absurd rfl (sw _ _ hs.2)
     |_=>simp [AC.refs] at Na
    ·cases c with
     |own k o n=>have:k=l:=(Ad.1 Na).symm
                 subst this;simp only [Ca,Af];rfl
     |Ez k o=>have:k=l:=(Ad.1 Na).symm
              subst this;simp only [Ca,Af];rfl
     |Hj k o=>have:k=l:=(Ad.1 Na).symm
              subst this;simp only [Ca,Af];rfl
     |sub k o o2=>have:k=l:=(Ad.1 Na).symm
                  subst this;simp only [Ca,Af];rfl
     |Hf k o o2=>have:k=l:=(Ad.1 Na).symm
                 subst this;simp only [Ca,Af];rfl
     |Hv k=>have:k=l:=(Ad.1 Na).symm
            subst this;simp only [Ca,Af];rfl
     |clo g Cx=>simp only [Ca];rw [Af (by simpa [AC.refs] using Na)];rfl
     |_=>simp [AC.refs] at Na
   ·rename_i e tid xs hl
    unfold St.at at hl
    obtain ⟨h1,m⟩:=h.freeze (fr:=false) (.inr ⟨rfl,tid,hl⟩)
    refine step _ l _ h1 m (St.Jn st l false e xs) (λm hm=>St.Ny st l m false e xs hm) (Ic.freeze st l false e xs) (λc _ hc=>di hc) (λc _ Na hs=>?_) (λc _ Na=>?_) he
    ·cases c with
     |own k o n=>have:k=l:=(Ad.1 Na).symm
                 subst this;simp only [Ca,Af,Cm,St.at,hl]
     |Ez k o=>have:k=l:=(Ad.1 Na).symm
              subst this;simp only [Ca,Af] at hs;exact absurd rfl (sw _ _ hs.2)
     |Hj k o=>have:k=l:=(Ad.1 Na).symm
              subst this;simp only [Ca,Af] at hs;exact absurd rfl (sw _ _ hs.2)
     |sub k o o2=>have:k=l:=(Ad.1 Na).symm
                  subst this;simp only [Ca,Af] at hs;exact absurd rfl (sw _ _ hs.2)
     |Hf k o o2=>have:k=l:=(Ad.1 Na).symm
                 subst this;simp only [Ca,Af] at hs;exact absurd rfl (sw _ _ hs.2)
     |Hv k=>have:k=l:=(Ad.1 Na).symm
            subst this;simp only [Ca,Af] at hs;exact absurd rfl (sw _ _ hs.2)
     |clo g Cx=>
      simp only [Ca] at hs
      rw [Af (by simpa [AC.refs] using Na)] at hs
      exact absurd rfl (sw _ _ hs.2)
     |_=>simp [AC.refs] at Na
    ·cases c with
     |own k o n=>have:k=l:=(Ad.1 Na).symm
                 subst this;simp only [Ca,Af];rfl
     |Ez k o=>have:k=l:=(Ad.1 Na).symm
              subst this;simp only [Ca,Af];rfl
     |Hj k o=>have:k=l:=(Ad.1 Na).symm
              subst this;simp only [Ca,Af];rfl
     |sub k o o2=>have:k=l:=(Ad.1 Na).symm
                  subst this;simp only [Ca,Af];rfl
     |Hf k o o2=>have:k=l:=(Ad.1 Na).symm
                 subst this;simp only [Ca,Af];rfl
     |Hv k=>have:k=l:=(Ad.1 Na).symm
            subst this;simp only [Ca,Af];rfl
     |clo g Cx=>simp only [Ca];rw [Af (by simpa [AC.refs] using Na)];rfl
     |_=>simp [AC.refs] at Na
   ·cases he
  ·rename_i l hf
   split at he
   ·rename_i v mm hl
    unfold St.at at hl
    obtain ⟨h1,m⟩:=h.Gf hl
    refine step _ l _ h1 m (St.Pa st l v mm) (λm hm=>St.Nm st l m v mm hm) (Ic.Gf st l v mm) (λc _ hc=>m5 hc) (λc _ Na hs=>?_) (λc _ Na=>?_) he
    ·cases c with
     |Hv k=>have:k=l:=(Ad.1 Na).symm
            subst this;simp only [Ey,Af,Cm,St.at,hl]
     |Ez k o=>have:k=l:=(Ad.1 Na).symm
              subst this;simp only [Ey,Af] at hs;exact absurd rfl (sw _ _ hs.2)
     |Hj k o=>have:k=l:=(Ad.1 Na).symm
              subst this;simp only [Ey,Af] at hs;exact absurd rfl (sw _ _ hs.2)
     |sub k o o2=>have:k=l:=(Ad.1 Na).symm
                  subst this;simp only [Ey,Af] at hs;exact absurd rfl (sw _ _ hs.2)
     |Hf k o o2=>have:k=l:=(Ad.1 Na).symm
                 subst this;simp only [Ey,Af] at hs;exact absurd rfl (sw _ _ hs.2)
     |own k o n=>have:k=l:=(Ad.1 Na).symm
                 subst this;simp only [Ey,Af] at hs;exact absurd rfl (sw _ _ hs.2)
     |clo g Cx=>
      simp only [Ey] at hs
      rw [Af (by simpa [AC.refs] using Na)] at hs
      exact absurd rfl (sw _ _ hs.2)
     |_=>simp [AC.refs] at Na
    ·cases c with
     |own k o n=>have:k=l:=(Ad.1 Na).symm
                 subst this;simp only [Ey,Af];rfl
     |Ez k o=>have:k=l:=(Ad.1 Na).symm
              subst this;simp only [Ey,Af];rfl
     |Hj k o=>have:k=l:=(Ad.1 Na).symm
              subst this;simp only [Ey,Af];rfl
     |sub k o o2=>have:k=l:=(Ad.1 Na).symm
                  subst this;simp only [Ey,Af];rfl
     |Hf k o o2=>have:k=l:=(Ad.1 Na).symm
                 subst this;simp only [Ey,Af];rfl
     |Hv k=>have:k=l:=(Ad.1 Na).symm
            subst this;simp only [Ey,Af];rfl
     |clo g Cx=>simp only [Ey];rw [Af (by simpa [AC.refs] using Na)];rfl
     |_=>simp [AC.refs] at Na
   ·cases he
  ·cases he
def cF (X:Ctx) (w:World) (π:Pi) (F:List Nat):Prop:=F.Nodup/\ ∀b∈F,(X.w0.heap.size<=b\/X.gv b)/\b<w.heap.size/\ ∀l r,π l=some r-> ¬r.cl b
theorem Ss {S:Nat->Prop} : ∀(e:Ty) (es:List Value) (x:e.den),e.flat=true->Cells w S e es x->Bz w [] e es x
 | .int k,cs,n,_,h=>⟨rfl,h⟩
 | .bool,cs,n,_,h=>⟨rfl,h⟩
 | .str,cs,n,_,h=>⟨rfl,h⟩
 | .unit,cs,n,_,h=>⟨rfl,h⟩
 | .pair a r,cs,x,hf,h=>by
  simp only [Ty.flat,Ag] at hf
  simp only [Cells] at h
  simp only [Bz]
  obtain ⟨c1,c2,h1,h2,h3⟩:=h
  exact ⟨c1,c2,[],[],h1,rfl,Ss a c1 x.1 hf.1 h2,Ss r c2 x.2 hf.2 h3⟩
 | .slice _,_,_,hf,_=>by simp [Ty.flat] at hf
 | .oslice _,_,_,hf,_=>by simp [Ty.flat] at hf
 | .ptr _,_,_,hf,_=>by simp [Ty.flat] at hf
 | .optr _,_,_,hf,_=>by simp [Ty.flat] at hf
 | .smap _,_,_,hf,_=>by simp [Ty.flat] at hf
 | .clo _ _,_,_,hf,_=>by simp [Ty.flat] at hf
theorem Oj {Fs:List (List Nat)} (off len:Nat) (b:Nat) (h:b∈List.flatten ((Fs.drop off).take len)):b∈List.flatten Fs:=by
 obtain ⟨F,hF,hb⟩:=Fc.1 h
 exact Fc.2 ⟨F,Zq (Hm hF),hb⟩
theorem ck {α:Type} {a b:List (List α)} (h:a.Sublist b):(List.flatten a).Sublist (List.flatten b):=by
 induction h with
 |slnil=>exact List.Sublist.refl _
 |cons c _ ih=>simp only [Ik];exact ih.trans (List.sublist_append_right _ _)
 |cons_cons c _ ih=>simp only [Ik];exact List.Sublist.append (List.Sublist.refl _) ih
theorem gk {Fs:List (List Nat)} (off len:Nat) (h:(List.flatten Fs).Nodup):(List.flatten ((Fs.drop off).take len)).Nodup:=by
 have h1:((Fs.drop off).take len).Sublist Fs:=(List.take_sublist len _).trans (List.drop_sublist off Fs)
 exact h.sublist (ck h1)
theorem eE {P:Nat->Prop} {r:Real} {off len:Nat} {v:Value} {e:Ty} {tid:TypeId} {xs:List e.den} {cur:Array Value} (h2:w.heap[r.g]?=some (.cells cur tid (0,0))) (Vc:cur.size=(r.o+r.cap)*e.size) (kO:r.cap<=maxLen)
  (hlen:off+len<=xs.length) (hv:Fm (some r) e.size off len v) (ht:Sh w P r.g r.o cur e xs) (hg:P r.g):
  ∃F,Bz w F (.slice e) [v] ((xs.drop off).take len)/\F.Nodup/\ ∀b∈F,P b:=by
 have FD:((xs.drop off).take len).length=len:=by simp;omega
 obtain ⟨ad,rfl,hc,ha⟩:=hv
 obtain ⟨Fs,t1,t2,t3,t4⟩:=ht
 ·refine ⟨r.g::List.flatten ((Fs.drop off).take len),⟨some ad,len,r.cap-off,rfl,FD.symm,by omega, .inr ⟨ad,r.g,(r.o+off)*e.size,_,rfl,λh0=>ha (by omega),⟨cur,tid,r.o+off,h2,rfl,by rw [Vc];congr 1;omega,by omega⟩,rfl,by simp;omega,λi x F hx hF=>?_⟩⟩,?_,λb hb=>?_⟩
  ·have hi:i<len:=by
    have:=(Ai.1 hx).1
    rw [FD] at this;exact this
   have LQ:xs[off+i]?=some x:=by rw [By,Af hi,Ce] at hx;exact hx
   have ON:Fs[off+i]?=some F:=by rw [By,Af hi,Ce] at hF;exact hF
   obtain ⟨es,he,hj,qv⟩:=t4 (off+i) x F LQ ON
   refine ⟨es,he,λj u hu=>?_,qv⟩
   rw [cellOf h2]
   have:=hj j u hu
   rw [<-this]
   congr 1
   rw [<-Er,Ch (r.o+off) i]
  ·have:=Bw.1 t2
   exact Bw.2 ⟨λhm=>this.1 (Oj off len _ hm),gk off len this.2⟩
  ·rcases Ay.1 hb with rfl|hb
   ·exact hg
   ·exact t3 b (Oj off len b hb)
theorem iL {st:St} (h:Kc X w π st.heap) {c:AC} {v:Value} (hc:Fe X w π st.heap c v) (ht:Od st c=true) (τ:Ty) (fr:Bool) (x:τ.den) (Pp:τ.Ak=false) (yz:τ.tree=true)
  (hv:Cn st τ (Cm st c)=some (fr,x)): ∃F,Bz w F τ [v] x/\F.Nodup/\ ∀b∈F,∃l r,l∈c.refs/\π l=some r/\r.cl b:=by
 cases c with
 |data Rj Lg y=>
  simp only [Od] at ht
  simp only [Cm,Kw] at hv
  split at hv
  ·rename_i he;subst he
   simp only [Aa,Ab] at hv
   obtain ⟨_,rfl⟩:=hv
   exact ⟨[],Ss Lg _ _ ht (Ck.Oc Pp hc),Kh,λb hb=>by cases hb⟩
  ·unfold cW at hv
   split at hv
   ·simp [Ty.flat] at ht
   ·simp [Ty.flat] at ht
   ·cases hv
 |Jf=>
  have hc:v= .slice none 0 0:=hc
  subst hc
  cases τ with
  |slice e=>
   simp only [Cm,Cn,Aa,Ab] at hv
   obtain ⟨_,rfl⟩:=hv
   exact ⟨[],⟨none,0,0,rfl,rfl,Ao _, .inl ⟨rfl,rfl,rfl,rfl⟩⟩,Kh,λb hb=>by cases hb⟩
  |oslice e=>simp [Ty.tree] at yz
  |_=>simp [Cm,Cn] at hv
 |own l off len=>
  simp only [Od] at ht
  split at ht
  ·rename_i Rj tr e tid xs hl
   have Tu:=hl
   unfold St.at at hl
   simp only [Cm,Tu,Kw] at hv
   split at hv
   ·rename_i he;subst he
    simp only [Aa,Ab] at hv
    obtain ⟨_,rfl⟩:=hv
    obtain ⟨h2,h3⟩:=Lk hc hl
    have hb:=(h.heap l).Ns hl
    simp only [Bn,Hg] at hb
    cases hp:π l with
    |none=>
     rw [hp] at h3
     obtain ⟨rfl,rfl,rfl⟩:=h3
     exact ⟨[],⟨none,0,0,rfl,by simp,Ao _, .inl ⟨by simp,rfl,rfl,rfl⟩⟩,Kh,λb hb=>by cases hb⟩
    |some r=>
     rw [hp] at hb h3
     obtain ⟨k1,cur,_,k2,k3,k4,k5,k6,k7⟩:=hb
     have xG:Sh w r.cl r.g r.o cur e xs:=by
      simp only [Ja] at ht
      rcases ht with ht|ht
      ·exact k7 ht
      ·refine ⟨List.replicate xs.length [],by simp,by simp,by simp,λi x F hx hF=>?_⟩
       obtain ⟨es,e1,e2,e3⟩:=k6 i x hx
       have:F= []:=by
        have:=Bo hF
        exact Dx this
       subst this
       exact ⟨es,e1,e2,Ss e es x ht e3⟩
     obtain ⟨F,f1,f2,f3⟩:=eE k2 k3 k4 h2 h3 xG (h.sub l r _ hp k1.1)
     exact ⟨F,f1,f2,λb hb=>⟨l,r,by simp [AC.refs],hp,f3 b hb⟩⟩
   ·cases τ<;>simp [cW] at hv
  ·rename_i e tid xs hl
   have Tu:=hl
   unfold St.at at hl
   simp only [Cm,Tu,Kw] at hv
   split at hv
   ·rename_i he;subst he
    simp only [Aa,Ab] at hv
    obtain ⟨_,rfl⟩:=hv
    obtain ⟨h2,h3⟩:=Xi hc hl
    have hb:=(h.heap l).Ns hl
    simp only [Bn,Kz] at hb
    cases hp:π l with
    |none=>
     rw [hp] at h3
     obtain ⟨rfl,rfl,rfl⟩:=h3
     exact ⟨[],⟨none,0,0,rfl,by simp,Ao _, .inl ⟨by simp,rfl,rfl,rfl⟩⟩,Kh,λb hb=>by cases hb⟩
    |some r=>
     rw [hp] at hb h3
     obtain ⟨k1,cur,_,k2,k3,k4,k5,k7⟩:=hb
     obtain ⟨F,f1,f2,f3⟩:=eE k2 k3 k4 h2 h3 k7 k1
     exact ⟨F,f1,f2,λb hb=>⟨l,r,by simp [AC.refs],hp,h.sub l r b hp (f3 b hb)⟩⟩
   ·cases τ<;>simp [cW] at hv
  ·cases ht
 |_=>simp [Od] at ht
theorem Sy: ∀ {l:List Nat},Uv l=true->l.Nodup
 | [],_=>Kh
 |a::r,h=>by
  simp only [Uv,Ag,Ds,List.contains_eq_mem,decide_eq_false_iff_not] at h
  exact Bw.2 ⟨h.1,Sy h.2⟩
theorem Vt {st st':St} {τ:Ty} {c:AC} (h:c.settled=true):Cn st' τ c=Cn st τ c:=by
 cases c<;>simp [AC.settled] at h<;>cases τ<;>rfl
theorem oC {st st':St} (h:Kc X w π st.heap): ∀(τ:Ty) (cs:List AC) (us:List Value) (fr:Bool) (x:τ.den),Eb X w π st.heap cs us->cs.all (Od st)=true->(cs.flatMap AC.refs).Nodup->
  (cs.map (Cm st)).all (·.settled)=true->τ.tree=true->Dn st' τ (cs.map (Cm st))=some (fr,x)-> ∃F,Bz w F τ us x/\F.Nodup/\ ∀b∈F,∃l r,l∈cs.flatMap AC.refs/\π l=some r/\r.cl b:=by
 have one: ∀(τ:Ty) (cs:List AC) (us:List Value) (fr:Bool) (x:τ.den),τ.Ak=false->Eb X w π st.heap cs us->cs.all (Od st)=true->
   (cs.map (Cm st)).all (·.settled)=true->τ.tree=true->Dn st' τ (cs.map (Cm st))=some (fr,x)-> ∃F,Bz w F τ us x/\F.Nodup/\ ∀b∈F,∃l r,l∈cs.flatMap AC.refs/\π l=some r/\r.cl b:=by
  intro τ cs us fr x Pp hr ht hs Rb hv
  rw [Pu Pp] at hv
  rcases cs with _|⟨c,_|⟨d,cs⟩⟩
  ·cases hv
  ·simp only [Bl,List.map_nil] at hv
   obtain ⟨u,hu,_,hc⟩:=hr.2 0 c rfl
   have hl:us.length=1:=hr.1
   obtain ⟨u',rfl⟩:=Cv.1 hl
   simp at hu;subst hu
   rw [Vt (st:=st) (by simpa using hs)] at hv
   obtain ⟨F,f1,f2,f3⟩:=iL h hc (by simpa using ht) τ fr x Pp Rb hv
   exact ⟨F,f1,f2,λb hb=>by obtain ⟨l,r,g1,g2⟩:=f3 b hb;exact ⟨l,r,by simpa using g1,g2⟩⟩
  ·cases hv
 intro τ
 induction τ with
 |unit=>
  intro cs us fr x hr ht hd hs Rb hv
  cases cs with
  |nil=>have:us= []:=Cj hr.1;subst this;exact ⟨[],⟨rfl,rfl⟩,Kh,λb hb=>by cases hb⟩
  |cons c cs=>simp [Dn] at hv
 |pair a r cC cw=>
  intro cs us fr x hr ht hd hs Rb hv
  simp only [Ty.tree,Ag] at Rb
  simp only [Dn] at hv
  split at hv
  ·rename_i f1 y f2 z h1 h2
   simp only [Aa,Ab] at hv
   obtain ⟨rfl,rfl⟩:=hv
   have GJ:Eb X w π st.heap (cs.take a.size) (us.take a.size):=by have:=Um hr 0 a.size;simpa using this
   have JA:Eb X w π st.heap (cs.drop a.size) (us.drop a.size):=
    ⟨by simp [hr.1],λi c hc=>by
     rw [Ce] at hc⊢
     exact hr.2 _ c hc⟩
   have RU: ∀ {p:AC->Bool} {l:List AC} (n:Nat),l.all p=true->(l.take n).all p=true:= λn hl=>Au.2 λc hc=>Au.1 hl c (Hm hc)
   have RV: ∀ {p:AC->Bool} {l:List AC} (n:Nat),l.all p=true->(l.drop n).all p=true:= λn hl=>Au.2 λc hc=>Au.1 hl c (Zq hc)
   have OZ:((cs.take a.size++cs.drop a.size).flatMap AC.refs).Nodup:=by rw [Ir];exact hd
   rw [List.flatMap_append] at OZ
   obtain ⟨d1,d2,d3⟩:=Cz.1 OZ
   rw [<-List.map_take] at h1
   rw [<-List.map_drop] at h2
   obtain ⟨F1,t1,n1,c1⟩:=cC _ _ f1 y GJ (RU _ ht) d1 (by rw [List.map_take];exact RU _ hs) Rb.1 h1
   obtain ⟨F2,t2,n2,c2⟩:=cw _ _ f2 z JA (RV _ ht) d2 (by rw [List.map_drop];exact RV _ hs) Rb.2 h2
   refine ⟨F1++F2,⟨us.take a.size,us.drop a.size,F1,F2,(Ir _ _).symm,rfl,t1,t2⟩,Cz.2 ⟨n1,n2,λb hb b' nF e=>?_⟩,λb hb=>?_⟩
   ·subst e
    obtain ⟨l1,r1,g1,g2,g3⟩:=c1 b hb
    obtain ⟨l2,r2,g4,g5,g6⟩:=c2 b nF
    exact d3 l1 g1 l2 g4 (h.inj l1 l2 r1 r2 b g2 g5 g3 g6)
   ·have Ig: ∀l,(l∈(cs.take a.size).flatMap AC.refs\/l∈(cs.drop a.size).flatMap AC.refs)->l∈cs.flatMap AC.refs:= λl hl=>by
     rw [<-Av,<-List.flatMap_append,Ir] at hl;exact hl
    rcases Av.1 hb with hb|hb
    ·obtain ⟨l1,r1,g1,g2⟩:=c1 b hb;exact ⟨l1,r1,Ig l1 (.inl g1),g2⟩
    ·obtain ⟨l1,r1,g1,g2⟩:=c2 b hb;exact ⟨l1,r1,Ig l1 (.inr g1),g2⟩
  ·cases hv
 |_=>exact λcs us fr x hr ht _ hs Rb hv=>one _ cs us fr x rfl hr ht hs Rb hv
theorem xq {π':Pi} {st st':St} {a:Act} (h:Ax X π st a w) (h':Ax X π' st' a w) (k:Ic π π' st.heap st'.heap) {ls:List Nat} (hg: ∀l∈ls,Ap st'.heap l=none) {F:List Nat} (hF:F.Nodup)
  (hc: ∀b∈F,∃l r,l∈ls/\π l=some r/\r.cl b):cF X w π' F:=by
 refine ⟨hF,λb hb=>?_⟩
 obtain ⟨l,r,h1,h2,h3⟩:=hc b hb
 have hp:=h.1.place l r b h2 h3
 refine ⟨hp.1,hp.2,λl2 r2 h4 h5=>?_⟩
 cases hh:Ap st'.heap l2 with
 |none=>rw [(h'.1.heap l2).emp hh] at h4;cases h4
 |some b'=>
  have h6:=(k l2 b' hh).1
  rw [h6] at h4
  have:=h.1.inj l l2 r r2 b h2 h4 h3 h5
  subst this
  rw [hg l h1] at hh;cases hh
theorem Xk {st:St} {a:Act} (h:Ax X π st a w) {c:AV} {v:Value} (hc:Ba X w π st.heap c v) {c':AV} {st':St} (he:settle st c=some (c',st')):
  ∃π',Ax X π' st' a w/\Ba X w π' st'.heap c' v/\c'.settled=true/\Ic π π' st.heap st'.heap/\
   (Ph st c=true-> ∀(τ:Ty) (fr:Bool) (x:τ.den),τ.tree=true->Dz st' τ c'=some (fr,x)-> ∃F us,Bz w F τ us x/\v=Bi τ us/\cF X w π' F/\ ∀b∈F,∃l r,π l=some r/\r.cl b):=by
 have cell: ∀(a0:AC) (st':St) (π':Pi),Fe X w π st.heap a0 v->Ax X π' st' a w->(Cm st a0).settled=true->Ic π π' st.heap st'.heap->(∀l∈a0.refs,Ap st'.heap l=none)->
   Od st a0=true-> ∀(τ:Ty) (fr:Bool) (x:τ.den),τ.tree=true->Dz st' τ (.at (Cm st a0))=some (fr,x)-> ∃F us,Bz w F τ us x/\v=Bi τ us/\cF X w π' F/\ ∀b∈F,∃l r,π l=some r/\r.cl b:=by
  intro a0 st1 Xp hr h1 hs hk hg ht τ fr x Rb hv
  by_cases Pp:τ.Ak=true
  ·
   cases tp:Cm st a0 with
   |data Rj Lg y=>
    rw [tp,Yx] at hv
    split at hv
    ·rename_i het;subst het
     simp only [Aa,Ab] at hv
     obtain ⟨_,rfl⟩:=hv
     cases a0 with
     |data l8 τ2 z=>
      simp only [Cm,AC.data.injEq] at tp
      obtain ⟨rfl,rfl,hz⟩:=tp
      have hz:=eq_of_heq hz
      subst hz
      obtain ⟨cs,qv,rfl⟩:=hr
      exact ⟨[],cs,Ss _ cs _ ht qv,rfl,⟨Kh,λb hb=>by cases hb⟩,λb hb=>by cases hb⟩
     |own l off len=>
      simp only [Cm] at tp
      split at tp
      ·simp only [AC.data.injEq] at tp;obtain ⟨_,h2,_⟩:=tp;subst h2;simp [Ty.Ak] at Pp
      ·simp only [AC.data.injEq] at tp;obtain ⟨_,h2,_⟩:=tp;subst h2;simp [Ty.Ak] at Pp
      ·cases tp
     |Hv l=>simp [Od] at ht
     |_=>simp [Cm] at tp
    ·cases hv
   |_=>rw [tp] at hv;simp only [Dz,Pp,Nh] at hv;cases hv
  ·simp only [Gt] at Pp
   have tq:Cn st τ (Cm st a0)=some (fr,x):=by
    rw [<-Vt (st:=st) (st':=st1) hs]
    cases tp:Cm st a0 with
    |data Rj Lg y=>
     rw [tp,Yx] at hv
     rw [Kw]
     split at hv
     ·rename_i het;rw [Gh het];exact hv
     ·rename_i het
      rw [dif_neg het]
      simp only [Pp,Ci,Pk,sd,Kw] at hv
      rw [dif_neg het] at hv
      exact hv
    |Jf=>rw [tp] at hv;simp only [Dz,Pp,Ci,Pk] at hv;rw [My rfl] at hv;exact hv
    |Qx=>rw [tp] at hv;simp only [Dz,Pp,Ci,Pk] at hv;rw [My rfl] at hv;exact hv
    |_=>rw [tp] at hs;simp [AC.settled] at hs
   obtain ⟨F,f1,f2,f3⟩:=iL h.1 hr ht τ fr x Pp Rb tq
   exact ⟨F,[v],f1,by simp [Bi,Pp],xq h h1 hk hg f2 f3,λb hb=>let ⟨l,r,_,q⟩:=f3 b hb;⟨l,r,q⟩⟩
 unfold settle at he
 split at he
 ·rename_i l off len
  split at he
  ·rename_i fr tr e tid xs hl
   simp only [Aa,Ab] at he
   obtain ⟨rfl,rfl⟩:=he
   obtain ⟨h1,m⟩:=h.freeze (fr:=fr) (.inl ⟨tr,tid,hl⟩)
   have:=m.ac (.own l off len) v hc
   simp only [Ca,Nh] at this
   have fX:Cm st (.own l off len)= .data fr (.slice e) ((xs.drop off).take len):=by simp only [Cm,hl]
   refine ⟨_,h1,this,rfl,Ic.freeze st l fr e xs,λht=>?_⟩
   have:=cell (.own l off len) _ _ hc h1 (by rw [fX];rfl) (Ic.freeze st l fr e xs) (λk hk=>by rw [Ad.1 hk];exact St.Jn st l fr e xs) ht
   rw [fX] at this
   exact this
  ·rename_i e tid xs hl
   simp only [Aa,Ab] at he
   obtain ⟨rfl,rfl⟩:=he
   obtain ⟨h1,m⟩:=h.freeze (fr:=false) (.inr ⟨rfl,tid,hl⟩)
   have:=m.ac (.own l off len) v hc
   simp only [Ca,Nh] at this
   have fX:Cm st (.own l off len)= .data false (.slice e) ((xs.drop off).take len):=by simp only [Cm,hl]
   refine ⟨_,h1,this,rfl,Ic.freeze st l false e xs,λht=>?_⟩
   have:=cell (.own l off len) _ _ hc h1 (by rw [fX];rfl) (Ic.freeze st l false e xs) (λk hk=>by rw [Ad.1 hk];exact St.Jn st l false e xs) ht
   rw [fX] at this
   exact this
  ·cases he
 ·rename_i l
  split at he
  ·rename_i vt mm hl
   simp only [Aa,Ab] at he
   obtain ⟨rfl,rfl⟩:=he
   obtain ⟨h1,m⟩:=h.Gf hl
   have:=m.ac (.Hv l) v hc
   simp only [Ey,Nh] at this
   exact ⟨_,h1,this,rfl,Ic.Gf st l vt mm,λht=>by simp [Ph,Od] at ht⟩
  ·cases he
 ·rename_i a0 _ _
  split at he
  ·rename_i hs
   simp only [Aa,Ab] at he
   obtain ⟨rfl,rfl⟩:=he
   refine ⟨π,h,hc,hs,Ic.refl _ _,λht=>?_⟩
   have fX:=Pf (st:=st) hs
   have:=cell a0 st π hc h (by rw [fX];exact hs) (Ic.refl _ _) (λk hk=>by
    cases a0<;>simp [AC.settled] at hs<;>simp [AC.refs] at hk) ht
   rw [fX] at this
   exact this
  ·cases he
 ·rename_i cs
  cases XD:Ff cs.length st cs with
  |none=>rw [XD] at he;cases he
  |some p=>
   rw [XD] at he
   simp only [Ah,Aa,Ab] at he
   obtain ⟨rfl,rfl⟩:=he
   obtain ⟨us,rfl,hr⟩:=hc
   obtain ⟨π',h2,h3,h4,h5,h6,h7⟩:=cf cs.length st π cs us p.1 p.2 h hr XD
   refine ⟨π',h2,⟨us,rfl,h3⟩,h4,h5,λht τ fr x Rb hv=>?_⟩
   simp only [Ph,Ag] at ht
   simp only [Dz] at hv
   split at hv
   ·rename_i Pp
    rw [h6] at hv h4
    obtain ⟨F,f1,f2,f3⟩:=oC h.1 τ cs us fr x hr ht.1 (Sy ht.2) h4 Rb hv
    exact ⟨F,us,f1,by simp [Bi,Pp],xq h h2 h5 h7 f2 f3,λb hb=>let ⟨l,r,_,q⟩:=f3 b hb;⟨l,r,q⟩⟩
   ·cases hv
 ·simp only [Aa,Ab] at he
  obtain ⟨rfl,rfl⟩:=he
  exact ⟨π,h,hc,rfl,Ic.refl _ _,λht=>by simp [Ph] at ht⟩
 ·cases he
theorem cM {o i j s p:Nat} (Hs:i≠j) (hp:p<s):(o+i)*s+p<(o+j)*s\/(o+j)*s+s<=(o+i)*s+p:=by
 rcases Nat.lt_or_gt_of_ne Hs with h|h
 ·left
  have:(o+i+1)*s<=(o+j)*s:=Ea _ (by omega)
  rw [Ch,Qz] at this
  omega
 ·right
  have:(o+j+1)*s<=(o+i)*s:=Ea _ (by omega)
  rw [Ch,Qz] at this
  omega
theorem Fu {α:Type} (l ys:List α) (i k:Nat) (h:i+ys.length<=l.length):(Dd l i ys)[k]?=if k<i then l[k]? else if k<i+ys.length then ys[k-i]? else l[k]?:=by
 unfold Dd
 have t1:(l.take i).length=i:=by simp;omega
 split
 ·rename_i hk
  rw [Kf,Am (by omega),By,Af hk]
 ·split
  ·rename_i hk
   rw [Kf,Al (by omega),t1,Am (by omega)]
  ·rw [Al (by simp;omega),Ce]
   congr 1
   simp;omega
theorem Gg {α:Type} (l ys:List α) (i:Nat) (h:i+ys.length<=l.length):(Dd l i ys).length=l.length:=by
 unfold Dd;simp;omega
theorem rV (hT:De P T) {st:St} {a:Act} (h:Ax X π st a w) {t:TypeId} {e:Ty} (ht:T.ty t=some e) {l j:Nat} {r:Real} {vx:Value} {tid:TypeId} {fr Rj:Bool} {xs:List e.den} {x:e.den}
  (hp:π l=some r) {tr:Bool} (hl:Ap st.heap l=some (.arr fr tr e tid xs)) (hj:j<xs.length) (hx:Ck w (Cb X.w0.heap.size X.Sc π Rj) e vx x):
  ∃w',(Instr.storeAt t (.pointer (some ⟨r.g,(r.o+j)*e.size,none⟩)) vx).run P w= .ok () w'/\Ax X π (st.He l (.arr (fr&&Rj) false e tid (xs.set j x))) a w':=by
 have hb:=(h.1.heap l).Ns hl
 simp only [Bn,Hg,hp] at hb
 obtain ⟨h1,cur,ti,h2,h3,h4,h5,h6,_⟩:=hb
 obtain ⟨es,cr,hv⟩:=hx
 have eZ:=Cells.len e es x cr
 have Su:(r.o+j)*e.size+es.length<=cur.size:=by
  have:(r.o+j+1)*e.size<=(r.o+r.cap)*e.size:=Ea _ (by omega)
  rw [Ch (r.o+j) 1,Qz] at this
  omega
 have Uf:(r.o+j)*e.size+es.length<=cur.toList.length:=by simpa using Su
 have Qw:=Ru (P:=P) (w:=w) (hT.ty _ _ ht) r.g ((r.o+j)*e.size) vx es (by rw [hv];exact Ii e es x cr) eZ (Cells.plain e es x cr) cur ti h2 Su
 refine ⟨_,by simp only [Instr.storeAt,Instr.sureAddr];simpa using Qw,?_⟩
 refine h.set hl (b:= .arr (fr&&Rj) false e tid (xs.set j x)) ⟨rfl,by simp⟩ (by rw [hp];exact Kq w r.g _) λm=>?_
 simp only [Bn,Hg,hp]
 refine ⟨⟨h1.1,h1.2.1,λhf=>h1.2.2 (by simp only [Ag] at hf;exact hf.1)⟩,_,_,setRow_heap w r.g cur _ ti _ h2,by rw [Eu,Gg _ _ _ Uf];simpa using h3,h4,by simpa using h5,λi y hy=>?_,λhf=>by cases hf⟩
 rw [Dg] at hy
 split at hy
 ·rename_i lf;subst lf
  simp only [Aa] at hy;subst hy
  refine ⟨es,eZ,λk u hu=>?_,(m.cells Rj e es x cr).and_right⟩
  have hk:k<es.length:=(Ai.1 hu).1
  rw [Fv,Fu _ _ _ _ Uf,Aj (by omega),Af (by omega)]
  rw [show (r.o+j)*e.size+k-(r.o+j)*e.size=k by omega];exact hu
 ·rename_i lf
  obtain ⟨gN,FA,mc,oY⟩:=h6 i y hy
  refine ⟨gN,FA,λk u hu=>?_,(m.cells fr e gN y oY).and_left⟩
  have hk:k<gN.length:=(Ai.1 hu).1
  have:=mc k u hu
  rw [Fv,Fu _ _ _ _ Uf]
  rcases cM (o:=r.o) (i:=i) (j:=j) (s:=e.size) (p:=k) (Fo lf) (by omega) with Im|zV
  ·rw [Af Im];simpa using this
  ·rw [Aj (by omega),Aj (by omega)];simpa using this
theorem fi: ∀(Fs:List (List Nat)) (i:Nat) (F':List Nat),(List.flatten Fs).Nodup->F'.Nodup->(∀b∈F',b∉List.flatten Fs)->(List.flatten (Fs.set i F')).Nodup/\ ∀b∈List.flatten (Fs.set i F'),b∈List.flatten Fs\/b∈F'
 | [],i,F',_,_,_=>by simp
 |G::Fs,0,F',hn,lg,hs=>by
  simp only [List.set_cons_zero,Ik] at hn hs⊢
  obtain ⟨n1,n2,n3⟩:=Cz.1 hn
  refine ⟨Cz.2 ⟨lg,n2,λa ha b hb e=>hs a ha (Bp _ (e▸hb))⟩,λb hb=>?_⟩
  rcases Av.1 hb with hb|hb
  ·exact .inr hb
  ·exact .inl (Bp _ hb)
 |G::Fs,i+1,F',hn,lg,hs=>by
  simp only [List.set_cons_succ,Ik] at hn hs⊢
  obtain ⟨n1,n2,n3⟩:=Cz.1 hn
  obtain ⟨m1,m2⟩:=fi Fs i F' n2 lg λb hb hm=>hs b hb (Bp _ hm)
  refine ⟨Cz.2 ⟨n1,m1,λa ha b hb e=>?_⟩,λb hb=>?_⟩
  ·subst e
   rcases m2 a hb with h|h
   ·exact n3 a ha a h rfl
   ·exact hs a h (Bg _ ha)
  ·rcases Av.1 hb with hb|hb
   ·exact .inl (Bg _ hb)
   ·exact (m2 b hb).imp (Bp _) id
theorem oA (hT:De P T) {st:St} {a:Act} (h:Ax X π st a w) {t:TypeId} {e:Ty} (ht:T.ty t=some e) {l j:Nat} {r:Real} {vx:Value} {tid:TypeId} {fr Rj:Bool} {xs:List e.den} {x:e.den}
  (hp:π l=some r) (hl:Ap st.heap l=some (.arr fr true e tid xs)) (hj:j<xs.length) (hx:Ck w (Cb X.w0.heap.size X.Sc π Rj) e vx x) {F:List Nat} {us:List Value} (hF:Bz w F e us x) (BX:vx=Bi e us) (hZ:cF X w π F):
  ∃w',(Instr.storeAt t (.pointer (some ⟨r.g,(r.o+j)*e.size,none⟩)) vx).run P w= .ok () w'/\Ax X (Ry π l (some (r.plus F))) (st.He l (.arr (fr&&Rj) true e tid (xs.set j x))) a w':=by
 have hb:=(h.1.heap l).Ns hl
 simp only [Bn,Hg,hp] at hb
 obtain ⟨h1,cur,ti,h2,h3,h4,h5,h6,h7⟩:=hb
 obtain ⟨Fs,t1,t2,t3,t4⟩:=h7 trivial
 obtain ⟨es,cr,hv⟩:=hx
 have eZ:=Cells.len e es x cr
 have XK:us=es:=by
  have c1:=Ii e us x (Bz.cells (S:= λ_=>False) F e us x hF λ_ _ h=>h)
  have c2:=Ii e es x cr
  rw [<-BX,hv,c2] at c1
  simpa using c1.symm
 subst XK
 have Su:(r.o+j)*e.size+us.length<=cur.size:=by
  have:(r.o+j+1)*e.size<=(r.o+r.cap)*e.size:=Ea _ (by omega)
  rw [Ch (r.o+j) 1,Qz] at this
  omega
 have Uf:(r.o+j)*e.size+us.length<=cur.toList.length:=by simpa using Su
 have Qw:=Ru (P:=P) (w:=w) (hT.ty _ _ ht) r.g ((r.o+j)*e.size) vx us (by rw [hv];exact Ii e us x cr) eZ (Cells.plain e us x cr) cur ti h2 Su
 have Ol:r.cl r.g:=h.1.sub l r _ hp h1.1
 have PX: ∀b∈F,b≠r.g:= λb hb e=>(hZ.2 b hb).2.2 l r hp (e▸Ol)
 have xC:=fi Fs j F (Bw.1 t2).2 hZ.1 λb hb hm=>(hZ.2 b hb).2.2 l r hp (t3 b hm)
 refine ⟨_,by simp only [Instr.storeAt,Instr.sureAddr];simpa using Qw,?_⟩
 refine h.YC hl (b:= .arr (fr&&Rj) true e tid (xs.set j x)) ⟨rfl,by simp⟩ hp (λc hc=>⟨(hZ.2 c hc).1,(hZ.2 c hc).2.1,λm r0 _=>(hZ.2 c hc).2.2 m r0⟩) (Kq w r.g _) λm=>?_
 simp only [Bn,Hg]
 have cell: ∀(i:Nat) (gN:List Value),i≠j->gN.length=e.size->(∀k u,gN[k]?=some u->cur[(r.o+i)*e.size+k]?=some u)-> ∀k u,gN[k]?=some u->(Dd cur.toList ((r.o+j)*e.size) us).toArray[(r.o+i)*e.size+k]?=some u:=by
  intro i gN fW FA mc k u hu
  have hk:k<gN.length:=(Ai.1 hu).1
  have:=mc k u hu
  rw [Fv,Fu _ _ _ _ Uf]
  rcases cM (o:=r.o) (i:=i) (j:=j) (s:=e.size) (p:=k) fW (by omega) with Im|zV
  ·rw [Af Im];simpa using this
  ·rw [Aj (by omega),Aj (by omega)];simpa using this
 have HT: ∀k u,us[k]?=some u->(Dd cur.toList ((r.o+j)*e.size) us).toArray[(r.o+j)*e.size+k]?=some u:=by
  intro k u hu
  have hk:k<us.length:=(Ai.1 hu).1
  rw [Fv,Fu _ _ _ _ Uf,Aj (by omega),Af (by omega)]
  rw [show (r.o+j)*e.size+k-(r.o+j)*e.size=k by omega];exact hu
 refine ⟨⟨h1.1,h1.2.1,λhf=>h1.2.2 (by simp only [Ag] at hf;exact hf.1)⟩,_,_,setRow_heap w r.g cur _ ti _ h2,by rw [Eu,Gg _ _ _ Uf,Sf];exact h3,h4,by rw [Eh];exact h5,λi y hy=>?_,λ_=>?_⟩
 ·rw [Dg] at hy
  split at hy
  ·rename_i lf;subst lf
   simp only [Aa] at hy;subst hy
   exact ⟨us,eZ,HT,(m.cells Rj e us x cr).and_right⟩
  ·rename_i lf
   obtain ⟨gN,FA,mc,oY⟩:=h6 i y hy
   exact ⟨gN,FA,cell i gN (Fo lf) FA mc,(m.cells fr e gN y oY).and_left⟩
 ·refine ⟨Fs.set j F,by simp [t1],Bw.2 ⟨λhm=>?_,xC.1⟩,λb hb=>?_,λi y G hy hG=>?_⟩
  ·rcases xC.2 _ hm with h8|h8
   ·exact (Bw.1 t2).1 h8
   ·exact PX _ h8 rfl
  ·exact (xC.2 b hb).imp (t3 b) id
  ·rw [Dg] at hy hG
   split at hy
   ·rename_i lf;subst lf
    rw [Af rfl] at hG
    rw [Af (by omega)] at hG
    simp only [Aa] at hy hG;subst hy;subst hG
    exact ⟨us,eZ,HT,hF.Ep _ _ _ _ (by simp) λb hb=>setRow_other w r.g b _ (PX b hb)⟩
   ·rename_i lf
    rw [Aj lf] at hG
    obtain ⟨gN,FA,mc,oY⟩:=t4 i y G hy hG
    exact ⟨gN,FA,cell i gN (Fo lf) FA mc,oY.Ep _ _ _ _ (by simp) λb hb=>setRow_other w r.g b _ λe=>(Bw.1 t2).1 (Fc.2 ⟨G,Bo hG,e▸hb⟩)⟩
theorem yo {st:St} {a:Act} (h:Ax X π st a w) {τ:Ty} {l:Nat} {x:AV} {vx:Value} (hx:Ba X w π st.heap x vx):Ba X w π st.heap (AW T st τ l x) vx:=by
 unfold AW
 split
 ·rename_i hc
  split
  ·rename_i p hp
   have:=Jz τ x vx p.1 p.2 (Fg.1 hc).2 hx hp
   exact Ck.Gj this λb _ hA=>hA.imp id (Or.imp id λ⟨h1,_⟩=>by cases h1)
  ·exact hx
 ·exact hx
theorem kN (hT:De P T) {st:St} {a:Act} (h:Ax X π st a w) (t:TypeId) (p x:AV) (vp vx:Value) (hp:Ba X w π st.heap p vp) (hx:Ba X w π st.heap x vx) (st':St)
  (he:Qm T st t p x=some st'): ∃w' π',(Instr.storeAt t vp vx).run P w= .ok () w'/\Ax X π' st' a w':=by
 unfold Qm at he
 split at he
 ·rename_i τ l i ht
  split at he
  ·rename_i tid vs cs hl hc
   split at he
   ·rename_i hle
    simp only [Aa] at he
    obtain ⟨w',h1,h2⟩:=rX hT h ht hp (yo h hx) hl hc hle
    split at he
    ·rename_i Ha
     simp only [Ag,Ki] at Ha
     subst he
     obtain ⟨zR,h3⟩:=bt (T:=T) l i t τ cs.length 0 _ π (by omega) h2
     exact ⟨w',zR,h1,h3⟩
    ·subst he
     exact ⟨w',π,h1,h2⟩
   ·cases he
  ·cases he
 ·rename_i τ l j ht
  split at he
  ·rename_i x' st1 hs
   obtain ⟨Xp,h1,h2,h3,h4,h5⟩:=Xk h hx hs
   split at he
   ·rename_i fr tr e tid xs Rj y hl hv
    split at he
    ·rename_i fb;subst fb
     split at he
     ·rename_i hj
      simp only [Aa] at he;subst he
      obtain ⟨r,b,sz,n,g1,g0,g2,g3,rfl⟩:=hp
      obtain ⟨k1,b',f,k2,k3⟩:=h4 l _ hl
      rw [g1] at k2;cases k2
      have g4:=Fh OB.row k3
      rw [show (OB.map f b).row=b.row by cases b<;>rfl,g0] at g4
      simp only [OB.row,Aa,Ab] at g4
      obtain ⟨rfl,rfl⟩:=g4
      cases ib:(tr&&(Ph st x&&τ.tree)) with
      |false=>
       obtain ⟨w',q1,q2⟩:=rV hT h1 ht (k1.trans g3) hl hj (Jz _ x' vx Rj y h3 h2 hv)
       exact ⟨w',Xp,q1,q2⟩
      |true=>
       simp only [Ag] at ib
       obtain ⟨rfl,htv,fb⟩:=ib
       obtain ⟨F,us,f1,f2,f3,_⟩:=h5 htv τ Rj y fb hv
       obtain ⟨w',q1,q2⟩:=oA hT h1 ht (k1.trans g3) hl hj (Jz _ x' vx Rj y h3 h2 hv) f1 f2 f3
       exact ⟨w',_,q1,q2⟩
     ·cases he
    ·cases he
   ·cases he
  ·cases he
 ·cases he
theorem nc {S:Nat->Prop} {e:Ty} {v:Value} {ys:List e.den} (h:Cells w S (.slice e) [v] ys):
  ∃ad c,v= .slice ad ys.length c/\(ys= []\/ ∃g o,ad=some ⟨g,o,none⟩/\ ∃news:List Value,news.length=ys.length*e.size/\(∀j u,news[j]?=some u->w.cell? ⟨g,o+j,none⟩=some u)/\(∀u∈news,u.oneCell'=true)/\(∀j u,j<ys.length*e.size->w.cell? ⟨g,o+j,none⟩=some u->news[j]?=some u)/\
   ∀(i:Nat) (y:e.den),ys[i]?=some y-> ∃es:List Value,es.length=e.size/\(∀j u,es[j]?=some u->news[i*e.size+j]?=some u)/\Cells w S e es y):=by
 simp only [Cells] at h
 obtain ⟨ad,len,cap,hv,hl,kO,vP⟩:=h
 simp only [Es,cA] at hv
 subst hl
 refine ⟨ad,cap,hv,?_⟩
 rcases vP with h0|⟨g,o,rfl,hg,hn,Ig⟩
 ·exact .inl h0
 ·right
  refine ⟨g,o,rfl,(List.range (ys.length*e.size)).map λj=>(w.cell? ⟨g,o+j,none⟩).getD undef,by simp,?_⟩
  have key: ∀k,k<ys.length*e.size-> ∃u,w.cell? ⟨g,o+k,none⟩=some u/\u.oneCell'=true:=by
   intro k hk
   have hs:0<e.size:=by
    rcases Uz e.size with h|h
    ·rw [h] at hk;simp at hk
    ·exact h
   have hi:k/e.size<ys.length:=(Nat.div_lt_iff_lt_mul hs).2 hk
   obtain ⟨es,cr,hc,Wy⟩:=Ig (k/e.size) _ (Ac hi)
   have hm:k%e.size<es.length:=by rw [cr];exact Nat.mod_lt _ hs
   have:=hc (k%e.size) _ (Ac hm)
   rw [Er,show k/e.size*e.size+k%e.size=k by rw [Nat.mul_comm];exact Nat.div_add_mod k e.size] at this
   exact ⟨_,this,Cells.plain e es _ Wy _ (Ar hm)⟩
  refine ⟨λj u hu=>?_,λu hu=>?_,λj u hj hu=>by rw [Et,bP hj];simp [hu],λi y hy=>?_⟩
  ·rw [Et] at hu
   have hj:j<ys.length*e.size:=by
    by_cases hj:j<ys.length*e.size
    ·exact hj
    ·rw [Ee (by simpa using hj)] at hu;cases hu
   rw [bP hj] at hu
   obtain ⟨u',cv,_⟩:=key j hj
   simp only [Ah,cv,Option.getD_some,Aa] at hu
   rw [cv,hu]
  ·obtain ⟨j,hj,rfl⟩:=Bq.1 hu
   obtain ⟨u',cv,h1⟩:=key j (Ho.1 hj)
   rw [cv];exact h1
  ·obtain ⟨es,cr,hc,Wy⟩:=Ig i y hy
   refine ⟨es,cr,λj u hu=>?_,Wy⟩
   have hi:=(Ai.1 hy).1
   have hj:=(Ai.1 hu).1
   have Im:i*e.size+j<ys.length*e.size:=by
    have:(i+1)*e.size<=ys.length*e.size:=Ea _ (by omega)
    rw [Ch,Qz] at this
    omega
   rw [Et,bP Im]
   have:=hc j u hu
   rw [Er] at this
   simp [this]
end
end Go.Proofs.Ytfgfigkbgecfnaa
