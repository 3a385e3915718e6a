/-
  Part 29 of the proof that the statement FnExactBoundGap holds.
-/
import Derived.Test.YtfolipnappekaaaGreatCBoundGap27
namespace Go.Proofs.YtfolipnappekaaaGreat
open Go.RowKit
def Ay (st st':St):Prop:= ∀(t:Nat) (fr:Bool) (τ:Ty) (x:τ.den),st.get t= .at (.data fr τ x)->st'.get t= .at (.data fr τ x)
theorem Ay.rfl' {st:St} :Ay st st:= λ_ _ _ _ h=>h
theorem Ay.trans {a b c:St} (h1:Ay a b) (h2:Ay b c):Ay a c:= λt fr τ x h=>h2 t fr τ x (h1 t fr τ x h)
theorem Ay.Tb {a b:St} (h:b.tmps=a.tmps):Ay a b:= λt fr τ x hx=>by
 simp only [St.get] at hx⊢
 rw [h]
 exact hx
theorem Wl (st:St) {t d:Nat} (v:AV) (h:t≠d):(st.put (some d) v).get t=st.get t:=by
 simp only [St.put,St.get]
 rw [Vs]
 rw [if_neg (by rintro ⟨rfl,_⟩;exact h rfl)]
theorem Kg (st:St) (f:AC->AC) (hu:f .undef= .undef) (hd: ∀fr (τ:Ty) (x:τ.den),f (.data fr τ x)= .data fr τ x):Ay st (st.Gv f):=by
 intro t fr τ x h
 simp only [St.Gv,St.get]
 rw [Pj f hu,show st.tmps.getD t .undef=_ from h]
 simp only [AV.map,hd]
theorem jd (st:St) (l:Nat):Ay st (st.forget l):=
 (Kg st (Ba l) rfl λ_ _ _=>rfl).trans (Ay.Tb rfl)
theorem Uy (st:St) (l:Nat) (fr:Bool) (e:Ty) (xs:List e.den):Ay st (st.freeze l fr e xs):=
 (Kg st (Be l fr e xs) rfl λ_ _ _=>rfl).trans (Ay.Tb rfl)
theorem c6 (st:St) (l:Nat) (v:Ty) (m:ByteArray->Option v.den):Ay st (st.Eu l v m):=
 (Kg st (Ds l v m) rfl λ_ _ _=>rfl).trans (Ay.Tb rfl)
theorem Hv (st:St) (l:Nat) (b:OB):Ay st (st.new l b):=(jd st l).trans (Ay.Tb rfl)
theorem Ig (st:St) (l:Nat) (b:OB):Ay st (st.Ge l b):=Ay.Tb rfl
theorem aa (b:OB) (key l i:Nat) (st:St):Ay st (Oy b key l i st):=by
 unfold Oy
 split
 ·split
  ·dsimp only
   split
   ·exact (Hv _ _ _).trans (Ig _ _ _)
   ·exact Hv _ _ _
  ·exact Ay.rfl'
 ·exact Ay.rfl'
theorem fQ (T:Tab) (l:Nat) (t:TypeId) (τ:Ty): ∀(n i:Nat) (st:St),Ay st (bq T l t τ n i st)
 |0,_,_=>Ay.rfl'
 |n+1,i,st=>by
  simp only [bq]
  refine Ay.trans ?_ (fQ T l t τ n (i+1) _)
  split
  ·exact aa _ _ _ _ _
  ·exact Ay.rfl'
theorem du (T:Tab) (l off:Nat) (t:TypeId) (τ:Ty): ∀(n i:Nat) (st:St),Ay st (ak T l off t τ n i st)
 |0,_,_=>Ay.rfl'
 |n+1,i,st=>by
  simp only [ak]
  refine Ay.trans ?_ (du T l off t τ n (i+1) _)
  split
  ·exact aa _ _ _ _ _
  ·exact Ay.rfl'
theorem Ls: ∀(n:Nat) (st:St) (cs cZ:List AC) (st':St),Dy n st cs=some (cZ,st')->Ay st st'
 |0,st,cs,cZ,st',h=>by
  simp only [Dy] at h
  split at h
  ·injection h with h;injection h with h1 h2;subst h2;exact Ay.rfl'
  ·cases h
 |n+1,st,cs,cZ,st',h=>by
  simp only [Dy] at h
  split at h
  ·injection h with h;injection h with h1 h2;subst h2;exact Ay.rfl'
  ·split at h
   ·exact (Uy _ _ _ _ _).trans (Ls n _ _ _ _ h)
   ·exact (Uy _ _ _ _ _).trans (Ls n _ _ _ _ h)
   ·cases h
  ·split at h
   ·exact (c6 _ _ _ _).trans (Ls n _ _ _ _ h)
   ·cases h
  ·cases h
theorem Mv {st st':St} {v v':AV} (h:settle st v=some (v',st')):Ay st st':=by
 unfold settle at h
 split at h
 ·split at h
  ·injection h with h;injection h with h1 h2;subst h2;exact Uy _ _ _ _ _
  ·injection h with h;injection h with h1 h2;subst h2;exact Uy _ _ _ _ _
  ·cases h
 ·split at h
  ·injection h with h;injection h with h1 h2;subst h2;exact c6 _ _ _ _
  ·cases h
 ·split at h
  ·injection h with h;injection h with h1 h2;subst h2;exact Ay.rfl'
  ·cases h
 ·rename_i cs
  cases hs:Dy cs.length st cs with
  |none=>rw [hs] at h;cases h
  |some p=>rw [hs] at h;injection h with h;injection h with h1 h2;subst h2;exact Ls _ _ _ _ _ hs
 ·injection h with h;injection h with h1 h2;subst h2;exact Ay.rfl'
 ·cases h
theorem m4 {T:Tab} {st st':St} {l:Nat} {t:TypeId} {τ:Ty} {cs:List AC} {v:AV} (h:mkVar T st l t τ cs=some (v,st')):Ay st st':=by
 unfold mkVar at h
 split at h
 ·cases h
 dsimp only at h
 split at h
 ·injection h with h;injection h with h1 h2;subst h2;exact (Hv _ _ _).trans (fQ _ _ _ _ _ _ _)
 ·cases h
theorem yx {T:Tab} {st st':St} {t:TypeId} {p v:AV} (h:Ph T st t p v=some st'):Ay st st':=by
 unfold Ph at h
 split at h
 ·split at h
  ·split at h
   ·injection h with h
    split at h
    ·subst h;exact (Ig _ _ _).trans (du _ _ _ _ _ _ _ _)
    ·subst h;exact Ig _ _ _
   ·cases h
  ·cases h
 ·split at h
  ·rename_i hs
   split at h
   ·split at h
    ·split at h
     ·injection h with h;subst h;exact (Mv hs).trans (Ig _ _ _)
     ·cases h
    ·cases h
   ·cases h
  ·cases h
 ·cases h
theorem oU (st:St) (l j m:Nat) (e:Ty) (te:TypeId) (rows:List (List e.den)) (xs:List e.den) (kp:Option (Nat×Nat)):Ay st (Oa st l j m e te rows xs kp):=
 ((Kg st (Az [m] [l]) (by simp [Az,AC.refs]) λfr τ x=>by simp [Az,AC.refs]).trans (Ay.Tb rfl)).trans (Ig (st.Xv [m] [l]) _ _)
theorem oV (st:St) (l i m:Nat) (e:Ty) (te tid:TypeId) (rows:List (List e.den)) (kp:Option (Nat×Nat)):Ay st (Ky st l i m e te tid rows kp):=
 (Ig st l _).trans (Hv _ m _)
theorem vo {T:Tab} {st st':St} {t:TypeId} {p v:AV} (h:Ko T st t p v=some st'):Ay st st':=by
 unfold Ko at h
 split at h
 rotate_left
 ·exact yx h
 unfold Wj at h
 split at h
 ·split at h
  ·rename_i hs
   split at h
   ·split at h
    ·injection h with h;subst h;exact (Mv hs).trans (Ig _ _ _)
    ·cases h
   ·cases h
  ·cases h
 ·split at h
  ·split at h
   ·split at h
    ·injection h with h;subst h
     exact oU _ _ _ _ _ _ _ _ _
    ·cases h
   ·cases h
  ·cases h
 ·cases h
theorem bb {T:Tab} {st st':St} {d:Nat} {t:TypeId} {x y:Operand} {v:AV} (h:Jd T st d t x y=some (v,st')):Ay st st':=by
 unfold Jd at h
 split at h
 ·cases h
 ·split at h
  ·rename_i hs
   split at h
   ·cases h
   ·split at h
    ·split at h
     ·injection h with h;injection h with h1 h2;subst h2;exact ((Mv hs).trans (Hv _ _ _)).trans (Hv _ _ _)
     ·cases h
    ·split at h
     ·split at h
      ·split at h
       ·injection h with h;injection h with h1 h2;subst h2;exact (Mv hs).trans (Hv _ _ _)
       ·cases h
      ·cases h
     ·cases h
    ·cases h
  ·cases h
theorem re {T:Tab} {st st':St} {d:Nat} {t:TypeId} {x y:Operand} {v:AV} (h:Lz T st d t x y=some (v,st')):Ay st st':=by
 unfold Lz at h
 split at h
 ·rename_i tx
  split at h
  ·rename_i l i c hg
   split at h
   ·split at h
    ·rename_i e te rows kp tid hl ht hc
     refine Ay.trans (b:=(Ky st l i d e te tid rows kp).put (some tx) (.at (.own d 0 (rows.getD i []).length))) ?_ (bb h)
     intro t' fr τ z hz
     by_cases e':t'=tx
     ·subst e';rw [hg] at hz;cases hz
     ·rw [Wl _ _ e'];exact oV st l i d e te tid rows kp t' fr τ z hz
    ·cases h
   ·cases h
  ·exact bb h
 ·exact bb h
theorem CN {T:Tab} {st st':St} {d:Nat} {t:TypeId} {l c v:AV} (h:Wg T st d t l c=some (v,st')):Ay st st':=by
 unfold Wg at h
 split at h
 ·split at h
  ·split at h
   ·injection h with h;injection h with h1 h2;subst h2;exact Hv _ _ _
   ·cases h
  ·cases h
 ·cases h
theorem m5 (e:Ty): ∀(l:List (Nat×Operand)) (i:Nat) (st st':St) (fr tr:Bool) (ys:List e.den),Ha e i l st=some (fr,tr,ys,st')->Ay st st'
 | [],_,_,_,_,_,_,h=>by
  simp only [Ha] at h
  injection h with h;injection h with h1 h2;injection h2 with h2 h3;injection h3 with h3 h4;subst h4;exact Ay.rfl'
 |(j,x)::r,i,st,st',fr,tr,ys,h=>by
  simp only [Ha] at h
  split at h
  ·split at h
   ·rename_i hs
    split at h
    ·split at h
     ·rename_i hp
      injection h with h;injection h with h1 h2;injection h2 with h2 h3;injection h3 with h3 h4;subst h4
      exact (Mv hs).trans (m5 e r _ _ _ _ _ _ hp)
     ·cases h
    ·cases h
   ·cases h
  ·cases h
theorem kG {T:Tab} {st st':St} {d:Nat} {t:TypeId} {n:Nat} {parts:Array (Nat×Operand)} {v:AV} (h:Hz T st d t n parts=some (v,st')):Ay st st':=by
 unfold Hz at h
 split at h
 ·cases h
 ·split at h
  ·cases h
  ·split at h
   ·split at h
    ·rename_i hp
     injection h with h;injection h with h1 h2;subst h2;exact (m5 _ _ _ _ _ _ _ _ hp).trans (Hv _ _ _)
    ·cases h
   ·cases h
theorem rh {T:Tab} {st st':St} {d:Nat} {t:TypeId} {v:AV} (h:Pg T st d t=some (v,st')):Ay st st':=by
 unfold Pg at h
 split at h
 ·split at h
  ·injection h with h;injection h with h1 h2;subst h2;exact Hv _ _ _
  ·cases h
 ·cases h
theorem je {T:Tab} {st st':St} {t:TypeId} {m k x:AV} (h:Fa T st t m k x=some st'):Ay st st':=by
 unfold Fa at h
 split at h
 ·split at h
  ·split at h
   ·injection h with h;subst h;exact Ig _ _ _
   ·cases h
  ·cases h
 ·cases h
theorem CM {T:Tab} {st st':St} {t t':TypeId} {x y v:AV} (h:dc T st t t' x y=some (v,st')):Ay st st':=by
 unfold dc at h
 split at h
 ·split at h
  ·split at h
   ·split at h
    ·injection h with h;injection h with h1 h2;subst h2;exact Ig _ _ _
    ·cases h
   ·cases h
  ·cases h
 ·cases h
theorem yu {T:Tab} {st st':St} {t:TypeId} {x:AV} (h:evalClear T st t x=some st'):Ay st st':=by
 unfold evalClear at h
 split at h
 ·split at h
  ·split at h
   ·split at h
    ·injection h with h;subst h;exact Ig _ _ _
    ·cases h
   ·cases h
  ·cases h
 ·cases h
theorem tP {st st':St} {c:CK} {ys:c.den} {a:AC} (h:Xn st c ys a=some st'):st'.tmps=st.tmps:=by
 unfold Xn at h
 repeat' split at h
 all_goals first|(cases h;done)|(simp only [Option.some.injEq] at h;subst h;rfl)|skip
theorem KV {st st':St} {e:Ty} {ys:List e.den} {a:AC} (h:DX st e ys a=some st'):st'.tmps=st.tmps:=by
 unfold DX at h
 repeat' split at h
 all_goals first|(cases h;done)|(simp only [Option.some.injEq] at h;subst h;rfl)|skip
theorem Oz: ∀(cs:List (Bool×CK)) (o:IOs.den cs) (as:List AC) (st st':St),Em cs o as st=some st'->st'.tmps=st.tmps
 | [],_,_,st,st',h=>by simp only [Em,Option.some.injEq] at h;subst h;rfl
 |(true, .Er _)::r,o,[],st,st',h=>by simp [Em] at h
 |(true, .row _ _)::r,o,[],st,st',h=>by simp [Em] at h
 |(true, .Eb _ _)::r,o,[],st,st',h=>by simp [Em] at h
 |(true, .part _ _)::r,o,[],st,st',h=>by simp [Em] at h
 |(true, .Ak _ _ _)::r,o,[],st,st',h=>by simp [Em] at h
 |(true, .Ak _ _ _)::r,o,a::as,st,st',h=>Oz r o as st st' (by simpa only [Em] using h)
 |(false,_)::r,o,[],st,st',h=>by simp [Em] at h
 |(true, .Er _)::r,o,a::as,st,st',h=>Oz r o as st st' (by simpa only [Em] using h)
 |(false,_)::r,o,a::as,st,st',h=>Oz r o as st st' (by simpa only [Em] using h)
 |(true, .row _ _)::r,o,a::as,st,st',h=>by
  simp only [Em] at h
  split at h
  ·rename_i hc;exact (Oz r o.2 as _ st' h).trans (tP hc)
  ·cases h
 |(true, .part _ _)::r,o,a::as,st,st',h=>by
  simp only [Em] at h
  split at h
  ·rename_i hc;exact (Oz r o.2 as _ st' h).trans (KV hc)
  ·cases h
 |(true, .Eb _ _)::r,o,a::as,st,st',h=>by
  simp only [Em] at h
  split at h
  ·rename_i hc;exact (Oz r o.2 as _ st' h).trans (tP hc)
  ·cases h
theorem vh (ck st:St) (ls:List Nat) (n:Nat) (hl:ck.tmps.length=st.tmps.length) (h:Ay ck st):Ay ck (gU ck st ls n):=by
 unfold gU
 split
 ·exact h
 ·intro t fr τ x hx
  show (Hj _ ck.tmps st.tmps).getD t .undef=_
  rcases bI ls ck.tmps st.tmps t hl with ⟨k,i,c,h1,_⟩|h1
  ·rw [show ck.tmps.getD t .undef=_ from hx] at h1;cases h1
  ·rw [h1];exact h t fr τ x hx
theorem yt {st st':St} {d:Option Nat} {s:MSpec} {args:List AV} {v:AV} (h:Ru st d s args=some (v,st')):Ay st st':=by
 unfold Ru at h
 split at h
 ·cases h
 split at h
 ·cases h
 split at h
 ·cases h
 split at h
 ·split at h
  ·cases h
  split at h
  ·cases h
  rename_i st1 hp
  split at h
  ·cases h
  split at h
  ·simp only [Option.some.injEq,Prod.mk.injEq] at h
   obtain ⟨_,rfl⟩:=h
   have Xm:=Oz _ _ _ _ _ hp
   refine vh _ _ _ _ ?_ ?_
   ·simp only [gD,lg]
    rw [<-Xm]
    simp only [St.Xv,St.Gv,List.length_map]
   ·refine Ay.trans (Ay.Tb Xm) ?_
    refine Ay.trans (Kg st1 (Az _ _) (by simp [Az,AC.refs]) λfr τ x=>by simp [Az,AC.refs]) (Ay.Tb lg)
  ·cases h
 ·cases h
theorem Yy (st:St) (k m:Nat) (b:OB):Ay st (Lq st k m b):=
 (Kg st (Az [m,k] []) (by simp [Az,AC.refs]) λfr τ x=>by simp [Az,AC.refs]).trans (Ay.Tb rfl)
theorem yw {T:Tab} {st st':St} {d:Nat} {t:TypeId} {l c v:AV} (h:Rw T st d t l c=some (v,st')):Ay st st':=by
 unfold Rw at h
 split at h
 ·exact CN h
 ·split at h
  ·split at h
   ·injection h with h;injection h with h1 h2;subst h2;exact Yy _ _ _ _
   ·cases h
  ·cases h
theorem jc {T:Tab} {st st':St} {d:Nat} {t:TypeId} {n:Nat} {parts:Array (Nat×Operand)} {v:AV} (h:Ey T st d t n parts=some (v,st')):Ay st st':=by
 unfold Ey at h
 split at h
 ·exact kG h
 ·repeat' split at h
  all_goals first|(cases h;done)|(injection h with h;injection h with h1 h2;subst h2;exact Yy _ _ _ _)
theorem rf {T:Tab} {st st':St} {d:Nat} {t:TypeId} {x y:Operand} {v:AV} (h:Ma T st d t x y=some (v,st')):Ay st st':=by
 unfold Ma at h
 split at h
 ·exact re h
 ·repeat' split at h
  all_goals first|(cases h;done)|(injection h with h;injection h with h1 h2;subst h2;exact Yy _ _ _ _)
theorem a9 {st st':St} {v:AV} {o:Option AV} (h:o.map (λv=>(v,st))=some (v,st')):Ay st st':=by
 cases o with
 |none=>cases h
 |some u=>injection h with h;injection h with h1 h2;subst h2;exact Ay.rfl'
theorem Uc: ∀(l:List Operand) {st st1:St},Jz l st=some st1->Ay st st1
 | [],st,st1,h=>by
  simp only [Jz,Option.some.injEq] at h
  subst h
  exact Ay.rfl'
 |x::r,st,st1,h=>by
  simp only [Jz] at h
  cases hs:settle st (st.ev x) with
  |none=>rw [hs] at h;cases h
  |some p=>
   rw [hs] at h
   exact (Mv (v':=p.1) (st':=p.2) hs).trans (Uc r h)
theorem iR {T:Tab} {Γ:Env} {st st':St} {o:Oper} {v:AV} (h:evalOp T Γ st o=some (v,st')):Ay st st':=by
 unfold evalOp at h
 split at h
 ·split at h
  ·split at h
   ·injection h with h;injection h with h1 h2;subst h2;exact Hv _ _ _
   ·cases h
  ·injection h with h;injection h with h1 h2;subst h2;exact Ay.rfl'
 ·split at h
  ·exact m4 h
  ·cases h
 ·split at h
  ·split at h
   ·exact m4 h
   ·cases h
  ·cases h
 ·rename_i t p x _
  cases hs:Ko T st t (st.ev p) (st.ev x) with
  |none=>rw [hs] at h;cases h
  |some s=>rw [hs] at h;injection h with h;injection h with h1 h2;subst h2;exact vo hs
 ·split at h
  ·exact yw h
  ·cases h
 ·split at h
  ·exact rh h
  ·cases h
 ·rename_i t m k x _
  cases hs:Fa T st t (st.ev m) (st.ev k) (st.ev x) with
  |none=>rw [hs] at h;cases h
  |some s=>rw [hs] at h;injection h with h;injection h with h1 h2;subst h2;exact je hs
 ·rename_i t m k x _
  cases hs:Fa T st t (st.ev m) (st.ev k) (st.ev x) with
  |none=>rw [hs] at h;cases h
  |some s=>rw [hs] at h;injection h with h;injection h with h1 h2;subst h2;exact je hs
 ·split at h
  ·exact jc h
  ·cases h
 ·exact a9 h
 ·split at h
  ·split at h
   ·exact rf h
   ·cases h
  ·cases h
 ·split at h
  ·exact CM h
  ·cases h
 ·split at h
  ·rename_i x t _ _
   cases hs:evalClear T st t (st.ev x) with
   |none=>rw [hs] at h;cases h
   |some s=>rw [hs] at h;injection h with h;injection h with h1 h2;subst h2;exact yu hs
  ·cases h
 ·split at h
  ·exact yt h
  ·split at h
   ·rename_i args _ _ _ _ _ _
    cases hs:Jz args.toList st with
    |none=>rw [hs] at h;cases h
    |some st1=>
     rw [hs] at h
     exact (Uc _ hs).trans (a9 h)
   ·exact a9 h
  ·exact a9 h
 ·exact a9 h
def Ll:List Oper->List Nat
 | []=> []
 |o::r=>(match o.dst with|some d=> [d]|none=> [])++Ll r
def writes:Code->List Nat
 | .region _ ops _=>Ll ops.toList
 | .seq a b=>writes a++writes b
 | .cond _ a b=>writes a++writes b
 | .block _ c=>writes c
 | .loop c=>writes c
 |_=> []
def Fl (P:Nat->Prop) (st st':St):Prop:= ∀(t:Nat) (fr:Bool) (τ:Ty) (x:τ.den),P t->st.get t= .at (.data fr τ x)->st'.get t= .at (.data fr τ x)
theorem Fl.trans {P:Nat->Prop} {a b c:St} (h1:Fl P a b) (h2:Fl P b c):Fl P a c:= λt fr τ x hp h=>h2 t fr τ x hp (h1 t fr τ x hp h)
theorem Fl.mono {P Q:Nat->Prop} {a b:St} (h1:Fl P a b) (h: ∀t,Q t->P t):Fl Q a b:= λt fr τ x hp hx=>h1 t fr τ x (h t hp) hx
theorem Ay.on {P:Nat->Prop} {a b:St} (h:Ay a b):Fl P a b:= λt fr τ x _ hx=>h t fr τ x hx
theorem Ya (st:St) (dst:Option Tmp) (v:AV):Fl (λt=>dst≠some t) st (st.put dst v):=by
 intro t fr τ x hp hx
 cases dst with
 |none=>exact hx
 |some d=>rw [Wl st v (λh=>hp (by rw [h]))];exact hx
theorem dd {T:Tab} {Γ:Env} {ops:Array Oper} {st st':St} {o:Oper} (h:Cr T Γ ops st o=some st'):Fl (λt=>o.dst≠some t) st st':=by
 have key: ∀s,(evalOp T Γ st o).map (λr=>r.2.put o.dst r.1)=some s->Fl (λt=>o.dst≠some t) st s:=by
  intro s hs
  cases he:evalOp T Γ st o with
  |none=>rw [he] at hs;cases hs
  |some p=>rw [he] at hs;injection hs with hs;subst hs;exact (iR (v:=p.1) (st':=p.2) he).on.trans (Ya _ _ _)
 unfold Cr at h
 split at h
 ·exact key _ h
 ·split at h
  ·split at h
   ·exact key _ h
   ·injection h with h;subst h;exact Ya _ _ _
  ·injection h with h;subst h;exact Ya _ _ _
  ·cases h
theorem fE {T:Tab} {Γ:Env} {ops:Array Oper} : ∀(l:List Oper) (st st':St),Uv T Γ ops l st=some st'->Fl (λt=>t∉Ll l) st st'
 | [],st,st',h=>by injection h with h;subst h;exact Ay.rfl'.on
 |o::r,st,st',h=>by
  simp only [Uv] at h
  split at h
  ·rename_i s hs
   refine Fl.trans ((dd hs).mono λt ht=>?_) ((fE r _ _ h).mono λt ht=>?_)
   ·intro hd;apply ht;simp [Ll,hd]
   ·intro hd;apply ht;simp [Ll,hd]
  ·cases h
theorem Zb: ∀(l:List Oper) (o:Oper) (d:Nat),o∈l->o.dst=some d->d∈Ll l
 | [],_,_,h,_=>by cases h
 |p::r,o,d,h,hd=>by
  cases h with
  |head=>simp [Ll,hd]
  |tail _ h=>simp only [Ll,List.mem_append];exact .inr (Zb r o d h hd)
theorem tD {ops:Array Oper} {i:Nat} {o:Oper} (h:ops[i]?=some o):o∈ops.toList:=by
 rw [Array.getElem?_eq_some_iff] at h
 obtain ⟨h1,h2⟩:=h
 rw [<-h2]
 simp
theorem Yv {T:Tab} {Γ:Env} {ops:Array Oper} : ∀(l:List Nat) (st st':St),Jm T Γ ops l st=some st'->Fl (λt=>t∉Ll ops.toList) st st'
 | [],st,st',h=>by injection h with h;subst h;exact Ay.rfl'.on
 |i::r,st,st',h=>by
  simp only [Jm] at h
  split at h
  ·cases h
  ·rename_i o ho
   split at h
   ·rename_i s hs
    exact ((dd hs).mono λt ht hd=>ht (Zb _ _ _ (tD ho) hd)).trans (Yv r _ _ h)
   ·cases h
theorem Wh {T:Tab} {Γ:Env} {ops:Array Oper} : ∀(l:List Nat) (st st':St),El T Γ ops l st=some st'->Fl (λt=>t∉Ll ops.toList) st st'
 | [],st,st',h=>by injection h with h;subst h;exact Ay.rfl'.on
 |i::r,st,st',h=>by
  simp only [El] at h
  split at h
  ·cases h
  ·rename_i o ho
   split at h
   ·exact ((Ya _ _ _).mono λt ht hd=>ht (Zb _ _ _ (tD ho) hd)).trans (Wh r _ _ h)
   ·cases h
theorem c5: ∀(l:List Nat) (st:St),Ay st (Zx l st)
 | [],_=>Ay.rfl'
 |a::r,st=>(jd st a).trans (c5 r _)
theorem cT (live:List Nat): ∀(i:Nat) (l:List AV) (t:Nat),i+t∈live->(Gk live i l).getD t .undef=l.getD t .undef
 |_,[],_,_=>rfl
 |i,v::r,0,h=>by simp [Gk];intro hn;exact absurd h hn
 |i,v::r,t+1,h=>by
  simp only [Gk,List.getD_cons_succ]
  exact cT live (i+1) r t (by rw [show i+1+t=i+(t+1) by omega];exact h)
theorem vn (l k:Nat) (st:St):Ay st (st.rename l k):=by
 unfold St.rename
 split
 ·split
  ·exact (Kg st (Pq l k) rfl λ_ _ _=>rfl).trans (Ay.Tb rfl)
  ·exact Ay.rfl'
 ·exact Ay.rfl'
theorem ab: ∀(n t:Nat) (st:St),Ay st (Ii n t st)
 |0,_,_=>Ay.rfl'
 |n+1,t,st=>by
  simp only [Ii]
  refine Ay.trans ?_ (ab n (t+1) _)
  split
  ·split
   ·split
    ·exact Ay.rfl'
    ·exact vn _ _ _
   ·exact Ay.rfl'
  ·exact Ay.rfl'
theorem oW (t:Nat) (st:St):Ay st (Wy t st):=by
 unfold Wy
 split
 ·rename_i l off len hg
  split
  ·split
   ·intro k fr τ x hk
    have Ff:k≠t:= λe=>by subst e;rw [hg] at hk;cases hk
    rw [Wl _ _ Ff]
    exact Hv _ _ _ k fr τ x hk
   ·exact Ay.rfl'
  ·exact Ay.rfl'
 ·exact Ay.rfl'
theorem gV (c:Nat) (st:St):Ay st (Ku c st):=by
 unfold Ku
 split
 ·split
  ·split
   ·split
    ·split
     ·exact (Hv _ _ _).trans (Ig _ _ _)
     ·exact Ay.rfl'
    ·exact Ay.rfl'
   ·exact Ay.rfl'
  ·exact Ay.rfl'
 ·exact Ay.rfl'
theorem Yb (live:List Nat): ∀(n c:Nat) (st:St),Ay st (Kl live n c st)
 |0,_,_=>Ay.rfl'
 |n+1,c,st=>by
  simp only [Kl]
  refine Ay.trans ?_ (Yb live n (c+1) _)
  split
  ·exact gV _ _
  ·exact Ay.rfl'
theorem c7 (live:List Nat): ∀(n t:Nat) (st:St),Ay st (Jy live n t st)
 |0,_,st=>Yb live 16 0 st
 |n+1,t,st=>by
  simp only [Jy]
  refine Ay.trans ?_ (c7 live n (t+1) _)
  split
  ·exact oW _ _
  ·exact Ay.rfl'
theorem fO (live:List Nat) (st:St):Fl (λt=>t∈live) st (st.clean live):=by
 intro t fr τ x hp hx
 unfold St.clean
 have key: ∀s:St,s.get t= .at (.data fr τ x)->(if live.contains Yg then Ii s.tmps.length 0 s else s).get t= .at (.data fr τ x):=by
  intro s hs
  split
  ·exact ab _ _ s t fr τ x hs
  ·exact hs
 have PZ: ∀s:St,s.get t= .at (.data fr τ x)->(if live.any (λt=>Nat.ble Tw t) then s.Ex live else s).get t= .at (.data fr τ x):=by
  intro s hs
  split<;>exact hs
 have QA: ∀s:St,s.get t= .at (.data fr τ x)->(if live.any (λt=>Nat.ble Mj t&&Nat.blt t Yg) then Jy live s.tmps.length 0 s else s).get t= .at (.data fr τ x):=by
  intro s hs
  split
  ·exact c7 _ _ _ s t fr τ x hs
  ·exact hs
 refine PZ _ (key _ (QA _ (c5 _ _ t fr τ x ?_)))
 simp only [St.get] at hx⊢
 rw [cT live 0 st.tmps t (by simpa using hp)]
 exact hx
def Wq (live:Nat->List Nat):Code->Nat->Bool
 | .seq a b,t=>Wq live a t&&Wq live b t
 | .cond _ a b,t=>Wq live a t&&Wq live b t
 | .block _ c,t=>Wq live c t
 | .loop c,t=>(live (Cm c)).contains t&&Wq live c t
 |_,_=>true
theorem kb {a b:Bool} (h:(a&&b)=true):a=true:=by cases a<;>simp_all
theorem gE {a b:Bool} (h:(a&&b)=true):b=true:=by cases a<;>simp_all
theorem km {T:Tab} {Γ:Env} {ops:Array Oper} {draw:Bool} {st st':St} (h:Mb T Γ ops draw st=some st'):Fl (λt=>t∉writes (.region 0 ops draw)) st st':=by
 unfold Mb at h
 have go: ∀q,(match El T Γ ops (eE q Γ ops) st with
   |some s=>Jm T Γ ops (Fo q Γ ops) s
   |none=>none)=some st'->Fl (λt=>t∉writes (.region 0 ops draw)) st st':=by
  intro q h
  split at h
  ·rename_i s hs
   exact (Wh _ _ _ hs).trans (Yv _ _ _ h)
  ·cases h
 split at h
 ·split at h
  ·exact go false h
  ·split at h
   ·exact go true h
   ·cases h
 ·exact fE _ _ _ h
theorem nS {T:Tab} {Γ:Env} {ops:Array Oper} {draw:Bool} {K:St->Prop} (s0:St): ∀(f:Nat) (Ac:Array Bool) (st:St),Fl (λt=>t∉writes (.region 0 ops draw)) s0 st->anyS T Γ ops K f Ac st->anyS T Γ ops (λs=>K s/\Fl (λt=>t∉writes (.region 0 ops draw)) s0 s) f Ac st
 |0,_,_,hk,h=>⟨h.1,h.2,hk⟩
 |f+1,Ac,st,hk,h=>⟨h.1,λi hi=>by
  obtain ⟨o,st',h1,h2,h3⟩:=h.2 i hi
  have h4:Jm T Γ ops [i] st=some st':=by simp only [Jm,h1,h2]
  exact ⟨o,st',h1,h2,nS s0 f _ _ (hk.trans (Yv _ _ _ h4)) h3⟩⟩
theorem uh.keeps {T:Tab} {Γ:Env} {ops:Array Oper} {draw:Bool} {st:St} {K:St->Prop} (h:uh T Γ ops draw st K):uh T Γ ops draw st (λs=>K s/\Fl (λt=>t∉writes (.region 0 ops draw)) st s):=by
 rcases h with ⟨st',h1,h2⟩|⟨h1,h2,ck,h3,h4⟩
 ·exact .inl ⟨st',h1,h2,km h1⟩
 ·exact .inr ⟨h1,h2,ck,h3,nS st _ _ _ (Wh _ _ _ h3) h4⟩
theorem fw (ops:Array Oper) {fr:Bool} {τ:Ty} {x:τ.den} : ∀(i:Nat) (l:List AV) (t:Nat),l.getD t .undef= .at (.data fr τ x)->(Jt ops i l).getD t .undef= .at (.data fr τ x)
 |_,[],_,h=>h
 |i,v::r,0,h=>by
  cases v with
  |Il l=>cases h
  |_=>exact h
 |i,v::r,t+1,h=>by
  have h':=fw ops (i+1) r t h
  cases v<;>(simp only [Jt,List.getD_cons_succ];exact h')
theorem fP (ops:Array Oper) (st:St):Ay st (st.iJ ops):= λt _ _ _ hx=>fw ops 0 st.tmps t hx
theorem EG {T:Tab} {Γ:Env} {live:Nat->List Nat} {c:Code} {st:St} {Q:Hf->St->Prop} (h:Jk T Γ live c st Q): ∀(s0:St) (p:Nat->Prop),Fl p s0 st->(∀t,p t->t∉writes c/\Wq live c t=true)->Jk T Γ live c st (λe s=>Q e s/\Fl p s0 s):=by
 induction h with
 |skip h=>exact λs0 p hk _=> .skip ⟨h,hk⟩
 |label h=>exact λs0 p hk _=> .label ⟨h,hk⟩
 |exit h=>exact λs0 p hk _=> .exit ⟨h,hk⟩
 |ret h=>exact λs0 p hk _=> .ret ⟨h,hk⟩
 |region h=>
  exact λs0 p hk hp=> .region (h.keeps.mono λs hs=>⟨hs.1,(hk.trans (fP _ _).on).trans (hs.2.mono λt ht=>(hp t ht).1)⟩)
 |seq Q1 _ _ h3 JI yo=>
  exact λs0 p hk hp=> .seq _ (JI s0 p hk λt ht=>⟨λhm=>(hp t ht).1 (by simp [writes,hm]),kb (hp t ht).2⟩)
   (λs hs=>yo s hs.1 s0 p hs.2 λt ht=>⟨λhm=>(hp t ht).1 (by simp [writes,hm]),gE (hp t ht).2⟩) λe s he hs=>⟨h3 e s he hs.1,hs.2⟩
 |cond hc _ _ JI yo=>
  exact λs0 p hk hp=> .cond hc (λht=>JI ht s0 p hk λt h=>⟨λhm=>(hp t h).1 (by simp [writes,hm]),kb (hp t h).2⟩)
   fun ht=>yo ht s0 p hk λt h=>⟨λhm=>(hp t h).1 (by simp [writes,hm]),gE (hp t h).2⟩
 |block Q1 _ h2 ih=>
  exact λs0 p hk hp=> .block _ (ih s0 p hk λt ht=>⟨λhm=>(hp t ht).1 (by simpa [writes] using hm),by simpa [Wq] using (hp t ht).2⟩) λe s hs=>by
   have h:=h2 e s hs.1
   cases e with
   |normal=>exact ⟨h,hs.2⟩
   |ret=>exact ⟨h,hs.2⟩
   |exit JH=>
    simp only [tf] at h⊢
    split at h
    ·rename_i hi;rw [if_pos hi];exact ⟨h,hs.2⟩
    ·rename_i hi;rw [if_neg hi];exact ⟨h,hs.2⟩
 |loop Q1 _ _ h3 JI yo=>
  intro s0 p hk hp
  refine .loop _ (JI s0 p (hk.trans ((fO _ _).mono λt ht=>by simpa using kb (hp t ht).2)) λt ht=>⟨λhm=>(hp t ht).1 (by simpa [writes] using hm),gE (hp t ht).2⟩)
   (λs hs=>yo s hs.1 s0 p hs.2 hp) λe s he hs=>⟨h3 e s he hs.1,hs.2⟩
end Go.Proofs.YtfolipnappekaaaGreat
