/-
  Part 29 of the proof that the statement FnExactStateClassCount holds.
-/
import Derived.Test.YtebabhocakedaaaCStateClassCount27
namespace Go.Proofs.Ytebabhocakedaaa
open Go.RowKit
def Ay(st st':St):Prop:= ∀(t:Nat)(fr:Bool)(τ:Ty)(x:τ.den),st.get t= .at(.data fr τ x)→st'.get t= .at(.data fr τ x)
theorem Ay.Hc {st:St} :Ay st st:=fun _ _ _ _ h=>h
theorem Ay.trans {a b c:St} (h1:Ay a b)(h2:Ay b c):Ay a c:=fun t fr τ x h=>h2 t fr τ x(h1 t fr τ x h)
theorem Ay.Oa {a b:St} (h:b.tmps=a.tmps):Ay a b:=fun t fr τ x hx=>by
 simp only [St.get]at hx⊢
 rw [h]
 exact hx
theorem Qv(st:St) {t d:Nat} (v:AV)(h:t≠d):(st.put(some d)v).get t=st.get t:=by
 simp only [St.put,St.get]
 rw [Qr]
 rw [if_neg(by rintro⟨rfl,_⟩;exact h rfl)]
theorem Ie(st:St)(f:AC→AC)(hu:f .undef= .undef)(hd: ∀fr(τ:Ty)(x:τ.den),f(.data fr τ x)= .data fr τ x):Ay st(st.Ev f):=by
 intro t fr τ x h
 simp only [St.Ev,St.get]
 rw [Ov f hu,show st.tmps.getD t .undef=_ from h]
 simp only [AV.map,hd]
theorem afm(st:St)(l:Nat):Ay st(st.forget l):=
 (Ie st(Aw l)rfl fun _ _ _=>rfl).trans(Ay.Oa rfl)
theorem Qg(st:St)(l:Nat)(fr:Bool)(e:Ty)(xs:List e.den):Ay st(st.freeze l fr e xs):=
 (Ie st(Ax l fr e xs)rfl fun _ _ _=>rfl).trans(Ay.Oa rfl)
theorem Xt(st:St)(l:Nat)(v:Ty)(m:ByteArray→Option v.den):Ay st(st.Dm l v m):=
 (Ie st(Cp l v m)rfl fun _ _ _=>rfl).trans(Ay.Oa rfl)
theorem Gp(st:St)(l:Nat)(b:OB):Ay st(st.new l b):=(afm st l).trans(Ay.Oa rfl)
theorem Ha(st:St)(l:Nat)(b:OB):Ay st(st.Ej l b):=Ay.Oa rfl
theorem Tw(b:OB)(key l i:Nat)(st:St):Ay st(Lt b key l i st):=by
 unfold Lt
 split
 ·split
  ·dsimp only
   split
   ·exact(Gp _ _ _).trans(Ha _ _ _)
   ·exact Gp _ _ _
  ·exact Ay.Hc
 ·exact Ay.Hc
theorem abz(T:Tab)(l:Nat)(t:TypeId)(τ:Ty): ∀(n i:Nat)(st:St),Ay st(Wj T l t τ n i st)
 |0,_,_=>Ay.Hc
 |n+1,i,st=>by
  simp only [Wj]
  refine Ay.trans ?_(abz T l t τ n(i+1)_)
  split
  ·exact Tw _ _ _ _ _
  ·exact Ay.Hc
theorem Zr(T:Tab)(l off:Nat)(t:TypeId)(τ:Ty): ∀(n i:Nat)(st:St),Ay st(Uk T l off t τ n i st)
 |0,_,_=>Ay.Hc
 |n+1,i,st=>by
  simp only [Uk]
  refine Ay.trans ?_(Zr T l off t τ n(i+1)_)
  split
  ·exact Tw _ _ _ _ _
  ·exact Ay.Hc
theorem Jj: ∀(n:Nat)(st:St)(cs cs':List AC)(st':St),Cw n st cs=some(cs',st')→Ay st st'
 |0,st,cs,cs',st',h=>by
  simp only [Cw]at h
  split at h
  ·injection h with h;injection h with h1 h2;subst h2;exact Ay.Hc
  ·cases h
 |n+1,st,cs,cs',st',h=>by
  simp only [Cw]at h
  split at h
  ·injection h with h;injection h with h1 h2;subst h2;exact Ay.Hc
  ·split at h
   ·exact(Qg _ _ _ _ _).trans(Jj n _ _ _ _ h)
   ·exact(Qg _ _ _ _ _).trans(Jj n _ _ _ _ h)
   ·cases h
  ·split at h
   ·exact(Xt _ _ _ _).trans(Jj n _ _ _ _ h)
   ·cases h
  ·cases h
theorem Kj {st st':St} {v v':AV} (h:settle st v=some(v',st')):Ay st st':=by
 unfold settle at h
 split at h
 ·split at h
  ·injection h with h;injection h with h1 h2;subst h2;exact Qg _ _ _ _ _
  ·injection h with h;injection h with h1 h2;subst h2;exact Qg _ _ _ _ _
  ·cases h
 ·split at h
  ·injection h with h;injection h with h1 h2;subst h2;exact Xt _ _ _ _
  ·cases h
 ·split at h
  ·injection h with h;injection h with h1 h2;subst h2;exact Ay.Hc
  ·cases h
 ·rename_i cs
  cases hs:Cw cs.length st cs with
  |none=>rw [hs]at h;cases h
  |some p=>rw [hs]at h;injection h with h;injection h with h1 h2;subst h2;exact Jj _ _ _ _ _ hs
 ·injection h with h;injection h with h1 h2;subst h2;exact Ay.Hc
 ·cases h
theorem ajy {T:Tab} {st st':St} {l:Nat} {t:TypeId} {τ:Ty} {cs:List AC} {v:AV} (h:mkVar T st l t τ cs=some(v,st')):Ay st st':=by
 unfold mkVar at h
 split at h
 ·cases h
 dsimp only at h
 split at h
 ·injection h with h;injection h with h1 h2;subst h2;exact(Gp _ _ _).trans(abz _ _ _ _ _ _ _)
 ·cases h
theorem azh {T:Tab} {st st':St} {t:TypeId} {p v:AV} (h:Mi T st t p v=some st'):Ay st st':=by
 unfold Mi at h
 split at h
 ·split at h
  ·split at h
   ·injection h with h
    split at h
    ·subst h;exact(Ha _ _ _).trans(Zr _ _ _ _ _ _ _ _)
    ·subst h;exact Ha _ _ _
   ·cases h
  ·cases h
 ·split at h
  ·rename_i hs
   split at h
   ·split at h
    ·split at h
     ·injection h with h;subst h;exact(Kj hs).trans(Ha _ _ _)
     ·cases h
    ·cases h
   ·cases h
  ·cases h
 ·cases h
theorem aom(st:St)(l j m:Nat)(e:Ty)(te:TypeId)(rows:List(List e.den))(xs:List e.den)(kp:Option(Nat×Nat)):Ay st(Lc st l j m e te rows xs kp):=
 ((Ie st(Ar [m] [l])(by simp [Ar,AC.refs])fun fr τ x=>by simp [Ar,AC.refs]).trans(Ay.Oa rfl)).trans(Ha(st.Ta [m] [l])_ _)
theorem aor(st:St)(l i m:Nat)(e:Ty)(te tid:TypeId)(rows:List(List e.den))(kp:Option(Nat×Nat)):Ay st(Iv st l i m e te tid rows kp):=
 (Ha st l _).trans(Gp _ m _)
theorem avz {T:Tab} {st st':St} {t:TypeId} {p v:AV} (h:Is T st t p v=some st'):Ay st st':=by
 unfold Is at h
 split at h
 rotate_left
 ·exact azh h
 unfold Rl at h
 split at h
 ·split at h
  ·rename_i hs
   split at h
   ·split at h
    ·injection h with h;subst h;exact(Kj hs).trans(Ha _ _ _)
    ·cases h
   ·cases h
  ·cases h
 ·split at h
  ·split at h
   ·split at h
    ·injection h with h;subst h
     exact aom _ _ _ _ _ _ _ _ _
    ·cases h
   ·cases h
  ·cases h
 ·cases h
theorem Vy {T:Tab} {st st':St} {d:Nat} {t:TypeId} {x y:Operand} {v:AV} (h:Hi T st d t x y=some(v,st')):Ay st st':=by
 unfold Hi at h
 split at h
 ·cases h
 ·split at h
  ·rename_i hs
   split at h
   ·cases h
   ·split at h
    ·split at h
     ·injection h with h;injection h with h1 h2;subst h2;exact((Kj hs).trans(Gp _ _ _)).trans(Gp _ _ _)
     ·cases h
    ·split at h
     ·split at h
      ·split at h
       ·injection h with h;injection h with h1 h2;subst h2;exact(Kj hs).trans(Gp _ _ _)
       ·cases h
      ·cases h
     ·cases h
    ·cases h
  ·cases h
theorem aqs {T:Tab} {st st':St} {d:Nat} {t:TypeId} {x y:Operand} {v:AV} (h:Kd T st d t x y=some(v,st')):Ay st st':=by
 unfold Kd at h
 split at h
 ·rename_i tx
  split at h
  ·rename_i l i c hg
   split at h
   ·split at h
    ·rename_i e te rows kp tid hl ht hc
     refine Ay.trans(b:=(Iv st l i d e te tid rows kp).put(some tx)(.at(.own d 0(rows.getD i []).length)))?_(Vy h)
     intro t' fr τ z hz
     by_cases e':t'=tx
     ·subst e';rw [hg]at hz;cases hz
     ·rw [Qv _ _ e'];exact aor st l i d e te tid rows kp t' fr τ z hz
    ·cases h
   ·cases h
  ·exact Vy h
 ·exact Vy h
theorem bgg {T:Tab} {st st':St} {d:Nat} {t:TypeId} {l c v:AV} (h:Ro T st d t l c=some(v,st')):Ay st st':=by
 unfold Ro at h
 split at h
 ·split at h
  ·split at h
   ·injection h with h;injection h with h1 h2;subst h2;exact Gp _ _ _
   ·cases h
  ·cases h
 ·cases h
theorem ajs(e:Ty): ∀(l:List(Nat×Operand))(i:Nat)(st st':St)(fr tr:Bool)(ys:List e.den),Fc e i l st=some(fr,tr,ys,st')→Ay st st'
 | [],_,_,_,_,_,_,h=>by
  simp only [Fc]at h
  injection h with h;injection h with h1 h2;injection h2 with h2 h3;injection h3 with h3 h4;subst h4;exact Ay.Hc
 |(j,x)::r,i,st,st',fr,tr,ys,h=>by
  simp only [Fc]at h
  split at h
  ·split at h
   ·rename_i hs
    split at h
    ·split at h
     ·rename_i hp
      injection h with h;injection h with h1 h2;injection h2 with h2 h3;injection h3 with h3 h4;subst h4
      exact(Kj hs).trans(ajs e r _ _ _ _ _ _ hp)
     ·cases h
    ·cases h
   ·cases h
  ·cases h
theorem aih {T:Tab} {st st':St} {d:Nat} {t:TypeId} {n:Nat} {parts:Array(Nat×Operand)} {v:AV} (h:Gd T st d t n parts=some(v,st')):Ay st st':=by
 unfold Gd at h
 split at h
 ·cases h
 ·split at h
  ·cases h
  ·split at h
   ·split at h
    ·rename_i hp
     injection h with h;injection h with h1 h2;subst h2;exact(ajs _ _ _ _ _ _ _ _ hp).trans(Gp _ _ _)
    ·cases h
   ·cases h
theorem aqi {T:Tab} {st st':St} {d:Nat} {t:TypeId} {v:AV} (h:Mf T st d t=some(v,st')):Ay st st':=by
 unfold Mf at h
 split at h
 ·split at h
  ·injection h with h;injection h with h1 h2;subst h2;exact Gp _ _ _
  ·cases h
 ·cases h
theorem afn {T:Tab} {st st':St} {t:TypeId} {m k x:AV} (h:Ds T st t m k x=some st'):Ay st st':=by
 unfold Ds at h
 split at h
 ·split at h
  ·split at h
   ·injection h with h;subst h;exact Ha _ _ _
   ·cases h
  ·cases h
 ·cases h
theorem bfl {T:Tab} {st st':St} {t t':TypeId} {x y v:AV} (h:Zb T st t t' x y=some(v,st')):Ay st st':=by
 unfold Zb at h
 split at h
 ·split at h
  ·split at h
   ·split at h
    ·injection h with h;injection h with h1 h2;subst h2;exact Ha _ _ _
    ·cases h
   ·cases h
  ·cases h
 ·cases h
theorem bba {T:Tab} {st st':St} {t:TypeId} {x:AV} (h:evalClear T st t x=some st'):Ay st st':=by
 unfold evalClear at h
 split at h
 ·split at h
  ·split at h
   ·split at h
    ·injection h with h;subst h;exact Ha _ _ _
    ·cases h
   ·cases h
  ·cases h
 ·cases h
theorem arz {st st':St} {c:CK} {ys:c.den} {a:AC} (h:Rz st c ys a=some st'):st'.tmps=st.tmps:=by
 unfold Rz at h
 repeat' split at h
 all_goals first|(cases h;done)|(simp only [Option.some.injEq]at h;subst h;rfl)|skip
theorem bkd {st st':St} {e:Ty} {ys:List e.den} {a:AC} (h:bew st e ys a=some st'):st'.tmps=st.tmps:=by
 unfold bew at h
 repeat' split at h
 all_goals first|(cases h;done)|(simp only [Option.some.injEq]at h;subst h;rfl)|skip
theorem Lp: ∀(cs:List(Bool×CK))(o:IOs.den cs)(as:List AC)(st st':St),Dc cs o as st=some st'→st'.tmps=st.tmps
 | [],_,_,st,st',h=>by simp only [Dc,Option.some.injEq]at h;subst h;rfl
 |(true, .dat _)::r,o,[],st,st',h=>by simp [Dc]at h
 |(true, .row _ _)::r,o,[],st,st',h=>by simp [Dc]at h
 |(true, .xrow _ _)::r,o,[],st,st',h=>by simp [Dc]at h
 |(true, .part _ _)::r,o,[],st,st',h=>by simp [Dc]at h
 |(true, .grid _ _ _)::r,o,[],st,st',h=>by simp [Dc]at h
 |(true, .grid _ _ _)::r,o,a::as,st,st',h=>Lp r o as st st'(by simpa only [Dc]using h)
 |(false,_)::r,o,[],st,st',h=>by simp [Dc]at h
 |(true, .dat _)::r,o,a::as,st,st',h=>Lp r o as st st'(by simpa only [Dc]using h)
 |(false,_)::r,o,a::as,st,st',h=>Lp r o as st st'(by simpa only [Dc]using h)
 |(true, .row _ _)::r,o,a::as,st,st',h=>by
  simp only [Dc]at h
  split at h
  ·rename_i hc;exact(Lp r o.2 as _ st' h).trans(arz hc)
  ·cases h
 |(true, .part _ _)::r,o,a::as,st,st',h=>by
  simp only [Dc]at h
  split at h
  ·rename_i hc;exact(Lp r o.2 as _ st' h).trans(bkd hc)
  ·cases h
 |(true, .xrow _ _)::r,o,a::as,st,st',h=>by
  simp only [Dc]at h
  split at h
  ·rename_i hc;exact(Lp r o.2 as _ st' h).trans(arz hc)
  ·cases h
theorem axs(st0 st:St)(ls:List Nat)(n:Nat)(hl:st0.tmps.length=st.tmps.length)(h:Ay st0 st):Ay st0(adm st0 st ls n):=by
 unfold adm
 split
 ·exact h
 ·intro t fr τ x hx
  show(Fh _ st0.tmps st.tmps).getD t .undef=_
  rcases Vi ls st0.tmps st.tmps t hl with⟨k,i,c,h1,_⟩|h1
  ·rw [show st0.tmps.getD t .undef=_ from hx]at h1;cases h1
  ·rw [h1];exact h t fr τ x hx
theorem bat {st st':St} {d:Option Nat} {s:Bg} {args:List AV} {v:AV} (h:Nb st d s args=some(v,st')):Ay st st':=by
 unfold Nb at h
 split at h
 ·cases h
 split at h
 ·cases h
 split at h
 ·cases h
 split at h
 ·split at h
  ·cases h
  split at h
  ·cases h
  rename_i st1 hp
  split at h
  ·cases h
  split at h
  ·simp only [Option.some.injEq,Prod.mk.injEq]at h
   obtain⟨_,rfl⟩:=h
   have hpt:=Lp _ _ _ _ _ hp
   refine axs _ _ _ _ ?_ ?_
   ·simp only [aek,aiv]
    rw [←hpt]
    simp only [St.Ta,St.Ev,List.length_map]
   ·refine Ay.trans(Ay.Oa hpt)?_
    refine Ay.trans(Ie st1(Ar _ _)(by simp [Ar,AC.refs])fun fr τ x=>by simp [Ar,AC.refs])(Ay.Oa aiv)
  ·cases h
 ·cases h
theorem Tf(st:St)(k m:Nat)(b:OB):Ay st(Jm st k m b):=
 (Ie st(Ar [m,k] [])(by simp [Ar,AC.refs])fun fr τ x=>by simp [Ar,AC.refs]).trans(Ay.Oa rfl)
theorem bav {T:Tab} {st st':St} {d:Nat} {t:TypeId} {l c v:AV} (h:Nc T st d t l c=some(v,st')):Ay st st':=by
 unfold Nc at h
 split at h
 ·exact bgg h
 ·split at h
  ·split at h
   ·injection h with h;injection h with h1 h2;subst h2;exact Tf _ _ _ _
   ·cases h
  ·cases h
theorem agv {T:Tab} {st st':St} {d:Nat} {t:TypeId} {n:Nat} {parts:Array(Nat×Operand)} {v:AV} (h:Dr T st d t n parts=some(v,st')):Ay st st':=by
 unfold Dr at h
 split at h
 ·exact aih h
 ·repeat' split at h
  all_goals first|(cases h;done)|(injection h with h;injection h with h1 h2;subst h2;exact Tf _ _ _ _)
theorem aqd {T:Tab} {st st':St} {d:Nat} {t:TypeId} {x y:Operand} {v:AV} (h:Kc T st d t x y=some(v,st')):Ay st st':=by
 unfold Kc at h
 split at h
 ·exact aqs h
 ·repeat' split at h
  all_goals first|(cases h;done)|(injection h with h;injection h with h1 h2;subst h2;exact Tf _ _ _ _)
theorem Uh {st st':St} {v:AV} {o:Option AV} (h:o.map(fun v=>(v,st))=some(v,st')):Ay st st':=by
 cases o with
 |none=>cases h
 |some u=>injection h with h;injection h with h1 h2;subst h2;exact Ay.Hc
theorem Pd: ∀(l:List Operand) {st st1:St},Ia l st=some st1→Ay st st1
 | [],st,st1,h=>by
  simp only [Ia,Option.some.injEq]at h
  subst h
  exact Ay.Hc
 |x::r,st,st1,h=>by
  simp only [Ia]at h
  cases hs:settle st(st.ev x)with
  |none=>rw [hs]at h;cases h
  |some p=>
   rw [hs]at h
   exact(Kj(v':=p.1)(st':=p.2)hs).trans(Pd r h)
theorem agn {T:Tab} {Γ:Env} {st st':St} {o:Oper} {v:AV} (h:evalOp T Γ st o=some(v,st')):Ay st st':=by
 unfold evalOp at h
 split at h
 ·split at h
  ·split at h
   ·injection h with h;injection h with h1 h2;subst h2;exact Gp _ _ _
   ·cases h
  ·injection h with h;injection h with h1 h2;subst h2;exact Ay.Hc
 ·split at h
  ·exact ajy h
  ·cases h
 ·split at h
  ·split at h
   ·exact ajy h
   ·cases h
  ·cases h
 ·rename_i t p x _
  cases hs:Is T st t(st.ev p)(st.ev x)with
  |none=>rw [hs]at h;cases h
  |some s=>rw [hs]at h;injection h with h;injection h with h1 h2;subst h2;exact avz hs
 ·split at h
  ·exact bav h
  ·cases h
 ·split at h
  ·exact aqi h
  ·cases h
 ·rename_i t m k x _
  cases hs:Ds T st t(st.ev m)(st.ev k)(st.ev x)with
  |none=>rw [hs]at h;cases h
  |some s=>rw [hs]at h;injection h with h;injection h with h1 h2;subst h2;exact afn hs
 ·rename_i t m k x _
  cases hs:Ds T st t(st.ev m)(st.ev k)(st.ev x)with
  |none=>rw [hs]at h;cases h
  |some s=>rw [hs]at h;injection h with h;injection h with h1 h2;subst h2;exact afn hs
 ·split at h
  ·exact agv h
  ·cases h
 ·exact Uh h
 ·split at h
  ·split at h
   ·exact aqd h
   ·cases h
  ·cases h
 ·split at h
  ·exact bfl h
  ·cases h
 ·split at h
  ·rename_i x t _ _
   cases hs:evalClear T st t(st.ev x)with
   |none=>rw [hs]at h;cases h
   |some s=>rw [hs]at h;injection h with h;injection h with h1 h2;subst h2;exact bba hs
  ·cases h
 ·split at h
  ·exact bat h
  ·split at h
   ·rename_i args _ _ _ _ _ _
    cases hs:Ia args.toList st with
    |none=>rw [hs]at h;cases h
    |some st1=>
     rw [hs]at h
     exact(Pd _ hs).trans(Uh h)
   ·exact Uh h
  ·exact Uh h
 ·exact Uh h
def Jh:List Oper→List Nat
 | []=> []
 |o::r=>(match o.dst with|some d=> [d]|none=> [])++Jh r
def writes:Code→List Nat
 | .region _ ops _=>Jh ops.toList
 | .seq a b=>writes a++writes b
 | .cond _ a b=>writes a++writes b
 | .block _ c=>writes c
 | .loop c=>writes c
 |_=> []
def Dz(P:Nat→Prop)(st st':St):Prop:= ∀(t:Nat)(fr:Bool)(τ:Ty)(x:τ.den),P t→st.get t= .at(.data fr τ x)→st'.get t= .at(.data fr τ x)
theorem Dz.trans {P:Nat→Prop} {a b c:St} (h1:Dz P a b)(h2:Dz P b c):Dz P a c:=fun t fr τ x hp h=>h2 t fr τ x hp(h1 t fr τ x hp h)
theorem Dz.mono {P Q:Nat→Prop} {a b:St} (h1:Dz P a b)(h: ∀t,Q t→P t):Dz Q a b:=fun t fr τ x hp hx=>h1 t fr τ x(h t hp)hx
theorem Ay.on {P:Nat→Prop} {a b:St} (h:Ay a b):Dz P a b:=fun t fr τ x _ hx=>h t fr τ x hx
theorem Sp(st:St)(dst:Option Tmp)(v:AV):Dz(fun t=>dst≠some t)st(st.put dst v):=by
 intro t fr τ x hp hx
 cases dst with
 |none=>exact hx
 |some d=>rw [Qv st v(fun h=>hp(by rw [h]))];exact hx
theorem Yd {T:Tab} {Γ:Env} {ops:Array Oper} {st st':St} {o:Oper} (h:Bx T Γ ops st o=some st'):Dz(fun t=>o.dst≠some t)st st':=by
 have key: ∀s,(evalOp T Γ st o).map(fun r=>r.2.put o.dst r.1)=some s→Dz(fun t=>o.dst≠some t)st s:=by
  intro s hs
  cases he:evalOp T Γ st o with
  |none=>rw [he]at hs;cases hs
  |some p=>rw [he]at hs;injection hs with hs;subst hs;exact(agn(v:=p.1)(st':=p.2)he).on.trans(Sp _ _ _)
 unfold Bx at h
 split at h
 ·exact key _ h
 ·split at h
  ·split at h
   ·exact key _ h
   ·injection h with h;subst h;exact Sp _ _ _
  ·injection h with h;subst h;exact Sp _ _ _
  ·cases h
theorem acf {T:Tab} {Γ:Env} {ops:Array Oper} : ∀(l:List Oper)(st st':St),Px T Γ ops l st=some st'→Dz(fun t=>t∉Jh l)st st'
 | [],st,st',h=>by injection h with h;subst h;exact Ay.Hc.on
 |o::r,st,st',h=>by
  simp only [Px]at h
  split at h
  ·rename_i s hs
   refine Dz.trans((Yd hs).mono fun t ht=>?_)((acf r _ _ h).mono fun t ht=>?_)
   ·intro hd;apply ht;simp [Jh,hd]
   ·intro hd;apply ht;simp [Jh,hd]
  ·cases h
theorem Td: ∀(l:List Oper)(o:Oper)(d:Nat),o∈l→o.dst=some d→d∈Jh l
 | [],_,_,h,_=>by cases h
 |p::r,o,d,h,hd=>by
  cases h with
  |head=>simp [Jh,hd]
  |tail _ h=>simp only [Jh,List.mem_append];exact .inr(Td r o d h hd)
theorem ars {ops:Array Oper} {i:Nat} {o:Oper} (h:ops[i]?=some o):o∈ops.toList:=by
 rw [Array.getElem?_eq_some_iff]at h
 obtain⟨h1,h2⟩:=h
 rw [←h2]
 simp
theorem Tj {T:Tab} {Γ:Env} {ops:Array Oper} : ∀(l:List Nat)(st st':St),Hq T Γ ops l st=some st'→Dz(fun t=>t∉Jh ops.toList)st st'
 | [],st,st',h=>by injection h with h;subst h;exact Ay.Hc.on
 |i::r,st,st',h=>by
  simp only [Hq]at h
  split at h
  ·cases h
  ·rename_i o ho
   split at h
   ·rename_i s hs
    exact((Yd hs).mono fun t ht hd=>ht(Td _ _ _(ars ho)hd)).trans(Tj r _ _ h)
   ·cases h
theorem Rj {T:Tab} {Γ:Env} {ops:Array Oper} : ∀(l:List Nat)(st st':St),Dd T Γ ops l st=some st'→Dz(fun t=>t∉Jh ops.toList)st st'
 | [],st,st',h=>by injection h with h;subst h;exact Ay.Hc.on
 |i::r,st,st',h=>by
  simp only [Dd]at h
  split at h
  ·cases h
  ·rename_i o ho
   split at h
   ·exact((Sp _ _ _).mono fun t ht hd=>ht(Td _ _ _(ars ho)hd)).trans(Rj r _ _ h)
   ·cases h
theorem Xc: ∀(l:List Nat)(st:St),Ay st(Uu l st)
 | [],_=>Ay.Hc
 |a::r,st=>(afm st a).trans(Xc r _)
theorem Yi(live:List Nat): ∀(i:Nat)(l:List AV)(t:Nat),i+t∈live→(Eh live i l).getD t .undef=l.getD t .undef
 |_,[],_,_=>rfl
 |i,v::r,0,h=>by simp [Eh];intro hn;exact absurd h hn
 |i,v::r,t+1,h=>by
  simp only [Eh,List.getD_cons_succ]
  exact Yi live(i+1)r t(by rw [show i+1+t=i+(t+1)by omega];exact h)
theorem aup(l k:Nat)(st:St):Ay st(st.rename l k):=by
 unfold St.rename
 split
 ·split
  ·exact(Ie st(Md l k)rfl fun _ _ _=>rfl).trans(Ay.Oa rfl)
  ·exact Ay.Hc
 ·exact Ay.Hc
theorem Vc: ∀(n t:Nat)(st:St),Ay st(Ga n t st)
 |0,_,_=>Ay.Hc
 |n+1,t,st=>by
  simp only [Ga]
  refine Ay.trans ?_(Vc n(t+1)_)
  split
  ·split
   ·split
    ·exact Ay.Hc
    ·exact aup _ _ _
   ·exact Ay.Hc
  ·exact Ay.Hc
theorem amv(t:Nat)(st:St):Ay st(Rw t st):=by
 unfold Rw
 split
 ·rename_i l off len hg
  split
  ·split
   ·intro k fr τ x hk
    have hne:k≠t:=fun e=>by subst e;rw [hg]at hk;cases hk
    rw [Qv _ _ hne]
    exact Gp _ _ _ k fr τ x hk
   ·exact Ay.Hc
  ·exact Ay.Hc
 ·exact Ay.Hc
theorem Xn(live:List Nat): ∀(n t:Nat)(st:St),Ay st(Hx live n t st)
 |0,_,_=>Ay.Hc
 |n+1,t,st=>by
  simp only [Hx]
  refine Ay.trans ?_(Xn live n(t+1)_)
  split
  ·exact amv _ _
  ·exact Ay.Hc
theorem aby(live:List Nat)(st:St):Dz(fun t=>t∈live)st(st.clean live):=by
 intro t fr τ x hp hx
 unfold St.clean
 have key: ∀s:St,s.get t= .at(.data fr τ x)→(if live.contains Si then Ga s.tmps.length 0 s else s).get t= .at(.data fr τ x):=by
  intro s hs
  split
  ·exact Vc _ _ s t fr τ x hs
  ·exact hs
 have key0: ∀s:St,s.get t= .at(.data fr τ x)→(if live.any(fun t=>Nat.ble Oq t)then s.Dt live else s).get t= .at(.data fr τ x):=by
  intro s hs
  split<;>exact hs
 have key1: ∀s:St,s.get t= .at(.data fr τ x)→(if live.any(fun t=>Nat.ble Jy t&&Nat.blt t Si)then Hx live s.tmps.length 0 s else s).get t= .at(.data fr τ x):=by
  intro s hs
  split
  ·exact Xn _ _ _ s t fr τ x hs
  ·exact hs
 refine key0 _(key _(key1 _(Xc _ _ t fr τ x ?_)))
 simp only [St.get]at hx⊢
 rw [Yi live 0 st.tmps t(by simpa using hp)]
 exact hx
def Rd(live:Nat→List Nat):Code→Nat→Bool
 | .seq a b,t=>Rd live a t&&Rd live b t
 | .cond _ a b,t=>Rd live a t&&Rd live b t
 | .block _ c,t=>Rd live c t
 | .loop c,t=>(live(Bw c)).contains t&&Rd live c t
 |_,_=>true
theorem ahx {a b:Bool} (h:(a&&b)=true):a=true:=by cases a<;>simp_all
theorem aef {a b:Bool} (h:(a&&b)=true):b=true:=by cases a<;>simp_all
theorem ahy {T:Tab} {Γ:Env} {ops:Array Oper} {draw:Bool} {st st':St} (h:Jw T Γ ops draw st=some st'):Dz(fun t=>t∉writes(.region 0 ops draw))st st':=by
 unfold Jw at h
 have go: ∀q,(match Dd T Γ ops(aax q Γ ops)st with
   |some s=>Hq T Γ ops(Ea q Γ ops)s
   |none=>none)=some st'→Dz(fun t=>t∉writes(.region 0 ops draw))st st':=by
  intro q h
  split at h
  ·rename_i s hs
   exact(Rj _ _ _ hs).trans(Tj _ _ _ h)
  ·cases h
 split at h
 ·split at h
  ·exact go false h
  ·split at h
   ·exact go true h
   ·cases h
 ·exact acf _ _ _ h
theorem anc {T:Tab} {Γ:Env} {ops:Array Oper} {draw:Bool} {K:St→Prop} (s0:St): ∀(f:Nat)(listed:Array Bool)(st:St),Dz(fun t=>t∉writes(.region 0 ops draw))s0 st→anyS T Γ ops K f listed st→anyS T Γ ops(fun s=>K s∧Dz(fun t=>t∉writes(.region 0 ops draw))s0 s)f listed st
 |0,_,_,hk,h=>⟨h.1,h.2,hk⟩
 |f+1,listed,st,hk,h=>⟨h.1,fun i hi=>by
  obtain⟨o,st',h1,h2,h3⟩:=h.2 i hi
  have h4:Hq T Γ ops [i]st=some st':=by simp only [Hq,h1,h2]
  exact⟨o,st',h1,h2,anc s0 f _ _(hk.trans(Tj _ _ _ h4))h3⟩⟩
theorem aue.keeps {T:Tab} {Γ:Env} {ops:Array Oper} {draw:Bool} {st:St} {K:St→Prop} (h:aue T Γ ops draw st K):aue T Γ ops draw st(fun s=>K s∧Dz(fun t=>t∉writes(.region 0 ops draw))st s):=by
 rcases h with⟨st',h1,h2⟩|⟨h1,h2,st0,h3,h4⟩
 ·exact .inl⟨st',h1,h2,ahy h1⟩
 ·exact .inr⟨h1,h2,st0,h3,anc st _ _ _(Rj _ _ _ h3)h4⟩
theorem bge {T:Tab} {Γ:Env} {live:Nat→List Nat} {c:Code} {st:St} {Q:Fg→St→Prop} (h:Hl T Γ live c st Q): ∀(s0:St)(p:Nat→Prop),Dz p s0 st→(∀t,p t→t∉writes c∧Rd live c t=true)→Hl T Γ live c st(fun e s=>Q e s∧Dz p s0 s):=by
 induction h with
 |skip h=>exact fun s0 p hk _=> .skip⟨h,hk⟩
 |label h=>exact fun s0 p hk _=> .label⟨h,hk⟩
 |exit h=>exact fun s0 p hk _=> .exit⟨h,hk⟩
 |ret h=>exact fun s0 p hk _=> .ret⟨h,hk⟩
 |region h=>
  exact fun s0 p hk hp=> .region(h.keeps.mono fun s hs=>⟨hs.1,hk.trans(hs.2.mono fun t ht=>(hp t ht).1)⟩)
 |seq Q1 _ _ h3 ih1 ih2=>
  exact fun s0 p hk hp=> .seq _(ih1 s0 p hk fun t ht=>⟨fun hm=>(hp t ht).1(by simp [writes,hm]),ahx(hp t ht).2⟩)
   (fun s hs=>ih2 s hs.1 s0 p hs.2 fun t ht=>⟨fun hm=>(hp t ht).1(by simp [writes,hm]),aef(hp t ht).2⟩)fun e s he hs=>⟨h3 e s he hs.1,hs.2⟩
 |cond hc _ _ ih1 ih2=>
  exact fun s0 p hk hp=> .cond hc(fun ht=>ih1 ht s0 p hk fun t h=>⟨fun hm=>(hp t h).1(by simp [writes,hm]),ahx(hp t h).2⟩)
   fun ht=>ih2 ht s0 p hk fun t h=>⟨fun hm=>(hp t h).1(by simp [writes,hm]),aef(hp t h).2⟩
 |block Q1 _ h2 ih=>
  exact fun s0 p hk hp=> .block _(ih s0 p hk fun t ht=>⟨fun hm=>(hp t ht).1(by simpa [writes]using hm),by simpa [Rd]using(hp t ht).2⟩)fun e s hs=>by
   have h:=h2 e s hs.1
   cases e with
   |normal=>exact⟨h,hs.2⟩
   |ret=>exact⟨h,hs.2⟩
   |exit id'=>
    simp only [ate]at h⊢
    split at h
    ·rename_i hi;rw [if_pos hi];exact⟨h,hs.2⟩
    ·rename_i hi;rw [if_neg hi];exact⟨h,hs.2⟩
 |loop Q1 _ _ h3 ih1 ih2=>
  intro s0 p hk hp
  refine .loop _(ih1 s0 p(hk.trans((aby _ _).mono fun t ht=>by simpa using ahx(hp t ht).2))fun t ht=>⟨fun hm=>(hp t ht).1(by simpa [writes]using hm),aef(hp t ht).2⟩)
   (fun s hs=>ih2 s hs.1 s0 p hs.2 hp)fun e s he hs=>⟨h3 e s he hs.1,hs.2⟩
end Go.Proofs.Ytebabhocakedaaa
