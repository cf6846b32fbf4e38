/- Texts K1, K2, R6, R7, R8, R9, RA, RB, RC, L2. Plain: rows in order, and what is made of them by lists of children. -/
import Derived.Test.YtelffdgcikceaaaGreatDoorXN1
set_option linter.unusedSimpArgs false
set_option linter.unusedVariables false
section
namespace Go.Proofs.YtelffdgcikceaaaGreatDoor
open Go.V
inductive Anc(f:Nat→Nat):Nat→Nat→Prop
 | refl (i:Nat):Anc f i i
 | step (i q:Nat) (h0:0<i) (h:Anc f (f i) q):Anc f i q
structure Pre(f:Nat→Nat)(N:Nat):Prop where
 lt:∀i,0<i→i<N→f i<i
 anc:∀i,0<i→i<N→Anc f (i-1) (f i)
theorem Anc.le{f:Nat→Nat}{N:Nat}(hP:Pre f N){m q:Nat}(h:Anc f m q):m<N→q≤m:=by
 induction h with
 | refl i=>intro _;exact Nat.le_refl _
 | step i q h0 _ ih=>
   intro hi
   have:=hP.lt i h0 hi
   have:=ih (by omega)
   omega
theorem Anc.through{f:Nat→Nat}{N:Nat}(hP:Pre f N){m q:Nat}(h:Anc f m q):∀c,m<N→c≤m→(∀x,c<x→x≤m→c≤f x)→c≤q∨Anc f c q:=by
 induction h with
 | refl i=>intro c _ hc _;exact .inl hc
 | step i q h0 h ih=>
   intro c hi hc hx
   by_cases e:c=i
   ·subst e;exact .inr (.step _ _ h0 h)
   ·have h1:=hP.lt i h0 hi
    exact ih c (by omega) (hx i (by omega) (Nat.le_refl _)) (fun x h2 h3=>hx x h2 (by omega))
structure Seg(f:Nat→Nat)(N i e:Nat):Prop where
 lt:i<e
 le:e≤N
 ge:∀m,i<m→m<e→i≤f m
 end_:e=N∨f e<i
theorem seg_from(f:Nat→Nat)(N i:Nat):∀(d j:Nat),j+d=N→i<j→(∀m,i<m→m<j→i≤f m)→∃e,Seg f N i e
 | 0,j,hj,h1,h2=>⟨j,h1,by omega,h2,.inl (by omega)⟩
 | d+1,j,hj,h1,h2=>by
   by_cases g:f j<i
   ·exact⟨j,h1,by omega,h2,.inr g⟩
   ·exact seg_from f N i d (j+1) (by omega) (by omega) (fun m h3 h4=>by
     by_cases e:m=j
     ·subst e;omega
     ·exact h2 m h3 (by omega))
theorem seg_ex{f:Nat→Nat}{N i:Nat}(h:i<N):∃e,Seg f N i e:=seg_from f N i (N-(i+1)) (i+1) (by omega) (by omega) (fun m h1 h2=>by omega)
theorem next_child{f:Nat→Nat}{N i c e:Nat}(hP:Pre f N)(hs:Seg f N c e)(hc:0<c)(he:e<N)(hi:f c=i)(hge:i≤f e):f e=i:=by
 have h1:=hs.lt
 have h2:f e<c:=by
  rcases hs.end_ with h|h
  ·omega
  ·exact h
 have ha:=(hP.anc e (by omega) he).through hP c (by omega) (by omega) (fun x h3 h4=>hs.ge x h3 (by omega))
 rcases ha with h|h
 ·omega
 ·have h5:=hP.lt c hc (by omega)
  cases h with
  | refl=>omega
  | step _ _ _ h=>
    have:=h.le hP (by omega)
    omega
theorem no_return{f:Nat→Nat}{N i e:Nat}(hP:Pre f N)(hs:Seg f N i e):∀(k a:Nat),a≤k→e≤a→a<N→∀b,Anc f a b→b<i∨e≤b:=by
 intro k
 induction k with
 | zero=>
   intro a h1 h2 h3
   have:=hs.lt
   omega
 | succ k ih=>
   intro a h1 h2 h3 b hb
   have h4:=hs.lt
   cases hb with
   | refl=>exact .inr h2
   | step _ _ h0 hb=>
     have h5:=hP.lt a h0 h3
     have h6:f a<i∨e≤f a:=by
      by_cases g:a=e
      ·subst g
       rcases hs.end_ with h|h
       ·omega
       ·exact .inl h
      ·exact ih (a-1) (by omega) (by omega) (by omega) _ (hP.anc a h0 h3)
     rcases h6 with h6|h6
     ·have:=hb.le hP (by omega)
      exact .inl (by omega)
     ·exact ih (f a) (by omega) h6 (by omega) b hb
theorem no_return'{f:Nat→Nat}{N i e m:Nat}(hP:Pre f N)(hs:Seg f N i e)(h1:e≤m)(h2:m<N):f m≠i:=fun h=>by
 have h4:=hs.lt
 have h5:=hP.lt m (by omega) h2
 have:=no_return hP hs m m (Nat.le_refl _) h1 h2 (f m) (.step _ _ (by omega) (.refl _))
 omega
def chFrom(f:Nat→Nat)(N i c:Nat):List Nat:=(List.range' c (N-c)).filter (fun j=>decide (f j=i))
structure TreeOf(t:List Nd)(f:Nat→Nat)(S:List PN):Prop where
 len:S.length=t.length
 node:∀(i:Nat) (h:i<t.length),∃s,S[i]? = some s∧s.row=t[i]∧lists s=chFrom f t.length i (i+1)
 par:∀(i:Nat) (h:i<t.length),0<i→(t[i]).parent=f i
theorem filter_two(p q:Nat→Bool):∀(l:List Nat),l.Pairwise (·<·)→(∀x∈l,∀y∈l,p x=true→q y=true→x<y)→(∀x∈l,p x=true→q x=false)→
  l.filter p++l.filter q=l.filter (fun x=>p x||q x)
 | [],_,_,_=>rfl
 | a::r,hs,h,hd=>by
   have hs':=List.pairwise_cons.1 hs
   have ih:=filter_two p q r hs'.2 (fun x hx y hy=>h x (List.mem_cons_of_mem _ hx) y (List.mem_cons_of_mem _ hy)) (fun x hx=>hd x (List.mem_cons_of_mem _ hx))
   cases hp:p a with
   | true=>
     have hq:=hd a List.mem_cons_self hp
     rw[List.filter_cons_of_pos hp,List.filter_cons_of_neg (by rw[hq];simp),List.filter_cons_of_pos (by rw[hp];rfl),List.cons_append,ih]
   | false=>
     cases hq:q a with
     | false=>
       rw[List.filter_cons_of_neg (by rw[hp];simp),List.filter_cons_of_neg (by rw[hq];simp),List.filter_cons_of_neg (by rw[hp,hq];simp),ih]
     | true=>
       have hn:r.filter p=[]:=by
        rw[List.filter_eq_nil_iff]
        intro x hx hpx
        have h1:=h x (List.mem_cons_of_mem _ hx) a List.mem_cons_self hpx hq
        have h2:=hs'.1 x hx
        omega
       rw[hn,List.nil_append]at ih
       rw[List.filter_cons_of_neg (by rw[hp];simp),hn,List.filter_cons_of_pos hq,List.filter_cons_of_pos (by rw[hp,hq];rfl),ih]
       rfl
end Go.Proofs.YtelffdgcikceaaaGreatDoor
end
section
namespace Go.Proofs.YtelffdgcikceaaaGreatDoor
open Go.V
def kE(t:List Nd)(i:Nat):Nat:=(nd t (i:Int)).parent.toNat
theorem chase_neg(t:List Nd)(q:Int):∀(n:Nat) (p:Int),p<0→chase t q n p=p
 | 0,_,_=>rfl
 | n+1,p,h=>by
   simp only[chase]
   rw[if_neg (by omega)]
theorem chase_anc{t:List Nd}{q:Int}(hq:0≤q)(h0:(nd t ((0:Nat):Int)).parent<0):∀(n:Nat) (p:Int),0≤p→chase t q n p=q→Anc (kE t) p.toNat q.toNat
 | 0,p,hp,h=>by
   simp only[chase]at h
   rw[h]
   exact .refl _
 | n+1,p,hp,h=>by
   simp only[chase]at h
   split at h
   ·rename_i g
    have hpp:(p.toNat:Int)=p:=Int.toNat_of_nonneg hp
    have hg:0≤(nd t p).parent:=by
     rcases Int.lt_or_le (nd t p).parent 0 with g2|g2
     ·rw[chase_neg t q n _ g2]at h
      omega
     ·exact g2
    have hpos:0<p.toNat:=by
     rcases Nat.eq_zero_or_pos p.toNat with e|e
     ·have:p=((0:Nat):Int):=by omega
      rw[this]at hg
      omega
     ·exact e
    have:=chase_anc hq h0 n _ hg h
    refine .step _ _ hpos ?_
    unfold kE
    rw[hpp]
    exact this
   ·rw[h]
    exact .refl _
structure Right(t:List Nd):Prop where
 pos:0<t.length
 root:(nd t ((0:Nat):Int)).parent=-1∧(nd t ((0:Nat):Int)).kind=1
 par:∀i:Nat,0<i→i<t.length→(nd t (i:Int)).parent=(kE t i:Int)
 pre:Pre (kE t) t.length
theorem right_of{t:List Nd}(h:eG t true=0):Right t:=by
 obtain⟨h1,h2,h3⟩:=u7 h
 have ho:=oU h
 have hroot:(nd t ((0:Nat):Int)).parent=-1:=by have:=ho 0 h1;omega
 have hpar:∀i:Nat,0<i→i<t.length→(nd t (i:Int)).parent=(kE t i:Int):=fun i h4 h5=>by
  have:=(h3 i h4 h5).1
  unfold kE
  omega
 refine⟨h1,⟨hroot,h2⟩,hpar,⟨fun i h4 h5=>?_,fun i h4 h5=>?_⟩⟩
 ·have:=(ho i h5).1
  rw[hpar i h4 h5]at this
  omega
 ·have hop:=of_decide_eq_true (allB_open h h5)
  have hp:=hpar i h4 h5
  have:=chase_anc (t:=t) (q:=(nd t (i:Int)).parent) (by omega) (by omega) i ((i:Int)-1) (by omega) hop
  rw[hp]at this
  rw[show((i:Int)-1).toNat=i-1 by omega]at this
  exact this
theorem step_next{t:List Nd}{s s':wP}{k:Nat}(h:iC t true s k=some s') :
  (k=0∧s'.last=s.last.set k (-1))∨(0<k∧kN t (s.last.set k (-1)) s.top k=true∧s'.last=(if(nd t (k:Int)).kind=3 then s.last.set k (-1)else if(nd t (k:Int)).parent<0 then s.last.set k (-1)else(s.last.set k (-1)).set (nd t (k:Int)).parent.toNat k)):=by
 unfold iC at h
 simp only at h
 split at h
 ·cases h
 ·split at h
  ·rename_i g
   split at h
   ·cases h;exact .inl ⟨g.2,rfl⟩
   ·cases h
  ·rename_i g
   split at h
   ·cases h
   ·split at h
    ·cases h
    ·rename_i g3
     cases h
     refine .inr ⟨?_,by simpa using g3,rfl⟩
     rcases Nat.eq_zero_or_pos k with e|e
     ·exact absurd ⟨trivial,e⟩ g
     ·exact e
structure LastOk(t:List Nd)(s:wP)(k:Nat):Prop where
 len:s.last.length=t.length
 some_:∀j,0<j→j<k→(nd t (j:Int)).kind≠3→0≤s.last.getD (kE t j) 0
 prev:∀j,0<j→j+1=k→(nd t (j:Int)).kind≠3→s.last.getD (kE t j) 0=j
theorem getD_set_ne{l:List Int}{i j:Nat}{x:Int}(h:i≠j):(l.set i x).getD j 0=l.getD j 0:=by
 rw[List.getD_eq_getElem?_getD,List.getD_eq_getElem?_getD,List.getElem?_set,if_neg h]
theorem dV{l:List Int}{i:Nat}{x:Int}(h:i<l.length):(l.set i x).getD i 0=x:=by
 rw[List.getD_eq_getElem?_getD,List.getElem?_set,if_pos rfl,if_pos h]
 rfl
theorem last_ok{t:List Nd}(hR:Right t):∀(k:Nat) (s:wP),k≤t.length→gW t true k=some s→LastOk t s k
 | 0,s,_,h=>by
   simp only[gW,Option.some.injEq]at h
   subst h
   exact⟨by simp[lX],fun j _ hj=>by omega,fun j _ hj=>by omega⟩
 | k+1,s,hk,h=>by
   simp only[gW]at h
   cases hs:gW t true k with
   | none=>rw[hs]at h;cases h
   | some s0=>
     rw[hs]at h
     simp only[Option.bind_some]at h
     have ih:=last_ok hR k s0 (by omega) hs
     have hlt:∀j,0<j→j<t.length→kE t j<j:=hR.pre.lt
     rcases step_next h with ⟨rfl,hl⟩|⟨hk0,-,hl⟩
     ·exact⟨by rw[hl,List.length_set];exact ih.len,fun j h1 h2=>by omega,fun j h1 h2=>by omega⟩
     ·have hp:=hR.par k hk0 (by omega)
      have hlk:=hlt k hk0 (by omega)
      have hlen:=ih.len
      by_cases g:(nd t (k:Int)).kind=3
      ·rw[if_pos g]at hl
       refine⟨by rw[hl,List.length_set];exact ih.len,fun j h1 h2 h3=>?_,fun j h1 h2 h3=>?_⟩
       ·have hjk:j<k:=by
         rcases Nat.lt_or_ge j k with e|e
         ·exact e
         ·have:j=k:=by omega
          subst this;exact absurd g h3
        have:=hlt j h1 (by omega)
        rw[hl,getD_set_ne (by omega)]
        exact ih.some_ j h1 hjk h3
       ·have:j=k:=by omega
        subst this;exact absurd g h3
      ·rw[if_neg g,if_neg (by omega)]at hl
       have e:(nd t (k:Int)).parent.toNat=kE t k:=rfl
       rw[e]at hl
       refine⟨by rw[hl,List.length_set,List.length_set];exact ih.len,fun j h1 h2 h3=>?_,fun j h1 h2 h3=>?_⟩
       ·rw[hl]
        by_cases e2:kE t k=kE t j
        ·rw[←e2,dV (by rw[List.length_set];omega)]
         omega
        ·rw[getD_set_ne e2]
         have hjk:j<k:=by
          rcases Nat.lt_or_ge j k with e|e
          ·exact e
          ·have:j=k:=by omega
           subst this;exact absurd rfl e2
         have:=hlt j h1 (by omega)
         rw[getD_set_ne (by omega)]
         exact ih.some_ j h1 hjk h3
       ·have:j=k:=by omega
        subst this
        rw[hl,dV (by rw[List.length_set];omega)]
theorem node_body{t:List Nd}(h:eG t true=0){k:Nat}(h0:0<k)(hk:k<t.length):∃s,LastOk t s k∧Fits t (nd t (k:Int))∧iP t (s.last.getD (kE t k) 0) k (nd t (k:Int))=true:=by
 have hR:=right_of h
 rcases u6 h hk with ⟨-,h2,-⟩|⟨-,-,s,hs,hf⟩
 ·omega
 ·have hp:=hR.par k h0 hk
  have hlk:=hR.pre.lt k h0 hk
  refine⟨s,last_ok hR k s (by omega) hs,fits_head hf,?_⟩
  unfold kN at hf
  simp only[Bool.and_eq_true]at hf
  have hb:=hf.2
  unfold lT at hb
  rw[if_pos (by omega)]at hb
  have e:(nd t (k:Int)).parent.toNat=kE t k:=rfl
  rw[e,getD_set_ne (by omega)]at hb
  exact hb
theorem attrs_first{t:List Nd}(h:eG t true=0){a b:Nat}(ha0:0<a)(ha:a<t.length)(hb0:0<b)(hb:b<t.length)(he:kE t a=kE t b)(h1:(nd t (a:Int)).kind=3)(h2:(nd t (b:Int)).kind≠3):a<b:=by
 rcases Nat.lt_or_ge a b with g|g
 ·exact g
 ·have hne:a≠b:=fun e=>h2 (e▸h1)
  obtain⟨s,hL,-,hB⟩:=node_body h ha0 ha
  have:=hL.some_ b hb0 (by omega) h2
  unfold iP at hB
  rw[if_pos h1]at hB
  simp only[Bool.and_eq_true,decide_eq_true_eq]at hB
  rw[he]at hB
  omega
def ch3(t:List Nd)(k i:Nat):List Nat:=(List.range' (i+1) (k-(i+1))).filter (fun j=>decide (kE t j=i)&&decide ((nd t (j:Int)).kind=3))
def chN(t:List Nd)(k i:Nat):List Nat:=(List.range' (i+1) (k-(i+1))).filter (fun j=>decide (kE t j=i)&&!decide ((nd t (j:Int)).kind=3))
theorem sU{i k:Nat}(h:i<k):List.range' (i+1) (k+1-(i+1))=List.range' (i+1) (k-(i+1))++[k]:=by
 rw[show k+1-(i+1)=k-(i+1)+1 by omega,List.range'_1_concat]
 congr 2
 omega
theorem apart_ch{t:List Nd}(hR:Right t):∀k,k≤t.length→∀(i:Nat) (h:i<k),∃s,(fF 0 ⟨[],[],[]⟩ (t.take k)).S[i]? = some s∧s.row=nd t (i:Int)∧s.attrs=ch3 t k i∧s.kids=chN t k i
 | 0,_,i,h=>absurd h (Nat.not_lt_zero _)
 | k+1,hk,i,hi=>by
   have hkl:k<t.length:=by omega
   have hst:=apart_ch hR k (by omega)
   have hsl:(fF 0 ⟨[],[],[]⟩ (t.take k)).S.length=k:=by rw[apRun_len];simp;omega
   rw[List.take_succ_eq_append_getElem hkl,wU]
   rw[←eT hkl]
   generalize fF 0 ⟨[],[],[]⟩ (t.take k)=st at *
   have new:∀(o:Option Nat),(st.S++[(⟨nd t (k:Int),o,[],[]⟩:PN)])[k]? = some ⟨nd t (k:Int),o,[],[]⟩:=fun o=>by
    rw[List.getElem?_append_right (by omega),hsl,Nat.sub_self];rfl
   have e3:ch3 t (k+1) k=[]:=by simp[ch3]
   have eN:chN t (k+1) k=[]:=by simp[chN]
   rcases Nat.eq_zero_or_pos k with hk0|hk0
   ·subst hk0
    have hi0:i=0:=by omega
    subst hi0
    have hr:=hR.root.1
    unfold cK
    simp only
    rw[if_neg (by omega)]
    split
    ·exact⟨_,new none,rfl,e3.symm,eN.symm⟩
    ·exact⟨_,new none,rfl,e3.symm,eN.symm⟩
   ·have hp:=hR.par k hk0 hkl
    have hlt:=hR.pre.lt k hk0 hkl
    have hu:0+(nd t (k:Int)).parent.toNat=kE t k:=by unfold kE;omega
    unfold cK
    simp only
    rw[if_pos (by omega),hu]
    obtain⟨su,hsu,hru,hau,hku⟩:=hst (kE t k) hlt
    have hsu':(st.S++[(⟨nd t (k:Int),some (kE t k),[],[]⟩:PN)])[kE t k]? = some su:=by rw[List.getElem?_append_left (by omega)];exact hsu
    rw[hsu']
    simp only
    rw[List.getElem?_set]
    by_cases eu:kE t k=i
    ·rw[if_pos eu,if_pos (by simp;omega),hsl]
     subst eu
     have r3:ch3 t (k+1) (kE t k)=ch3 t k (kE t k)++(if(nd t (k:Int)).kind=3 then [k]else []):=by
      unfold ch3
      rw[sU hlt,List.filter_append]
      congr 1
      by_cases g:(nd t (k:Int)).kind=3<;>simp[g]
     have rN:chN t (k+1) (kE t k)=chN t k (kE t k)++(if(nd t (k:Int)).kind=3 then []else [k]):=by
      unfold chN
      rw[sU hlt,List.filter_append]
      congr 1
      by_cases g:(nd t (k:Int)).kind=3<;>simp[g]
     rw[r3,rN]
     by_cases g:(nd t (k:Int)).kind=3
     ·simp only[if_pos g,List.append_nil]
      exact⟨_,rfl,hru,by simp[mD,hau],by simp[mD,hku]⟩
     ·simp only[if_neg g,List.append_nil]
      exact⟨_,rfl,hru,by simp[oD,hau],by simp[oD,hku]⟩
    ·rw[if_neg eu]
     by_cases ek:i=k
     ·subst ek
      exact⟨_,new _,rfl,e3.symm,eN.symm⟩
     ·have hik:i<k:=by omega
      obtain⟨si,hsi,hri,hai,hki⟩:=hst i hik
      have r3:ch3 t (k+1) i=ch3 t k i:=by
       unfold ch3
       rw[sU hik,List.filter_append]
       simp[eu]
      have rN:chN t (k+1) i=chN t k i:=by
       unfold chN
       rw[sU hik,List.filter_append]
       simp[eu]
      exact⟨si,by rw[List.getElem?_append_left (by omega)];exact hsi,hri,by rw[r3,hai],by rw[rN,hki]⟩
theorem range'_sorted(s n:Nat):(List.range' s n).Pairwise (·<·):=List.pairwise_lt_range'
theorem tree_of{t:List Nd}(h:eG t true=0):TreeOf t (kE t) (dI [] t).S∧∀(i:Nat) (hi:i<t.length),∃s,(dI [] t).S[i]? = some s∧s.row=t[i]∧s.attrs=ch3 t t.length i∧s.kids=chN t t.length i:=by
 have hR:=right_of h
 have hch:=apart_ch hR t.length (Nat.le_refl _)
 rw[List.take_length]at hch
 have key:∀(i:Nat) (hi:i<t.length),∃s,(dI [] t).S[i]? = some s∧s.row=t[i]∧s.attrs=ch3 t t.length i∧s.kids=chN t t.length i:=fun i hi=>by
  obtain⟨s,h1,h2,h3⟩:=hch i hi
  rw[eT hi]at h2
  exact⟨s,h1,h2,h3⟩
 refine⟨⟨by rw[mM];simp,fun i hi=>?_,fun i hi h0=>?_⟩,key⟩
 ·obtain⟨s,h1,h2,h3,h4⟩:=key i hi
  refine⟨s,h1,h2,?_⟩
  unfold lists
  rw[h3,h4]
  unfold ch3 chN chFrom
  rw[filter_two _ _ _ (range'_sorted _ _) (fun a ha b hb pa pb=>?_) (fun a _ pa=>?_)]
  ·congr 1
   funext j
   cases decide (kE t j=i)<;>cases decide ((nd t (j:Int)).kind=3)<;>rfl
  ·rw[List.mem_range'_1]at ha hb
   simp only[Bool.and_eq_true,decide_eq_true_eq,Bool.not_eq_true',decide_eq_false_iff_not]at pa pb
   exact attrs_first h (by omega) (by omega) (by omega) (by omega) (pa.1.trans pb.1.symm) pa.2 pb.2
  ·simp only[Bool.and_eq_true,decide_eq_true_eq]at pa
   simp[pa]
 ·have:=hR.par i h0 hi
  rw[eT hi]at this
  exact this
theorem rule4:(fC 4).full=true:=rfl
theorem merge_run{t:List Nd}(h:eG t true=0):∀k,k≤t.length→∃tt,kP t k=some ⟨t.take k,tt⟩∧tt.length=t.length∧∀j,j<k→tt.getD j 0=(j:Int)
 | 0,_=>⟨_,rfl,by simp,fun j hj=>by omega⟩
 | k+1,hk=>by
   have hR:=right_of h
   have hkl:k<t.length:=by omega
   obtain⟨tt,h1,h2,h3⟩:=merge_run h k (by omega)
   have hml:(t.take k).length=k:=by simp;omega
   have hmv:movedN ⟨t.take k,tt⟩ (nd t (k:Int))=nd t (k:Int):=by
    unfold movedN
    split
    ·rename_i g
     have:0<k:=by
      rcases Nat.eq_zero_or_pos k with e|e
      ·subst e;have:=hR.root.1;omega
      ·exact e
     have hp:=hR.par k this hkl
     have hlt:=hR.pre.lt k this hkl
     have e:(nd t (k:Int)).parent.toNat=kE t k:=rfl
     simp only
     rw[e,h3 _ hlt,←hp]
    ·rfl
   refine⟨tt.set k k,?_,by rw[List.length_set];exact h2,fun j hj=>?_⟩
   ·simp only[kP,h1,Option.bind_some,mstepB]
    rw[if_neg (by rw[allB_open h hkl];simp)]
    simp only[hmv,hml]
    have hval:gJ t k=true→(nd t (k:Int)).value≠aP∧(nd t (k:Int)).kind=4:=fun ha=>by
     unfold gJ at ha
     simp only[Bool.and_eq_true,decide_eq_true_eq]at ha
     have hk0:0<k:=by
      rcases Nat.eq_zero_or_pos k with e|e
      ·subst e;have:=hR.root.2;omega
      ·exact e
     obtain⟨s,hL,hF,-⟩:=node_body h hk0 hkl
     have:=hF.value.2.1
     rw[ha.1]at this
     exact⟨this rule4,ha.1⟩
    have hjoin:gJ t k=true→jD ⟨t.take k,tt⟩ (nd t (k:Int)).parent=false:=fun ha=>by
     have hk4:=(hval ha).2
     cases hj:jD ⟨t.take k,tt⟩ (nd t (k:Int)).parent with
     | false=>rfl
     | true=>
       exfalso
       unfold jD at hj
       simp only[Bool.and_eq_true,decide_eq_true_eq,hml]at hj
       obtain⟨⟨j1,j2⟩,j3⟩:=hj
       have hg:(t.take k).getD (k-1) nd0=nd t ((k-1:Nat):Int):=by
        rw[eT (by omega),List.getD_eq_getElem?_getD,List.getElem?_take,if_pos (by omega),List.getElem?_eq_getElem (by omega)]
        rfl
       rw[hg]at j2 j3
       have hk1:0<k-1:=by
        rcases Nat.eq_zero_or_pos (k-1)with e|e
        ·rw[e]at j2;have:=hR.root.2;omega
        ·exact e
       obtain⟨s,hL,-,hB⟩:=node_body h j1 hkl
       have hpv:=hL.prev (k-1) hk1 (by omega) (by omega)
       have hff:kE t (k-1)=kE t k:=by unfold kE;rw[j3]
       rw[hff]at hpv
       unfold iP at hB
       rw[if_neg (by omega),if_pos hk4]at hB
       simp only[Bool.or_eq_true,decide_eq_true_eq,Bool.not_eq_true',decide_eq_false_iff_not]at hB
       rw[hpv]at hB
       rcases hB with hB|hB
       ·omega
       ·exact hB j2
    rw[if_neg (fun g=>(hval g.1).1 g.2),if_neg (fun g=>by rw[hjoin g.1]at g;exact Bool.noConfusion g.2)]
    rw[List.take_succ_eq_append_getElem hkl,eT hkl]
   ·by_cases e:j=k
    ·subst e
     exact dV (by omega)
    ·rw[getD_set_ne (Ne.symm e)]
     exact h3 j (by omega)
theorem merge_same{t:List Nd}(h:eG t true=0):gN t=t:=by
 have hl:=(rE h).1
 obtain⟨tt,h1,-,-⟩:=merge_run h t.length (Nat.le_refl _)
 unfold gN
 rw[if_neg (by omega),h1]
 simp
end Go.Proofs.YtelffdgcikceaaaGreatDoor
end
section
namespace Go.Proofs.YtelffdgcikceaaaGreatDoor
open Go.V
theorem ext_list(s:ByteArray)(a b:Nat):(s.extract a b).data.toList=(s.data.toList.take b).drop a:=by
 simp[ByteArray.data_extract,Array.toList_extract,List.drop_take]
theorem index_pos(sub:List UInt8):∀l:List UInt8,0≤Lib.index l sub↔∃j,j≤l.length∧sub.isPrefixOf (l.drop j)=true
 | []=>by
   unfold Lib.index
   cases sub with
   | nil=>simp
   | cons x r=>simp
 | b::l=>by
   have ih:=index_pos sub l
   have hg:=Lib.index_ge l sub
   unfold Lib.index
   by_cases h:sub.isPrefixOf (b::l)=true
   ·rw[if_pos h]
    exact⟨fun _=>⟨0,Nat.zero_le _,h⟩,fun _=>Int.le_refl _⟩
   ·rw[if_neg h]
    have key:(∃j,j≤(b::l).length∧sub.isPrefixOf ((b::l).drop j)=true)↔∃j,j≤l.length∧sub.isPrefixOf (l.drop j)=true:=by
     constructor
     ·rintro⟨j,h1,h2⟩
      cases j with
      | zero=>exact absurd h2 h
      | succ j=>exact⟨j,by simpa using h1,by simpa using h2⟩
     ·rintro⟨j,h1,h2⟩
      exact⟨j+1,by simpa using h1,by simpa using h2⟩
    rw[key,←ih]
    by_cases e:Lib.index l sub=-1
    ·rw[if_pos (by simpa using e)];omega
    ·rw[if_neg (by simpa using e)];omega
theorem x9(s p:ByteArray)(hp:1≤p.size):hasF s p=Lib.contains s.data.toList p.data.toList:=by
 have ls:s.data.toList.length=s.size:=Array.length_toList
 have lp:p.data.toList.length=p.size:=Array.length_toList
 rw[Bool.eq_iff_iff]
 unfold hasF Lib.contains
 rw[List.any_eq_true,decide_eq_true_eq,index_pos]
 constructor
 ·rintro⟨i,h1,h2⟩
  rw[List.mem_range]at h1
  refine⟨i,by omega,?_⟩
  have e:=congrArg (fun b:ByteArray=>b.data.toList) (of_decide_eq_true h2)
  simp only[ext_list]at e
  rw[List.isPrefixOf_iff_prefix,←e,List.drop_take]
  exact List.take_prefix _ _
 ·rintro⟨i,h1,h2⟩
  rw[List.isPrefixOf_iff_prefix]at h2
  have hle:=h2.length_le
  rw[List.length_drop]at hle
  refine⟨i,List.mem_range.2 (by omega),decide_eq_true ?_⟩
  have e:=List.prefix_iff_eq_take.1 h2
  have:(s.extract i (i+p.size)).data.toList=p.data.toList:=by
   rw[ext_list,List.drop_take,e,lp]
   congr 1
   omega
  generalize s.extract i (i+p.size)=q at *
  cases q;cases p
  simp only at this
  congr 1
  exact Array.toList_inj.1 this
theorem suffix_last(s:ByteArray):Lib.hasSuffix s.data.toList dashT.data.toList=(!decide (s=aP)&&decide (aI s (s.size-1)=45)):=by
 have ls:s.data.toList.length=s.size:=Array.length_toList
 rw[Bool.eq_iff_iff]
 unfold Lib.hasSuffix
 rw[List.isSuffixOf_iff_suffix,Bool.and_eq_true,decide_eq_true_eq]
 have hd:dashT.data.toList=[45]:=rfl
 rw[hd]
 have hb:aI s (s.size-1)=(((s.data.toList)[s.size-1]?.getD 0).toNat:Int):=by
  unfold aI
  rw[Array.getElem?_toList]
 rw[hb]
 constructor
 ·rintro⟨l,h⟩
  have hl:s.size=l.length+1:=by rw[←ls,←h];simp
  refine⟨by simp[kD,hl],?_⟩
  rw[←h,hl]
  simp
 ·rintro⟨h1,h2⟩
  have hs:¬s.size=0:=by simpa [kD] using h1
  have hne:s.data.toList≠[]:=fun e=>hs (by rw[←ls,e];rfl)
  refine⟨s.data.toList.dropLast,?_⟩
  have hlast:=List.dropLast_concat_getLast hne
  have:s.data.toList.getLast hne=45:=by
   rw[List.getLast_eq_getElem]
   rw[List.getElem?_eq_getElem (by omega)]at h2
   simp only[Option.getD_some]at h2
   apply UInt8.toNat_inj.1
   have e:s.data.toList.length-1=s.size-1:=by omega
   simp only[e]
   show _=45
   omega
  rw[←hlast,this]
  simp
theorem blank_one(s:ByteArray)(h:s.size=1):blankB s.data.toList=blank1 s:=by
 have ls:s.data.toList.length=s.size:=Array.length_toList
 obtain⟨b,hb⟩:∃b,s.data.toList=[b]:=by
  match hs:s.data.toList,ls with
  | [b],_=>exact⟨b,rfl⟩
  | [],ls=>simp at ls;omega
  | a::b::r,ls=>simp at ls;omega
 unfold blank1 aI
 rw[←Array.getElem?_toList,hb]
 unfold blankB blanksL Lib.trimS Lib.trimLeftS Lib.trimRightS
 simp only[List.getElem?_cons_zero,Option.getD_some]
 have key:∀n:Nat,∀h:n<256,(decide (((([UInt8.ofNat n]:List UInt8).reverse.dropWhile fun x=>([32,9,10,13]:List UInt8).contains x).reverse.dropWhile fun x=>([32,9,10,13]:List UInt8).contains x)=[]))=decide (((UInt8.ofNat n).toNat:Int)=9∨((UInt8.ofNat n).toNat:Int)=10∨((UInt8.ofNat n).toNat:Int)=13∨((UInt8.ofNat n).toNat:Int)=32):=by decide +kernel
 have:=key b.toNat b.toNat_lt
 rw[UInt8.ofNat_toNat]at this
 exact this
theorem parK_of{t:List Nd}{i:Nat}:mF t i=if(nd t (i:Int)).parent<0 then 0 else(nd t (nd t (i:Int)).parent).kind:=rfl
theorem q8{t:List Nd}{i:Nat}{r:Rule}(hv:0≤(nd t (i:Int)).parent→(nd t (nd t (i:Int)).parent).kind≠0)(h1:r.top=true)(h2:r.root=true)(h3:r.element=true) :
  iA r t (nd t (i:Int)).parent=iI (mF t i):=by
 unfold iA iI
 rw[parK_of]
 by_cases hp:(nd t (i:Int)).parent<0
 ·rw[if_pos hp,if_pos hp,h1]
  rfl
 ·rw[if_neg hp,if_neg hp]
  have:=hv (by omega)
  by_cases e:(nd t (nd t (i:Int)).parent).kind=1
  ·rw[if_pos e,h2,decide_eq_true (.inr (.inr e))]
  ·rw[if_neg e,h3,Bool.true_and]
   rw[Bool.eq_iff_iff,decide_eq_true_eq,decide_eq_true_eq]
   exact⟨fun h=>.inr (.inl h),fun h=>by omega⟩
theorem within_text{t:List Nd}{i:Nat}{r:Rule}(hv:0≤(nd t (i:Int)).parent→(nd t (nd t (i:Int)).parent).kind≠0)(h1:r.top=true)(h2:r.root=false)(h3:r.element=true) :
  iA r t (nd t (i:Int)).parent=decide (mF t i=0∨mF t i=2):=by
 unfold iA
 rw[parK_of]
 by_cases hp:(nd t (i:Int)).parent<0
 ·rw[if_pos hp,if_pos hp,h1]
  rfl
 ·rw[if_neg hp,if_neg hp]
  have:=hv (by omega)
  by_cases e:(nd t (nd t (i:Int)).parent).kind=1
  ·rw[if_pos e,h2,decide_eq_false (by omega)]
  ·rw[if_neg e,h3,Bool.true_and]
   rw[Bool.eq_iff_iff,decide_eq_true_eq,decide_eq_true_eq]
   exact⟨fun h=>.inr h,fun h=>by omega⟩
theorem within_attr{t:List Nd}{i:Nat}{r:Rule}(h1:r.top=false)(h2:r.root=false)(h3:r.element=true) :
  iA r t (nd t (i:Int)).parent=decide (mF t i=2):=by
 unfold iA
 rw[parK_of]
 by_cases hp:(nd t (i:Int)).parent<0
 ·rw[if_pos hp,if_pos hp,h1]
  rfl
 ·rw[if_neg hp,if_neg hp]
  by_cases e:(nd t (nd t (i:Int)).parent).kind=1
  ·rw[if_pos e,h2,decide_eq_false (by omega)]
  ·rw[if_neg e,h3,Bool.true_and]
theorem name_zname:dW aP=false:=rfl
theorem texts_zname:gU aP=true:=by kernel_rfl
theorem fits_eq{t:List Nd}{i:Nat}{last:List Int}{top:Int}(hv:0≤(nd t (i:Int)).parent→(nd t (nd t (i:Int)).parent).kind≠0)
  (hb:lT (nd t (i:Int)) last top=kU t i i) (ha:(nd t (i:Int)).kind=3→mF t i=2→dW (nd t (i:Int)).name=true→mG t i=(decide (kU t i i<0)&&wH t (nd t (i:Int)).name ((nd t (i:Int)).parent+1).toNat i)) :
  kN t last top i=(jK t i&&!decide ((nd t (i:Int)).kind=1)):=by
 unfold kN jK rM
 simp only
 rw[hb]
 generalize hn:nd t (i:Int)=n at *
 obtain⟨kind,name,value,parent⟩:=n
 simp only at *
 have hk:kind≤1∨kind=2∨kind=3∨kind=4∨kind=5∨kind=6∨7≤kind:=by omega
 have hsz:(!decide (65536<value.size))=(!decide (65536<value.size)):=rfl
 rcases hk with hk|rfl|rfl|rfl|rfl|rfl|hk
 ·have:fC kind=kZ:=by
   have:kind.toNat=0∨kind.toNat=1:=by omega
   unfold fC
   rcases this with e|e<;>rw[e]<;>rfl
  rw[this]
  have:kW t i (mF t i) ⟨kind,name,value,parent⟩=false∨kind=1:=by
   by_cases e:kind=1
   ·exact .inr e
   ·left
    unfold kW
    simp only
    rw[if_neg e,if_neg (by omega),if_neg (by omega),if_neg (by omega),if_neg (by omega),if_neg (by omega)]
  rcases this with e|e
  ·simp[e]
  ·simp[e]
 ·have hr:fC 2=⟨true,false,false,true,true,true⟩:=rfl
  have hw:=q8 (t:=t) (i:=i) (r:=⟨true,false,false,true,true,true⟩) (by rw[hn];exact hv) rfl rfl rfl
  rw[hn]at hw
  simp only at hw
  rw[hr,hw]
  unfold kW iP
  cases gU value<;>cases dW name<;>cases decide (value=aP)<;>cases iI (mF t i)<;>simp[kZ]
 ·have hr:fC 3=⟨true,true,false,false,false,true⟩:=rfl
  have hw:=within_attr (t:=t) (i:=i) (r:=⟨true,true,false,false,false,true⟩) rfl rfl rfl
  rw[hn]at hw
  simp only at hw
  rw[hr,hw]
  unfold kW iP
  simp only
  by_cases hu:mF t i=2
  ·cases hnm:dW name with
   | true=>
     have e:=ha rfl hu hnm
     cases gU value<;>simp[kZ,hu,e]
   | false=>
     have:mG t i=false:=by unfold mG;rw[hn];simp[hnm]
     simp[this]
  ·have:mG t i=false:=by unfold mG;simp[hu]
   simp[this,hu]
 ·have hr:fC 4=⟨false,true,true,true,false,true⟩:=rfl
  have hw:=within_text (t:=t) (i:=i) (r:=⟨false,true,true,true,false,true⟩) (by rw[hn];exact hv) rfl rfl rfl
  rw[hn]at hw
  simp only at hw
  rw[hr,hw]
  unfold kW iP
  by_cases hz:name=aP
  ·subst hz
   cases gU value<;>cases decide (value=aP)<;>cases decide (mF t i=0∨mF t i=2)<;>simp[kZ,name_zname]
  ·simp[hz]
 ·have hr:fC 5=⟨false,true,false,true,true,true⟩:=rfl
  have hw:=q8 (t:=t) (i:=i) (r:=⟨false,true,false,true,true,true⟩) (by rw[hn];exact hv) rfl rfl rfl
  rw[hn]at hw
  simp only at hw
  rw[hr,hw]
  unfold kW iP
  simp only
  rw[x9 value nS (by decide),suffix_last]
  by_cases hz:name=aP
  ·subst hz
   cases gU value<;>cases decide (value=aP)<;>cases iI (mF t i)<;>cases Lib.contains value.data.toList nS.data.toList<;>simp[kZ,name_zname]
  ·simp[hz]
 ·have hr:fC 6=⟨true,true,false,true,true,true⟩:=rfl
  have hw:=q8 (t:=t) (i:=i) (r:=⟨true,true,false,true,true,true⟩) (by rw[hn];exact hv) rfl rfl rfl
  rw[hn]at hw
  simp only at hw
  rw[hr,hw]
  unfold kW iP
  simp only
  rw[x9 value endT (by decide)]
  by_cases hz:value=aP
  ·subst hz
   cases gU aP<;>cases dW name<;>cases iI (mF t i)<;>simp[kZ]
  ·have h1:1≤value.size:=by
    have:¬value.size=0:=fun h=>hz ((kD value).2 h)
    omega
   rw[blank_one (value.extract 0 1) (by rw[ByteArray.size_extract];omega)]
   cases gU value<;>cases dW name<;>cases iI (mF t i)<;>simp[kZ,hz,Bool.and_assoc]
 ·have:fC kind=kZ:=by
   unfold fC
   rw[List.getD_eq_getElem?_getD,List.getElem?_eq_none (by unfold uM;simp;omega)]
   rfl
  have e:kW t i (mF t i) ⟨kind,name,value,parent⟩=false:=by
   unfold kW
   simp only
   rw[if_neg (by omega),if_neg (by omega),if_neg (by omega),if_neg (by omega),if_neg (by omega),if_neg (by omega)]
  rw[this,e]
  simp
end Go.Proofs.YtelffdgcikceaaaGreatDoor
end
section
namespace Go.Proofs.YtelffdgcikceaaaGreatDoor
open Go.V
def upS(t:List Nd)(j:Nat):Nat:=((nd t ((j:Int)-1)).parent+1).toNat
theorem chase_up{t:List Nd}{N:Nat}{q:Int}(hu:∀j:Nat,j<N→-1≤(nd t (j:Int)).parent∧(nd t (j:Int)).parent<j)(hq:-1≤q):∀(n:Nat) (p:Int),-1≤p→p<N→p<n→chase t q n p=q→Anc (upS t) (p+1).toNat (q+1).toNat
 | 0,p,h1,h2,h3,h=>by
   simp only[chase]at h
   rw[h]
   exact .refl _
 | n+1,p,h1,h2,h3,h=>by
   simp only[chase]at h
   split at h
   ·rename_i g
    have hp:=hu p.toNat (by omega)
    rw[show((p.toNat:Nat):Int)=p by omega]at hp
    have:=chase_up hu hq n (nd t p).parent (by omega) (by omega) (by omega) h
    refine .step _ _ (by omega) ?_
    unfold upS
    rw[show(((p+1).toNat:Nat):Int)-1=p by omega]
    exact this
   ·rw[h]
    exact .refl _
theorem pre_up{t:List Nd}{N:Nat}(h:(List.range N).all (fB t)=true):Pre (upS t) (N+1):=by
 have hu:=lK N h
 refine⟨fun i h1 h2=>?_,fun i h1 h2=>?_⟩
 ·have:=hu (i-1) (by omega)
  unfold upS
  rw[show((i:Int)-1)=((i-1:Nat):Int)by omega]
  omega
 ·have hb:=hu (i-1) (by omega)
  have ho:fB t (i-1)=true:=List.all_eq_true.1 h _ (List.mem_range.2 (by omega))
  have ho':=of_decide_eq_true ho
  have e:((i-1:Nat):Int)=(i:Int)-1:=by omega
  rw[e]at ho' hb
  have:=chase_up (t:=t) (N:=N) hu hb.1 (i-1) ((i:Int)-1-1) (by omega) (by omega) (by omega) ho'
  have e2:((i:Int)-1-1+1).toNat=i-1:=by omega
  rw[e2]at this
  exact this
theorem between{t:List Nd}{N i k p:Nat}(h:(List.range N).all (fB t)=true)(hi:i<N)(hp:(nd t (i:Int)).parent=(p:Int))(h1:p<k)(h2:k<i):(p:Int)≤(nd t (k:Int)).parent:=by
 have hP:=pre_up h
 have hu:=lK N h
 obtain⟨e,hs⟩:=seg_ex (f:=upS t) (show p+1<N+1 by have:=hu i hi;omega)
 have hfi:upS t (i+1)=p+1:=by
  unfold upS
  rw[show(((i+1:Nat)):Int)-1=(i:Int)by omega,hp]
  omega
 have hie:i+1<e:=by
  rcases Nat.lt_or_ge (i+1) e with g|g
  ·exact g
  ·exact absurd hfi (no_return' hP hs g (by omega))
 have:=hs.ge (k+1) (by omega) (by omega)
 unfold upS at this
 rw[show(((k+1:Nat)):Int)-1=(k:Int)by omega]at this
 have hk:=hu k (by omega)
 omega
def lcF(t:List Nd)(p:Int):Nat→Int
 | 0=>-1
 | k+1=>if(nd t (k:Int)).parent=p∧(nd t (k:Int)).kind≠3 then(k:Int)else lcF t p k
theorem lc_low{t:List Nd}{N:Nat}{p:Int}(hu:∀j:Nat,j<N→(nd t (j:Int)).parent<j):∀k:Nat,k≤N→(k:Int)≤p+1→lcF t p k=-1
 | 0,_,_=>rfl
 | k+1,h1,h2=>by
   have:=hu k (by omega)
   simp only[lcF]
   rw[if_neg (by omega)]
   exact lc_low hu k (by omega) (by omega)
theorem sib_lc{t:List Nd}{N i:Nat}(hu:∀j:Nat,j<N→(nd t (j:Int)).parent<j):∀k:Nat,k≤N→kU t i k=lcF t (nd t (i:Int)).parent k
 | 0,_=>rfl
 | k+1,h=>by
   by_cases g:(nd t (i:Int)).parent<(k:Int)
   ·simp only[kU,lcF]
    rw[if_pos g,sib_lc hu k (by omega)]
   ·rw[lc_low hu (k+1) h (by omega)]
    simp only[kU]
    rw[if_neg g]
theorem lc_neg{t:List Nd}{p:Int}:∀{k:Nat},lcF t p k<0→∀j:Nat,j<k→(nd t (j:Int)).parent=p→(nd t (j:Int)).kind=3
 | 0,_,j,h,_=>absurd h (Nat.not_lt_zero _)
 | k+1,h,j,hj,hp=>by
   simp only[lcF]at h
   split at h
   ·omega
   ·rename_i g
    by_cases e:j=k
    ·subst e
     exact Decidable.byContradiction fun hn=>g ⟨hp,hn⟩
    ·exact lc_neg h j (by omega) hp
theorem lc_neg_of{t:List Nd}{p:Int}:∀{k:Nat},(∀j:Nat,j<k→(nd t (j:Int)).parent=p→(nd t (j:Int)).kind=3)→lcF t p k<0
 | 0,_=>by simp[lcF]
 | k+1,h=>by
   simp only[lcF]
   rw[if_neg (fun g=>g.2 (h k (by omega) g.1))]
   exact lc_neg_of fun j hj=>h j (by omega)
theorem attr_eq{t:List Nd}{N i:Nat}(h:(List.range N).all (fB t)=true)(hi:i<N)(hv:∀j:Nat,j<i→0≤(nd t (j:Int)).parent→(nd t (nd t (j:Int)).parent).kind≠3)
  (hk:(nd t (i:Int)).kind=3) (hup:mF t i=2) (hnm:dW (nd t (i:Int)).name=true) :
  mG t i=(decide (kU t i i<0)&&wH t (nd t (i:Int)).name ((nd t (i:Int)).parent+1).toNat i):=by
 have hu:=lK N h
 have hpi:=hu i hi
 have hp0:0≤(nd t (i:Int)).parent:=by
  have e:=hup
  unfold mF at e
  split at e
  ·omega
  ·omega
 obtain⟨p,hp⟩:∃p:Nat,(nd t (i:Int)).parent=(p:Int):=⟨(nd t (i:Int)).parent.toNat,by omega⟩
 have hpt:((nd t (i:Int)).parent+1).toNat=p+1:=by omega
 have hlow:∀j:Nat,j<N→(nd t (j:Int)).parent<j:=fun j hj=>(hu j hj).2
 rw[sib_lc hlow i (by omega),hp]
 unfold mG wH
 rw[hup,hnm,hpt]
 rw[Bool.eq_iff_iff]
 simp only[decide_true,Bool.true_and,Bool.and_eq_true,decide_eq_true_eq,List.all_eq_true,List.mem_range,Bool.not_eq_true',decide_eq_false_iff_not]
 constructor
 ·intro hA
  have hall:∀j:Nat,p<j→j<i→(nd t (j:Int)).parent=(p:Int)∧(nd t (j:Int)).kind=3∧¬(nd t (j:Int)).name=(nd t (i:Int)).name:=fun j h1 h2=>by
   have:=hA (j-(p+1)) (by omega)
   rw[show p+1+(j-(p+1))=j by omega]at this
   unfold qQ at this
   simp only[Bool.and_eq_true,decide_eq_true_eq,Bool.not_eq_true',decide_eq_false_iff_not,hp]at this
   exact this
  refine⟨lc_neg_of fun j hj hjp=>?_,fun k hk'=>(hall (p+1+k) (by omega) (by omega)).2.2⟩
  have:=hlow j (by omega)
  exact(hall j (by omega) hj).2.1
 ·rintro⟨hl,hN⟩
  have hall:∀n:Nat,∀j:Nat,j≤n→p<j→j<i→(nd t (j:Int)).parent=(p:Int)∧(nd t (j:Int)).kind=3:=fun n=>by
   induction n with
   | zero=>intro j h1 h2;omega
   | succ n ih=>
     intro j h1 h2 h3
     by_cases e:j≤n
     ·exact ih j e h2 h3
     ·have hb:=between h hi hp h2 h3
      have hj:=hu j (by omega)
      have hjp:(nd t (j:Int)).parent=(p:Int):=by
       rcases Int.lt_or_eq_of_le hb with g|g
       ·exfalso
        have hm:=ih (nd t (j:Int)).parent.toNat (by omega) (by omega) (by omega)
        rw[show(((nd t (j:Int)).parent.toNat:Nat):Int)=(nd t (j:Int)).parent by omega]at hm
        exact hv j h3 (by omega) hm.2
       ·exact g.symm
      exact⟨hjp,lc_neg hl j h3 hjp⟩
  intro k hk'
  have:=hall (p+1+k) (p+1+k) (Nat.le_refl _) (by omega) (by omega)
  unfold qQ
  simp only[Bool.and_eq_true,decide_eq_true_eq,Bool.not_eq_true',decide_eq_false_iff_not,hp]
  exact⟨this.1,this.2,hN k hk'⟩
end Go.Proofs.YtelffdgcikceaaaGreatDoor
end
section
namespace Go.Proofs.YtelffdgcikceaaaGreatDoor
open Go.V
structure RI(t:List Nd)(root:Bool)(k:Nat)(s:wP):Prop where
 lenL:s.last.length=t.length
 lenD:s.deep.length=t.length
 last:∀p:Nat,p<k→s.last.getD p 0=lcF t p k
 top:root=false→s.top=lcF t (-1) k
 deepA:∀j:Nat,j<k→s.deep.getD j 0=jR t (j+1) j
 deepB:∀j:Nat,k≤j→s.deep.getD j 0=0
 els:s.elements=eU t k
 dp:decide (60<s.deepest)=gF t k
 kinds:∀j:Nat,j<k→1≤(nd t (j:Int)).kind∧(nd t (j:Int)).kind≤6
 pars:∀j:Nat,j<k→0≤(nd t (j:Int)).parent→(nd t (nd t (j:Int)).parent).kind≠3
def OkK(t:List Nd)(root:Bool)(k:Nat):Prop:=(∀j:Nat,j<k→okR t root j=true)∧(root=true→∀j:Nat,0<j→j<k→0≤(nd t (j:Int)).parent)
theorem getD_rep(n j:Nat):(List.replicate n (0:Int)).getD j 0=0:=by
 rw[List.getD_eq_getElem?_getD,List.getElem?_replicate]
 split<;>rfl
theorem elems_snoc(t:List Nd)(i:Nat):eU t (i+1)=eU t i+if(nd t (i:Int)).parent=0∧(nd t (i:Int)).kind=2 then 1 else 0:=by
 unfold eU
 rw[qB]
 simp
theorem tops_snoc(t:List Nd)(i:Nat):lQ t (i+1)=lQ t i+if(nd t (i:Int)).parent<0 then 1 else 0:=by
 unfold lQ
 rw[qB]
 simp
theorem deep_snoc(t:List Nd)(i:Nat):gF t (i+1)=(gF t i||(decide ((nd t (i:Int)).kind=2)&&decide (60<jR t (i+1) i))):=by
 unfold gF
 rw[List.range_succ,List.any_append]
 simp
theorem rFits_kind{t:List Nd}{i:Nat}(h:jK t i=true)(h1:¬(nd t (i:Int)).kind=1):(2≤(nd t (i:Int)).kind∧(nd t (i:Int)).kind≤6)∧(mF t i=0∨mF t i=1∨mF t i=2):=by
 unfold jK at h
 rw[Bool.and_eq_true,Bool.and_eq_true]at h
 have h2:=h.2.2
 unfold kW iI mG at h2
 rw[if_neg h1]at h2
 split at h2
 ·rename_i g
  rw[Bool.and_eq_true,decide_eq_true_eq]at h2
  exact⟨by omega,by omega⟩
 ·split at h2
  ·rename_i g
   rw[Bool.and_eq_true,decide_eq_true_eq]at h2
   exact⟨by omega,by omega⟩
  ·split at h2
   ·rename_i g
    rw[Bool.and_eq_true,decide_eq_true_eq]at h2
    exact⟨by omega,by omega⟩
   ·split at h2
    ·rename_i g
     rw[Bool.and_eq_true,decide_eq_true_eq]at h2
     exact⟨by omega,by omega⟩
    ·split at h2
     ·rename_i g
      rw[Bool.and_eq_true,decide_eq_true_eq]at h2
      exact⟨by omega,by omega⟩
     ·cases h2
theorem okR_root{t:List Nd}:okR t true 0=true↔(nd t ((0:Nat):Int)).kind=1∧(nd t ((0:Nat):Int)).name=aP∧(nd t ((0:Nat):Int)).value=aP:=by
 unfold okR jK kW
 simp only[Bool.and_eq_true,decide_true,Bool.and_true,beq_iff_eq,decide_eq_true_eq]
 constructor
 ·rintro⟨⟨h1,h2,h3⟩,h4⟩
  rw[if_pos h4]at h3
  simp only[Bool.true_and,Bool.and_eq_true,decide_eq_true_eq]at h3
  exact⟨h4,h3⟩
 ·rintro⟨h1,h2,h3⟩
  rw[if_pos h1,h2,h3]
  exact⟨⟨texts_zname,by decide,by simp⟩,h1⟩
theorem okR_other{t:List Nd}{root:Bool}{i:Nat}(h:¬(root=true∧i=0)):okR t root i=(jK t i&&!decide ((nd t (i:Int)).kind=1)):=by
 unfold okR
 have:(root&&decide (i=0))=false:=by
  cases root with
  | false=>rfl
  | true=>
    rw[Bool.true_and]
    exact decide_eq_false (fun e=>h ⟨rfl,e⟩)
 rw[this]
 cases jK t i<;>cases decide ((nd t (i:Int)).kind=1)<;>rfl
theorem run_ok{t:List Nd}{root:Bool}(h:(List.range t.length).all (fB t)=true):∀k,k≤t.length→(OkK t root k↔∃s,gW t root k=some s)∧∀s,gW t root k=some s→RI t root k s
 | 0,_=>by
   refine⟨⟨fun _=>⟨_,rfl⟩,fun _=>⟨fun j hj=>by omega,fun _ j _ hj=>by omega⟩⟩,fun s hs=>?_⟩
   simp only[gW,Option.some.injEq]at hs
   subst hs
   exact⟨by simp[lX],by simp[lX],fun p hp=>by omega,fun _=>rfl,fun j hj=>by omega,fun j _=>getD_rep _ _,rfl,rfl,fun j hj=>by omega,fun j hj=>by omega⟩
 | k+1,hk=>by
   have hkl:k<t.length:=by omega
   obtain⟨hiff,hri⟩:=run_ok h k (by omega)
   have hu:=lK t.length h
   have hlow:∀j:Nat,j<t.length→(nd t (j:Int)).parent<j:=fun j hj=>(hu j hj).2
   have hpk:=hu k hkl
   have hopen:fB t k=true:=List.all_eq_true.1 h _ (List.mem_range.2 hkl)
   have down:OkK t root (k+1)→OkK t root k:=fun g=>⟨fun j hj=>g.1 j (by omega),fun r j h1 h2=>g.2 r j h1 (by omega)⟩
   cases hr:gW t root k with
   | none=>
     have hn:gW t root (k+1)=none:=by simp only[gW,hr,Option.bind_none]
     refine⟨⟨fun g=>?_,fun⟨s,hs⟩=>by rw[hn]at hs;cases hs⟩,fun s hs=>by rw[hn]at hs;cases hs⟩
     obtain⟨s,hs⟩:=hiff.1 (down g)
     rw[hr]at hs
     cases hs
   | some s=>
     have hst:gW t root (k+1)=iC t root s k:=by simp only[gW,hr,Option.bind_some]
     have I:=hri s hr
     have hOk:OkK t root k:=hiff.2 ⟨s,hr⟩
     have up:okR t root k=true→(root=true→0<k→0≤(nd t (k:Int)).parent)→OkK t root (k+1):=fun g1 g2=>by
      refine⟨fun j hj=>?_,fun r j h1 h2=>?_⟩
      ·by_cases e:j=k
       ·subst e;exact g1
       ·exact hOk.1 j (by omega)
      ·by_cases e:j=k
       ·subst e;exact g2 r h1
       ·exact hOk.2 r j h1 (by omega)
     rw[hst]
     have hLk:∀p:Nat,p<k→(s.last.set k (-1)).getD p 0=lcF t p k:=fun p hp=>by rw[getD_set_ne (by omega)];exact I.last p hp
     have hLkk:(s.last.set k (-1)).getD k 0=-1:=dV (by rw[I.lenL];exact hkl)
     have lck:lcF t (k:Int) (k+1)=-1:=by
      simp only[lcF]
      rw[if_neg (by omega)]
      exact lc_low hlow k (by omega) (by omega)
     unfold iC
     simp only
     rw[if_neg (by rw[hopen];simp)]
     by_cases g:root=true∧k=0
     ·rw[if_pos g]
      obtain⟨rfl,rfl⟩:=g
      have hp0:(nd t ((0:Nat):Int)).parent=-1:=by omega
      by_cases e:(nd t ((0:Nat):Int)).kind=1∧(nd t ((0:Nat):Int)).name=aP∧(nd t ((0:Nat):Int)).value=aP
      ·rw[if_pos e]
       refine⟨⟨fun _=>⟨_,rfl⟩,fun _=>up (okR_root.2 e) (fun _ h0=>by omega)⟩,fun s' hs'=>?_⟩
       cases hs'
       refine⟨by simp only[List.length_set];exact I.lenL,I.lenD,fun p hp=>?_,fun r=>(by cases r),fun j hj=>?_,fun j hj=>I.deepB j (by omega),?_,?_,fun j hj=>?_,fun j hj hj0=>?_⟩
       ·have:p=0:=by omega
        subst this
        rw[lck]
        exact hLkk
       ·have:j=0:=by omega
        subst this
        rw[show s.deep.getD 0 0=0 from I.deepB 0 (Nat.le_refl _)]
        unfold jR
        rw[if_pos (by omega),if_neg (by rw[e.1];decide)]
        rfl
       ·rw[elems_snoc,if_neg (by omega)]
        exact I.els
       ·rw[deep_snoc,decide_eq_false (show ¬(nd t ((0:Nat):Int)).kind=2 by rw[e.1];decide),Bool.false_and,Bool.or_false]
        exact I.dp
       ·have:j=0:=by omega
        subst this
        rw[e.1];decide
       ·have:j=0:=by omega
        subst this
        omega
      ·rw[if_neg e]
       refine⟨⟨fun gg=>absurd (okR_root.1 (gg.1 0 (by omega))) e,fun⟨s',hs'⟩=>by cases hs'⟩,fun s' hs'=>by cases hs'⟩
     ·rw[if_neg g]
      by_cases gp:root=true∧(nd t (k:Int)).parent<0
      ·rw[if_pos gp]
       have hk0:0<k:=by
        rcases Nat.eq_zero_or_pos k with e|e
        ·exact absurd ⟨gp.1,e⟩ g
        ·exact e
       refine⟨⟨fun gg=>?_,fun⟨s',hs'⟩=>by cases hs'⟩,fun s' hs'=>by cases hs'⟩
       have:=gg.2 gp.1 k hk0 (by omega)
       omega
      ·rw[if_neg gp]
       have hbefore:lT (nd t (k:Int)) (s.last.set k (-1)) s.top=kU t k k:=by
        rw[sib_lc hlow k (by omega)]
        unfold lT
        by_cases hp:0≤(nd t (k:Int)).parent
        ·rw[if_pos hp,hLk _ (by omega)]
         congr 1
         omega
        ·rw[if_neg hp]
         have hr0:root=false:=by
          cases root with
          | false=>rfl
          | true=>exact absurd ⟨rfl,by omega⟩ gp
         rw[I.top hr0]
         congr 1
         omega
       have hkp:0≤(nd t (k:Int)).parent→(nd t (nd t (k:Int)).parent).kind≠0:=fun hp=>by
        have:=I.kinds (nd t (k:Int)).parent.toNat (by omega)
        rw[show(((nd t (k:Int)).parent.toNat:Nat):Int)=(nd t (k:Int)).parent by omega]at this
        omega
       have hf:=fits_eq (t:=t) (i:=k) (last:=s.last.set k (-1)) (top:=s.top) hkp hbefore (fun h1 h2 h3=>attr_eq h hkl I.pars h1 h2 h3)
       rw[hf,←okR_other g]
       cases ho:okR t root k with
       | false=>
         rw[if_pos rfl]
         refine⟨⟨fun gg=>?_,fun⟨s',hs'⟩=>by cases hs'⟩,fun s' hs'=>by cases hs'⟩
         have:=gg.1 k (by omega)
         rw[ho]at this
         cases this
       | true=>
         rw[if_neg (by decide)]
         refine⟨⟨fun _=>⟨_,rfl⟩,fun _=>up ho (fun r h0=>Decidable.byContradiction fun hn=>gp ⟨r,by omega⟩)⟩,fun s' hs'=>?_⟩
         cases hs'
         rw[okR_other g,Bool.and_eq_true,Bool.not_eq_true',decide_eq_false_iff_not]at ho
         obtain⟨hkd,hpk2⟩:=rFits_kind ho.1 ho.2
         have hd1:(aD s (s.last.set k (-1)) (nd t (k:Int)) k).deep.getD k 0=jR t (k+1) k:=by
          have e1:jR t (k+1) k=(if(nd t (k:Int)).kind=2 then 1 else 0)+jR t k (nd t (k:Int)).parent:=by
           show(if 0≤(k:Int)then _ else _)=_
           rw[if_pos (by omega)]
          have e2:(if 0≤(nd t (k:Int)).parent then s.deep.set k (s.deep.getD (nd t (k:Int)).parent.toNat 0)else s.deep).getD k 0=jR t k (nd t (k:Int)).parent:=by
           by_cases hp:0≤(nd t (k:Int)).parent
           ·rw[if_pos hp,dV (by rw[I.lenD];exact hkl),I.deepA _ (by omega)]
            rw[show(((nd t (k:Int)).parent.toNat:Nat):Int)=(nd t (k:Int)).parent by omega]
            exact deepF_fuel (N:=t.length) hlow _ _ _ (by omega) (by omega) (by omega)
           ·rw[if_neg hp,I.deepB k (Nat.le_refl _)]
            cases k with
            | zero=>rfl
            | succ m=>unfold jR;rw[if_neg hp]
          have e3:(if 0≤(nd t (k:Int)).parent then s.deep.set k (s.deep.getD (nd t (k:Int)).parent.toNat 0)else s.deep).length=t.length:=by
           split
           ·rw[List.length_set];exact I.lenD
           ·exact I.lenD
          unfold aD
          simp only
          by_cases h2:(nd t (k:Int)).kind=2
          ·rw[if_pos h2,dV (by rw[e3];exact hkl),e2,e1,if_pos h2]
           omega
          ·rw[if_neg h2,e2,e1,if_neg h2]
           omega
         have hdo:∀j:Nat,j≠k→(aD s (s.last.set k (-1)) (nd t (k:Int)) k).deep.getD j 0=s.deep.getD j 0:=fun j hj=>by
          unfold aD
          simp only
          have e2:(if 0≤(nd t (k:Int)).parent then s.deep.set k (s.deep.getD (nd t (k:Int)).parent.toNat 0)else s.deep).getD j 0=s.deep.getD j 0:=by
           split
           ·rw[getD_set_ne (by omega)]
           ·rfl
          split
          ·rw[getD_set_ne (by omega),e2]
          ·exact e2
         refine⟨?_,?_,fun p hp=>?_,fun r=>?_,fun j hj=>?_,fun j hj=>?_,?_,?_,fun j hj=>?_,fun j hj hj0=>?_⟩
         ·unfold aD
          simp only
          split
          ·rw[List.length_set];exact I.lenL
          ·split
           ·rw[List.length_set];exact I.lenL
           ·rw[List.length_set,List.length_set];exact I.lenL
         ·unfold aD
          simp only
          split
          ·rw[List.length_set]
           split
           ·rw[List.length_set];exact I.lenD
           ·exact I.lenD
          ·split
           ·rw[List.length_set];exact I.lenD
           ·exact I.lenD
         ·have base:(s.last.set k (-1)).getD p 0=if p=k then -1 else lcF t p k:=by
           by_cases e:p=k
           ·rw[if_pos e,e];exact hLkk
           ·rw[if_neg e];exact hLk p (by omega)
          have lcs:lcF t p (k+1)=if(nd t (k:Int)).parent=p∧(nd t (k:Int)).kind≠3 then(k:Int)else if p=k then -1 else lcF t p k:=by
           simp only[lcF]
           split
           ·rfl
           ·by_cases e:p=k
            ·rw[if_pos e,e]
             exact lc_low hlow k (by omega) (by omega)
            ·rw[if_neg e]
          rw[lcs]
          unfold aD
          simp only
          by_cases h3:(nd t (k:Int)).kind=3
          ·rw[if_pos h3,if_neg (fun gg=>gg.2 h3)]
           exact base
          ·rw[if_neg h3]
           by_cases hp0:(nd t (k:Int)).parent<0
           ·rw[if_pos hp0,if_neg (by omega)]
            exact base
           ·rw[if_neg hp0]
            by_cases e:(nd t (k:Int)).parent.toNat=p
            ·rw[e,dV (by rw[List.length_set,I.lenL];omega),if_pos ⟨by omega,h3⟩]
            ·rw[getD_set_ne e,if_neg (by omega)]
             exact base
         ·unfold aD
          simp only[lcF]
          by_cases h3:(nd t (k:Int)).kind=3
          ·rw[if_pos h3,if_neg (fun gg=>gg.2 h3)]
           exact I.top r
          ·rw[if_neg h3]
           by_cases hp0:(nd t (k:Int)).parent<0
           ·rw[if_pos hp0,if_pos ⟨by omega,h3⟩]
           ·rw[if_neg hp0,if_neg (by omega)]
            exact I.top r
         ·by_cases e:j=k
          ·subst e;exact hd1
          ·rw[hdo j e];exact I.deepA j (by omega)
         ·rw[hdo j (by omega)];exact I.deepB j (by omega)
         ·rw[elems_snoc]
          unfold aD
          simp only
          by_cases e:(nd t (k:Int)).kind=2∧(nd t (k:Int)).parent=0
          ·rw[if_pos e,if_pos ⟨e.2,e.1⟩,I.els];rfl
          ·rw[if_neg e,if_neg (fun gg=>e ⟨gg.2,gg.1⟩),I.els];rfl
         ·rw[deep_snoc,←I.dp,←hd1]
          have e0:(aD s (s.last.set k (-1)) (nd t (k:Int)) k).deepest=if(nd t (k:Int)).kind=2 then max s.deepest ((aD s (s.last.set k (-1)) (nd t (k:Int)) k).deep.getD k 0)else s.deepest:=rfl
          rw[e0]
          generalize (aD s (s.last.set k (-1)) (nd t (k:Int)) k).deep.getD k 0=x
          by_cases e:(nd t (k:Int)).kind=2
          ·rw[if_pos e,decide_eq_true e,Bool.true_and,Bool.eq_iff_iff,Bool.or_eq_true,decide_eq_true_eq,decide_eq_true_eq,decide_eq_true_eq]
           omega
          ·rw[if_neg e,decide_eq_false e,Bool.false_and,Bool.or_false]
         ·by_cases e:j=k
          ·subst e;omega
          ·exact I.kinds j (by omega)
         ·by_cases e:j=k
          ·subst e
           intro h3
           rw[parK_of,if_neg (by omega)]at hpk2
           omega
          ·exact I.pars j (by omega) hj0
theorem tops_one{t:List Nd}(h0:(nd t ((0:Nat):Int)).parent<0):∀k,1≤lQ t (k+1)∧(lQ t (k+1)=1↔∀j:Nat,0<j→j<k+1→0≤(nd t (j:Int)).parent)
 | 0=>by
   rw[tops_snoc,if_pos h0]
   exact⟨by omega,fun _ j h1 h2=>by omega,fun _=>rfl⟩
 | k+1=>by
   obtain⟨h1,h2⟩:=tops_one h0 k
   rw[tops_snoc t (k+1)]
   by_cases g:(nd t ((k+1:Nat):Int)).parent<0
   ·rw[if_pos g]
    refine⟨by omega,fun e=>by omega,fun e=>?_⟩
    have:=e (k+1) (by omega) (by omega)
    omega
   ·rw[if_neg g]
    refine⟨by omega,fun e j j1 j2=>?_,fun e=>?_⟩
    ·by_cases ej:j=k+1
     ·subst ej;omega
     ·exact h2.1 (by omega) j j1 (by omega)
    ·rw[h2.2 (fun j j1 j2=>e j j1 (by omega))]
theorem run_open{t:List Nd}{root:Bool}{s:wP}(h:gW t root t.length=some s):(List.range t.length).all (fB t)=true:=by
 rw[List.all_eq_true]
 intro i hi
 rw[List.mem_range]at hi
 obtain⟨s',h1,s'',h2⟩:=rV h i hi
 unfold iC at h2
 simp only at h2
 split at h2
 ·cases h2
 ·rename_i g
  simpa using g
theorem rG(t:List Nd)(root:Bool):jF t root=eG t root:=by
 unfold jF eG
 by_cases g1:16384<t.length
 ·rw[if_pos g1,if_pos g1]
 rw[if_neg g1,if_neg g1]
 by_cases g2:(List.range t.length).all (fB t)=false
 ·rw[if_pos g2]
  cases hr:gW t root t.length with
  | none=>rfl
  | some s=>
    rw[run_open hr]at g2
    cases g2
 rw[if_neg g2]
 have hop:(List.range t.length).all (fB t)=true:=by simpa using g2
 obtain⟨hiff,hri⟩:=run_ok (root:=root) hop t.length (Nat.le_refl _)
 by_cases g3:(List.range t.length).all (okR t root)=false
 ·rw[if_pos g3]
  cases hr:gW t root t.length with
  | none=>rfl
  | some s=>
    have hO:=hiff.2 ⟨s,hr⟩
    have:(List.range t.length).all (okR t root)=true:=List.all_eq_true.2 fun j hj=>hO.1 j (List.mem_range.1 hj)
    rw[this]at g3
    cases g3
 rw[if_neg g3]
 have hok:∀j:Nat,j<t.length→okR t root j=true:=fun j hj=>List.all_eq_true.1 (show(List.range t.length).all (okR t root)=true by simpa using g3) j (List.mem_range.2 hj)
 have hu:=lK t.length hop
 have fin:∀s,gW t root t.length=some s→(root=true→lQ t t.length=1∨eU t t.length≠1)→(if root=true∧(lQ t t.length≠1∨eU t t.length≠1)then(4:Int)else if gF t t.length=true then 131 else 0)=if root=true∧s.elements≠1 then 4 else if 60<s.deepest then 131 else 0:=fun s hr hT=>by
  have I:=hri s hr
  have e1:(root=true∧(lQ t t.length≠1∨eU t t.length≠1))↔(root=true∧s.elements≠1):=by
   rw[I.els]
   constructor
   ·rintro⟨r,h⟩
    have:=hT r
    exact⟨r,by omega⟩
   ·rintro⟨r,h⟩
    exact⟨r,.inr (by omega)⟩
  have e2:(gF t t.length=true)↔60<s.deepest:=by rw[←I.dp,decide_eq_true_eq]
  by_cases c1:root=true∧s.elements≠1
  ·rw[if_pos c1,if_pos (e1.2 c1)]
  ·rw[if_neg c1,if_neg (fun h=>c1 (e1.1 h))]
   by_cases c2:60<s.deepest
   ·rw[if_pos c2,if_pos (e2.2 c2)]
   ·rw[if_neg c2,if_neg (fun h=>c2 (e2.1 h))]
 by_cases hz:t.length=0
 ·obtain⟨s,hr⟩:=hiff.1 ⟨hok,fun _ j _ h2=>by omega⟩
  rw[hr]
  refine fin s hr (fun _=>.inr ?_)
  rw[hz]
  have:eU t 0=0:=rfl
  omega
 have h0:(nd t ((0:Nat):Int)).parent<0:=(hu 0 (by omega)).2
 obtain⟨m,hm⟩:∃m,t.length=m+1:=⟨t.length-1,by omega⟩
 have hT:=tops_one h0 m
 rw[←hm]at hT
 by_cases hO:root=true→∀j:Nat,0<j→j<t.length→0≤(nd t (j:Int)).parent
 ·obtain⟨s,hr⟩:=hiff.1 ⟨hok,hO⟩
  rw[hr]
  exact fin s hr (fun r=>.inl (hT.2.2 (hO r)))
 ·have hr0:root=true:=Decidable.byContradiction fun hn=>hO (fun h=>absurd h hn)
  have:lQ t t.length≠1:=fun e=>hO (fun _=>hT.2.1 e)
  rw[if_pos ⟨hr0,.inl this⟩]
  cases hr:gW t root t.length with
  | none=>rfl
  | some s=>exact absurd (hiff.2 ⟨s,hr⟩).2 hO
end Go.Proofs.YtelffdgcikceaaaGreatDoor
end
section
namespace Go.Proofs.YtelffdgcikceaaaGreatDoor
open Go.V
open Go.RowKit (Below)
theorem sS(s:ByteArray)(w:World)(hs:s.size≤140737488355328):bV Tryz.prog 87 #[.string s] w (fun v w'=>v=.bool (gX s)∧w'=w):=by
 refine enter aB Tryz.func87 (aV rfl) rfl rfl rfl ?_
 refine aA.mk _ (rTexts_con s w hs) ?_
 rintro v w1 ⟨hv,hw⟩
 have hw':=hw.symm
 subst hv hw'
 refine aK.mk (fun g1=>?_) (fun g1=>?_)
 ·rw[g1]
  repeat (first|refine gA ?_|refine gB ?_|refine gC ?_)
  refine And.intro ?_ rfl
  unfold gX
  rw[g1]
  exact congrArg Value.bool (by rw[Bool.true_and];exact decide_eq_decide.2 (by omega))
 ·rw[g1]
  repeat (first|refine gA ?_|refine gB ?_|refine gC ?_)
  refine And.intro ?_ rfl
  unfold gX
  rw[g1]
  rfl
theorem yO(v:Value)(l:List Nd)(by_:Int)(w:World)(hl:aJ w v l)(hln:l.length≤1000000000)(hb:0≤by_∧by_≤4611686018427387904)(hp:∀x∈l,x.parent≤4611686018427387903) :
  bV Tryz.prog 89 #[v,.int .i64 by_] w (fun v' w'=>Vec w' w.heap.size 50 4 v' ((l.map (aS by_)).map Nd.cells)∧Ext w w'):=by
 obtain⟨o,c,rfl,h1,h2,h3,h4⟩:=hl.open_
 have hml:maxLen=9223372036854775807:=rfl
 refine enter aB Tryz.func89 (aV rfl) rfl rfl rfl ?_
 refine aH.mk (X:=Nat × Value) (fun x=>[(0,.slice o l.length c),(1,.int .i64 by_),(5,x.2),(6,.int .i64 x.1)]) (fun x w'=>Ext w w'∧x.1≤l.length∧Vec w' w.heap.size 50 4 x.2 (((l.take x.1).map (aS by_)).map Nd.cells)) (fun x=>l.length-x.1) (0,.slice none 0 0)
  ⟨Ext.refl _,Nat.zero_le _,Vec.nil _ _ _ _⟩ ⟨rfl,rfl,rfl,rfl,trivial⟩ ?_
 rintro⟨i,vo⟩ w1 ⟨hE,hi,hv⟩
 simp only at hi hv ⊢
 refine Cond.dec (fun g1=>?_) (fun g1=>?_)
 ·have hil:i<l.length:=by omega
  obtain⟨a,ha,hc⟩:=h4 w1 hE i hil
  subst ha
  have hwf:=hl.wf _ (List.getElem_mem hil)
  have hpx:=hp _ (List.getElem_mem hil)
  have hst:(((l.take (i+1)).map (aS by_)).map Nd.cells)=(((l.take i).map (aS by_)).map Nd.cells)++[Nd.cells (aS by_ l[i])]:=by
   rw[List.take_succ_eq_append_getElem hil,List.map_append,List.map_append]
   rfl
  generalize l[i]=n at *
  obtain⟨kind,name,value,parent⟩:=n
  have hwp:=hwf.parent
  simp only at hwp hpx
  refine Idx.mk a rfl (by omega) (by omega) ?_
  refine Load.here (hc.all' rfl) ?_
  refine aG.alloc _ [.int .u8 0,.string ⟨#[]⟩,.string ⟨#[]⟩,.int .i64 0] mU rfl fun bn w2 hn1=>?_
  refine bA.store bn 0 _ [.int .u8 kind,.string name,.string value,.int .i64 parent] 50 rfl rfl (by kernel_rfl) hn1.blk (by simp) (by simp[Value.oneCell']) fun w3 hn2=>?_
  have hN:=hn1.upd hn2
  have hbn:w1.heap.size≤bn:=by rw[hn1.b_eq];exact Nat.le_refl _
  have hE3:=hN.ext
  refine Load.here (hN.blk.cells.one (k:=3) rfl) ?_
  refine Cond.join (X:=Unit) (fun _=>[(0,.slice (some a) l.length c),(1,.int .i64 by_),(5,vo),(6,.int .i64 i),(7,.pointer (some ⟨bn,0,none⟩))]) (fun _ w'=>Ext w1 w'∧bQ w' bn (Nd.cells (aS by_ ⟨kind,name,value,parent⟩)) 50) (fun g2=>?_) (fun g2=>?_) ?_
  ·have g2':=of_decide_eq_true g2
   refine Load.here (hN.blk.cells.one (k:=3) rfl) ?_
   refine Ar.i64 (by omega) ?_
   refine bA.store bn 3 _ [.int .i64 (parent+by_)] 50 rfl rfl (by kernel_rfl) hN.blk (by simp[splice]) (by simp[Value.oneCell']) fun w4 hU=>?_
   refine⟨(),⟨hE3.upd hU hbn,?_⟩,rfl,rfl,rfl,rfl,rfl,trivial⟩
   have:=hU.blk
   have e:aS by_ ⟨kind,name,value,parent⟩=⟨kind,name,value,parent+by_⟩:=by
    unfold aS withParent
    rw[if_pos g2']
   rw[e]
   exact this
  ·have g2':=of_decide_eq_false g2
   refine⟨(),⟨hE3,?_⟩,rfl,rfl,rfl,rfl,rfl,trivial⟩
   have e:aS by_ ⟨kind,name,value,parent⟩=⟨kind,name,value,parent⟩:=by
    unfold aS
    rw[if_neg g2']
   rw[e]
   exact hN.blk
  rintro _ w4 ⟨hE4,hB4⟩
  generalize aS by_ ⟨kind,name,value,parent⟩=m at *
  obtain⟨k2,n2,v2,p2⟩:=m
  refine Load.here (hB4.cells.all' rfl) ?_
  refine aG.mk _ _ (aY _ _ _ _ _) ?_
  have hnw:bO w4 w4.heap.size [.int .u8 k2,.string n2,.string v2,.int .i64 p2] 50 (w4.alloc (.cells #[.int .u8 k2,.string n2,.string v2,.int .i64 p2] 50)):=⟨rfl,rfl⟩
  have hE04:=hE.trans hE4
  refine bD.append bI w.heap.size _ [Nd.cells ⟨k2,n2,v2,p2⟩] (hv.ext (hE4.trans hnw.ext)) (aT hnw) (by intro y hy;rw[List.mem_singleton.1 hy];exact⟨rfl,Nd.cells_one _⟩)
   (by simp;omega) (by simp;omega) (Nat.le_trans hE04.sz hnw.ext.sz) fun v' wz hva har=>?_
  have hEz:Ext w wz:=Below.trans (hE04.trans hnw.ext) (har.below (Nat.le_trans hE04.sz hnw.ext.sz) fun b hb=>(hv.ge hb).1)
  refine Ar.i64 (by omega) ?_
  exact⟨(i+1,v'),⟨hEz,by simp only;omega,by simp only;rw[hst];exact hva⟩,by simp only;omega,rfl,rfl,rfl,rfl,trivial⟩
 ·have:i=l.length:=by omega
  rw[this,List.take_length]at hv
  exact And.intro hv hE
theorem headLen_lt{l:List Nd}{k:Nat}(hk:k<l.length)(ha:(l.take k).all dZ=true)(hx:dZ l[k]=true):k<bR l:=by
 unfold bR
 have e:l=l.take k++(l[k]::l.drop (k+1)):=by
  conv=>lhs;rw[←List.take_append_drop k l,List.drop_eq_getElem_cons hk]
 rw[e,List.takeWhile_append_of_pos (fun x hx'=>List.all_eq_true.1 ha x hx'),List.takeWhile_cons,if_pos hx,List.length_append,List.length_take,List.length_cons]
 omega
theorem attrs_bad{l:List Nd}{k:Nat}(hk:k<bR l)(h:(dW (l[k]'(Nat.lt_of_lt_of_le hk (jC l))).name&&gX (l[k]'(Nat.lt_of_lt_of_le hk (jC l))).value)=false):iD l=false:=by
 unfold iD
 rw[List.all_eq_false]
 refine⟨l[k]'(Nat.lt_of_lt_of_le hk (jC l)),?_,by rw[h];simp⟩
 rw[List.mem_take_iff_getElem]
 exact⟨k,by have:=jC l;omega,rfl⟩
theorem split_bad{l:List Nd}(h:(iD l&&gI l)=false):aU l=false∧bL l=[]∧bC l=[]:=by
 unfold aU bL bC
 rw[h]
 exact⟨rfl,rfl,rfl⟩
theorem pO(v:Value)(l:List Nd)(w:World)(hl:aJ w v l)(hln:l.length≤1000000000) :
  bV Tryz.prog 48 #[v] w (fun v' w'=>∃va vr,v'=.tuple #[va,vr,.bool (aU l)]∧Vec w' w.heap.size 50 4 va ((bL l).map Nd.cells)∧Vec w' w.heap.size 50 4 vr ((bC l).map Nd.cells)∧(vr.ownBlock=none∨vr.ownBlock≠va.ownBlock)∧Ext w w'):=by
 have hl0:=hl
 obtain⟨o,c,rfl,h1,h2,h3,h4⟩:=hl.open_
 have hml:maxLen=9223372036854775807:=rfl
 have hoc:o=none→c=0:=h3
 have bad:∀w',(iD l&&gI l)=false→Ext w w'→∃va vr,aC [Value.slice none 0 0,Value.slice none 0 0,Value.bool false]=.tuple #[va,vr,.bool (aU l)]∧Vec w' w.heap.size 50 4 va ((bL l).map Nd.cells)∧Vec w' w.heap.size 50 4 vr ((bC l).map Nd.cells)∧(vr.ownBlock=none∨vr.ownBlock≠va.ownBlock)∧Ext w w':=fun w' h hE=>by
  obtain⟨e1,e2,e3⟩:=split_bad h
  rw[e1,e2,e3]
  exact⟨_,_,rfl,Vec.nil _ _ _ _,Vec.nil _ _ _ _,.inl rfl,hE⟩
 refine enter aB Tryz.func48 (aV rfl) rfl rfl rfl ?_
 refine aH.joinAt 0 (X:=Nat) (fun k=>[(0,.slice o l.length c),(5,.int .i64 k)]) (fun k w'=>Ext w w'∧k≤l.length∧(l.take k).all dZ=true∧(l.take k).all (fun n=>dW n.name&&gX n.value)=true) (fun k=>l.length-k) 0
  (Y:=Nat) (fun k=>[(0,.slice o l.length c),(5,.int .i64 k)]) (fun k w'=>Ext w w'∧bR l=k∧iD l=true) ⟨Ext.refl _,Nat.zero_le _,rfl,rfl⟩ ⟨rfl,rfl,trivial⟩ ?_ ?_
 ·rintro k w1 ⟨hE,hk,hat,hok⟩
  have stop:(k=l.length∨∃h:k<l.length,dZ l[k]=false)→bR l=k∧iD l=true:=fun h=>by
   have e:bR l=k:=by
    rcases h with h|⟨h,h'⟩
    ·rw[h,List.take_length]at hat
     rw[headLen_all hat,h]
    ·exact yA h hat h'
   exact⟨e,by unfold iD;rw[e];exact hok⟩
  refine aK.bB (fun g1=>?_) (fun g1=>?_)
  rotate_left
  ·repeat (first|refine gA ?_|refine gB ?_|refine gC ?_)
   refine Cond.no ?_
   have:=stop (.inl (by omega))
   exact⟨k,⟨hE,this.1,this.2⟩,rfl,rfl,trivial⟩
  have hkl:k<l.length:=by omega
  obtain⟨a,ha,hc⟩:=h4 w1 hE k hkl
  subst ha
  have hwf:=hl.wf _ (List.getElem_mem hkl)
  repeat (first|refine gA ?_|refine gB ?_|refine gC ?_)
  refine Idx.mk a rfl (by omega) (by omega) ?_
  repeat (first|refine gA ?_|refine gB ?_|refine gC ?_)
  refine Load.here (hc.one (k:=0) rfl) ?_
  repeat (first|refine gA ?_|refine gB ?_|refine gC ?_)
  refine aK.bB (fun g2=>?_) (fun g2=>?_)
  rotate_left
  ·repeat (first|refine gA ?_|refine gB ?_|refine gC ?_)
   refine Cond.no ?_
   have:=stop (.inr ⟨hkl,by unfold dZ;rw[decide_eq_false g2];rfl⟩)
   exact⟨k,⟨hE,this.1,this.2⟩,rfl,rfl,trivial⟩
  repeat (first|refine gA ?_|refine gB ?_|refine gC ?_)
  refine Idx.mk a rfl (by omega) (by omega) ?_
  repeat (first|refine gA ?_|refine gB ?_|refine gC ?_)
  refine Load.here (hc.one (k:=3) rfl) ?_
  repeat (first|refine gA ?_|refine gB ?_|refine gC ?_)
  refine Cond.dec (fun g3=>?_) (fun g3=>?_)
  rotate_left
  ·have:=stop (.inr ⟨hkl,by unfold dZ;rw[decide_eq_false g3,Bool.and_false]⟩)
   exact⟨k,⟨hE,this.1,this.2⟩,rfl,rfl,trivial⟩
  have hisA:dZ l[k]=true:=by unfold dZ;rw[decide_eq_true g2,decide_eq_true g3];rfl
  have hlt:=headLen_lt hkl hat hisA
  refine Idx.mk a rfl (by omega) (by omega) ?_
  refine Load.here (hc.one (k:=1) rfl) ?_
  refine aA.mk _ (kH _ w1 hwf.name) ?_
  rintro v w2 ⟨hv,hw⟩
  have hw':=hw.symm
  subst hv hw'
  refine aK.negF (fun g4=>?_) (fun g4=>?_)
  rotate_left
  ·rw[g4]
   repeat (first|refine gA ?_|refine gB ?_|refine gC ?_)
   refine Cond.yes ?_
   exact bad w1 (by rw[attrs_bad hlt (by rw[g4];rfl)];rfl) hE
  rw[g4]
  repeat (first|refine gA ?_|refine gB ?_|refine gC ?_)
  refine Idx.mk a rfl (by omega) (by omega) ?_
  repeat (first|refine gA ?_|refine gB ?_|refine gC ?_)
  refine Load.here (hc.one (k:=2) rfl) ?_
  repeat (first|refine gA ?_|refine gB ?_|refine gC ?_)
  refine aA.mk _ (sS _ w1 hwf.value) ?_
  rintro v w2 ⟨hv,hw⟩
  have hw':=hw.symm
  subst hv hw'
  repeat (first|refine gA ?_|refine gB ?_|refine gC ?_)
  refine Cond.neg (fun g5=>?_) (fun g5=>?_)
  ·exact bad w1 (by rw[attrs_bad hlt (by rw[g5,Bool.and_false])];rfl) hE
  ·refine Ar.i64 (by omega) ?_
   refine⟨k+1,⟨hE,by omega,?_,?_⟩,by omega,rfl,rfl,trivial⟩
   ·rw[List.take_succ_eq_append_getElem hkl,List.all_append,hat,List.all_cons,List.all_nil,hisA]
    rfl
   ·rw[List.take_succ_eq_append_getElem hkl,List.all_append,hok,List.all_cons,List.all_nil,g4,g5]
    rfl
 rintro k w1 ⟨hE,hk,hatt⟩
 have hkl:=jC l
 rw[hk]at hkl
 refine aH.mk (X:=Nat × Value) (fun x=>[(0,.slice o l.length c),(5,.int .i64 k),(6,x.2),(7,.int .i64 x.1)]) (fun x w'=>Ext w w'∧k≤x.1∧x.1≤l.length∧Vec w' w.heap.size 50 4 x.2 ((((l.take x.1).drop k).map (aS (-(k:Int)))).map Nd.cells)∧((l.take x.1).drop k).all (fun n=>decide (n.parent<0)||decide ((k:Int)≤n.parent))=true) (fun x=>l.length-x.1) (k,.slice none 0 0)
  ⟨hE,Nat.le_refl _,hkl,by simpa using Vec.nil _ _ _ _,by simp⟩ ⟨rfl,rfl,rfl,rfl,trivial⟩ ?_
 rintro⟨i,vo⟩ w2 ⟨hE2,hki,hi,hv,hall⟩
 simp only at hki hi hv hall ⊢
 refine Cond.dec (fun g1=>?_) (fun g1=>?_)
 ·have hil:i<l.length:=by omega
  obtain⟨a,ha,hc⟩:=h4 w2 hE2 i hil
  subst ha
  have hwf:=hl.wf _ (List.getElem_mem hil)
  have hdt:(l.take (i+1)).drop k=(l.take i).drop k++[l[i]]:=by
   rw[List.take_succ_eq_append_getElem hil,List.drop_append_of_le_length (by rw[List.length_take];omega)]
  have hmem:l[i]∈l.drop k:=by
   rw[List.mem_drop_iff_getElem]
   exact⟨i-k,by omega,by congr 1;omega⟩
  have hst:((((l.take (i+1)).drop k).map (aS (-(k:Int)))).map Nd.cells)=((((l.take i).drop k).map (aS (-(k:Int)))).map Nd.cells)++[Nd.cells (aS (-(k:Int)) l[i])]:=by
   rw[hdt,List.map_append,List.map_append]
   rfl
  have hlen:((((l.take i).drop k).map (aS (-(k:Int)))).map Nd.cells).length≤1000000000:=by
   rw[List.length_map,List.length_map,List.length_drop,List.length_take];omega
  generalize hn:l[i]=n at *
  obtain⟨kind,name,value,parent⟩:=n
  have hwp:=hwf.parent
  simp only at hwp
  refine Idx.mk a rfl (by omega) (by omega) ?_
  refine Load.here (hc.all' rfl) ?_
  refine aG.alloc _ [.int .u8 0,.string ⟨#[]⟩,.string ⟨#[]⟩,.int .i64 0] mU rfl fun bn w3 hn1=>?_
  refine bA.store bn 0 _ [.int .u8 kind,.string name,.string value,.int .i64 parent] 50 rfl rfl (by kernel_rfl) hn1.blk (by simp) (by simp[Value.oneCell']) fun w4 hn2=>?_
  have hN:=hn1.upd hn2
  have hbn:w2.heap.size≤bn:=by rw[hn1.b_eq];exact Nat.le_refl _
  have hE4:=hN.ext
  refine Load.here (hN.blk.cells.one (k:=3) rfl) ?_
  refine Cond.join (X:=Unit) (fun _=>[(0,.slice (some a) l.length c),(5,.int .i64 k),(6,vo),(7,.int .i64 i),(8,.pointer (some ⟨bn,0,none⟩))]) (fun _ w'=>Ext w2 w'∧bQ w' bn (Nd.cells (aS (-(k:Int)) ⟨kind,name,value,parent⟩)) 50∧(parent<0∨(k:Int)≤parent)) (fun g2=>?_) (fun g2=>?_) ?_
  ·have g2':=of_decide_eq_true g2
   refine Load.here (hN.blk.cells.one (k:=3) rfl) ?_
   refine Ar.i64 (by omega) ?_
   refine bA.store bn 3 _ [.int .i64 (parent-k)] 50 rfl rfl (by kernel_rfl) hN.blk (by simp[splice]) (by simp[Value.oneCell']) fun w5 hU=>?_
   have hE5:=hE4.upd hU hbn
   refine Load.here (hU.blk.cells.one (k:=3) rfl) ?_
   refine Cond.dec (fun g3=>?_) (fun g3=>?_)
   ·refine bad w5 ?_ (hE2.trans hE5)
    have:gI l=false:=by
     unfold gI
     rw[hk,List.all_eq_false]
     refine⟨_,hmem,?_⟩
     simp only[Bool.or_eq_true,decide_eq_true_eq]
     omega
    rw[this,Bool.and_false]
   ·refine⟨(),⟨hE5,?_,.inr (by omega)⟩,rfl,rfl,rfl,rfl,rfl,trivial⟩
    have e:aS (-(k:Int)) ⟨kind,name,value,parent⟩=⟨kind,name,value,parent-k⟩:=by
     unfold aS withParent
     rw[if_pos g2']
     rfl
    rw[e]
    exact hU.blk
  ·have g2':=of_decide_eq_false g2
   refine⟨(),⟨hE4,?_,.inl (by omega)⟩,rfl,rfl,rfl,rfl,rfl,trivial⟩
   have e:aS (-(k:Int)) ⟨kind,name,value,parent⟩=⟨kind,name,value,parent⟩:=by
    unfold aS
    rw[if_neg g2']
   rw[e]
   exact hN.blk
  rintro _ w5 ⟨hE5,hB5,hpar⟩
  generalize aS (-(k:Int)) ⟨kind,name,value,parent⟩=m at *
  obtain⟨k2,n2,v2,p2⟩:=m
  refine Load.here (hB5.cells.all' rfl) ?_
  refine aG.mk _ _ (aY _ _ _ _ _) ?_
  have hnw:bO w5 w5.heap.size [.int .u8 k2,.string n2,.string v2,.int .i64 p2] 50 (w5.alloc (.cells #[.int .u8 k2,.string n2,.string v2,.int .i64 p2] 50)):=⟨rfl,rfl⟩
  have hE05:=hE2.trans hE5
  refine bD.append bI w.heap.size _ [Nd.cells ⟨k2,n2,v2,p2⟩] (hv.ext (hE5.trans hnw.ext)) (aT hnw) (by intro y hy;rw[List.mem_singleton.1 hy];exact⟨rfl,Nd.cells_one _⟩)
   (by simp only[List.length_singleton];omega) (by simp only[List.length_singleton];omega) (Nat.le_trans hE05.sz hnw.ext.sz) fun v' wz hva har=>?_
  have hEz:Ext w wz:=Below.trans (hE05.trans hnw.ext) (har.below (Nat.le_trans hE05.sz hnw.ext.sz) fun b hb=>(hv.ge hb).1)
  refine Ar.i64 (by omega) ?_
  refine⟨(i+1,v'),⟨hEz,by simp only;omega,by simp only;omega,by simp only;rw[hst];exact hva,?_⟩,by simp only;omega,rfl,rfl,rfl,rfl,trivial⟩
  simp only
  rw[hdt,List.all_append,hall,List.all_cons,List.all_nil,Bool.true_and,Bool.and_true]
  simp only[Bool.or_eq_true,decide_eq_true_eq]
  exact hpar
 ·have hil:i=l.length:=by omega
  rw[hil,List.take_length]at hv hall
  have hrest:gI l=true:=by unfold gI;rw[hk];exact hall
  have hA:bL l=l.take k:=by unfold bL;rw[hatt,hrest,hk];rfl
  have hR:bC l=(l.drop k).map (aS (-(k:Int))):=by unfold bC iE;rw[hatt,hrest,hk];rfl
  have hO:aU l=decide (eG (bC l) false=0):=by unfold aU;rw[hatt,hrest,hR];unfold iE;rw[hk];rfl
  refine aG.mk _ _ (qH w2) ?_
  have hn:bO w2 w2.heap.size [] 50 (w2.alloc (.cells #[] 50)):=⟨rfl,rfl⟩
  have hv0:=Vec.wM (B:=w.heap.size) (xs:=[]) (sz:=4) hn rfl (by simp) (by decide) hE2.sz
  refine Need.mk ⟨by omega,by omega,by omega,by omega,by simp⟩ ?_
  rw[mQ o l.length c k]
  have hsl:eO w (.slice o k c) 4 ((l.take k).map Nd.cells):=(hl0.front hkl (by omega) (Nat.le_refl _) (.inr (.inr rfl))).sl
  refine bD.append bI w.heap.size [] ((l.take k).map Nd.cells) hv0 (hsl.ext (hE2.trans hn.ext)) (by
   intro y hy
   obtain⟨x,_,rfl⟩:=List.mem_map.1 hy
   exact⟨rfl,Nd.cells_one _⟩) (by rw[List.length_map,List.length_take];simp only[List.length_nil];omega) (by rw[List.length_map,List.length_take];simp only[List.length_nil];omega) (Nat.le_trans hE2.sz hn.ext.sz) fun va w3 hva har=>?_
  have hE3:Ext w w3:=Below.trans (hE2.trans hn.ext) (har.below (Nat.le_trans hE2.sz hn.ext.sz) fun b hb=>(hv0.ge hb).1)
  have hvo3:=har.vec (hv.ext hn.ext) (by
   rcases hb:vo.ownBlock with _|b
   ·exact .inl rfl
   ·right
    intro e
    have e':some b=some w2.heap.size:=e
    have:=(hv.ge hb).2
    cases e'
    omega)
  rw[List.nil_append]at hva
  have hfr:=har.fresh
  have hne:vo.ownBlock=none∨vo.ownBlock≠va.ownBlock:=by
   rcases hb:vo.ownBlock with _|b
   ·exact .inl rfl
   ·right
    intro e
    have h2:=(hv.ge hb).2
    rcases hfr b e.symm with h|h
    ·have h':some w2.heap.size=some b:=h
     cases h'
     omega
    ·have:=hn.ext.sz
     omega
  have hRw:∀x∈bC l,x.Wf:=fun x hx=>by
   rw[hR]at hx
   obtain⟨y,hy,rfl⟩:=List.mem_map.1 hx
   have hy2:=hl.wf y (List.mem_of_mem_drop hy)
   have hy3:=List.all_eq_true.1 hall y hy
   simp only[Bool.or_eq_true,decide_eq_true_eq]at hy3
   unfold aS
   split
   ·have:=hy2.parent
    exact⟨hy2.kind,by simp only[withParent];omega,hy2.name,hy2.value⟩
   ·exact hy2
  have hRl:(bC l).length≤1000000000:=by rw[hR,List.length_map,List.length_drop];omega
  rw[←hR]at hvo3
  refine aA.mk _ (qV vo (bC l) w3 (hvo3.nodes hRw (by omega))) ?_
  rintro v w4 ⟨rfl,hE4⟩
  rw[rG]
  refine⟨va,vo,?_,?_,hvo3.ext hE4,hne,hE3.trans hE4⟩
  ·rw[hO];rfl
  ·rw[hA];exact hva.ext hE4
def insR(k:Int):Bool:=decide (k=1∨k=4∨k=5∨k=6∨k=7)
theorem yN(k:Int)(w:World):bV Tryz.prog 51 #[.int .u8 k] w (fun v w'=>v=.bool (insR k)∧w'=w):=by
 have fin:∀b:Bool,insR k=b→(aC [Value.bool b]=Value.bool (insR k)∧w=w):=fun b h=>by rw[h];exact⟨rfl,rfl⟩
 refine enter aB Tryz.func51 (aV rfl) rfl rfl rfl ?_
 refine aK.bH (fun g1=>?_) (fun g1=>?_)
 rotate_left
 ·repeat (first|refine gA ?_|refine gB ?_|refine gC ?_)
  exact fin _ (decide_eq_true (by omega))
 repeat (first|refine gA ?_|refine gB ?_|refine gC ?_)
 refine aK.bH (fun g2=>?_) (fun g2=>?_)
 rotate_left
 ·repeat (first|refine gA ?_|refine gB ?_|refine gC ?_)
  exact fin _ (decide_eq_true (by omega))
 repeat (first|refine gA ?_|refine gB ?_|refine gC ?_)
 refine aK.bH (fun g3=>?_) (fun g3=>?_)
 rotate_left
 ·repeat (first|refine gA ?_|refine gB ?_|refine gC ?_)
  exact fin _ (decide_eq_true (by omega))
 repeat (first|refine gA ?_|refine gB ?_|refine gC ?_)
 refine aK.bH (fun g4=>?_) (fun g4=>?_)
 rotate_left
 ·repeat (first|refine gA ?_|refine gB ?_|refine gC ?_)
  exact fin _ (decide_eq_true (by omega))
 repeat (first|refine gA ?_|refine gB ?_|refine gC ?_)
 exact fin _ (decide_eq_decide.2 (by omega))
def sI(a b:Pt):Bool:=decide (a.kind<b.kind∨(a.kind=b.kind∧a.target<b.target))
theorem rAhead_con(ra rb:aR)(a b:Pt)(w0 w:World)(ha:gM w0 ra a)(hb:gM w0 rb b):bV Tryz.prog 49 #[.agg ra.cells.toArray,.agg rb.cells.toArray] w (fun v w'=>v=.bool (sI a b)∧Ext w w'):=by
 obtain⟨ka,ta,xa,na⟩:=ra
 obtain⟨kb,tb,xb,nb⟩:=rb
 have h1:=ha.kind
 have h2:=ha.target
 have h3:=hb.kind
 have h4:=hb.target
 simp only at h1 h2 h3 h4
 refine enter aB Tryz.func49 (aV rfl) rfl rfl rfl ?_
 refine aG.box [.int .u8 ka,.int .i64 ta,.string xa,na] rfl fun b1 w1 n1=>?_
 refine aG.box [.int .u8 kb,.int .i64 tb,.string xb,nb] rfl fun b2 w2 n2=>?_
 have c1:=(n1.blk.ext n2.ext).cells
 have c2:=n2.blk.cells
 have hE:=n1.ext.trans n2.ext
 have fin:∀b':Bool,sI a b=b'→(aC [Value.bool b']=Value.bool (sI a b)∧Ext w w2):=fun b' h=>by rw[h];exact⟨rfl,hE⟩
 refine Load.here (c1.one (k:=0) rfl) ?_
 refine Load.here (c2.one (k:=0) rfl) ?_
 refine aK.bH (fun g1=>?_) (fun g1=>?_)
 rotate_left
 ·repeat (first|refine gA ?_|refine gB ?_|refine gC ?_)
  exact fin _ (decide_eq_true (by omega))
 repeat (first|refine gA ?_|refine gB ?_|refine gC ?_)
 refine Load.here (c1.one (k:=0) rfl) ?_
 repeat (first|refine gA ?_|refine gB ?_|refine gC ?_)
 refine Load.here (c2.one (k:=0) rfl) ?_
 repeat (first|refine gA ?_|refine gB ?_|refine gC ?_)
 refine aK.bB (fun g2=>?_) (fun g2=>?_)
 ·repeat (first|refine gA ?_|refine gB ?_|refine gC ?_)
  refine Load.here (c1.one (k:=1) rfl) ?_
  repeat (first|refine gA ?_|refine gB ?_|refine gC ?_)
  refine Load.here (c2.one (k:=1) rfl) ?_
  repeat (first|refine gA ?_|refine gB ?_|refine gC ?_)
  exact fin _ (decide_eq_decide.2 (by omega))
 ·repeat (first|refine gA ?_|refine gB ?_|refine gC ?_)
  exact fin _ (decide_eq_false (by omega))
structure PO(w:World)(D:Nat)(r:aR)(p:Pt):Prop where
 kind:r.kind=p.kind
 target:r.target=p.target
 text:r.text=p.text
 nodes:Vec w D 50 4 r.nodes (p.nodes.map Nd.cells)
 wf:∀x∈p.nodes,x.Wf
 len:p.nodes.length≤2932031007402
 wkind:0≤p.kind∧p.kind≤255
 wtarget:-9223372036854775808≤p.target∧p.target≤9223372036854775807
 wtext:p.text.size≤140737488355328
theorem PO.at_{w:World}{D:Nat}{r:aR}{p:Pt}(h:PO w D r p):gM w r p:=⟨h.kind,h.target,h.text,h.nodes.nodes h.wf h.len,h.wkind,h.wtarget,h.wtext⟩
theorem PO.ext{w w':World}{D:Nat}{r:aR}{p:Pt}(h:PO w D r p)(hE:Ext w w'):PO w' D r p:=⟨h.kind,h.target,h.text,h.nodes.ext hE,h.wf,h.len,h.wkind,h.wtarget,h.wtext⟩
theorem rCopied_con(r:aR)(p:Pt)(w:World)(h:gM w r p)(hln:p.nodes.length≤1000000000) :
  bV Tryz.prog 50 #[.agg r.cells.toArray] w (fun v w'=>∃r',v=.agg r'.cells.toArray∧PO w' w.heap.size r' p∧Ext w w'):=by
 have hml:maxLen=9223372036854775807:=rfl
 obtain⟨kk,tt,xx,nn⟩:=r
 have e1:=h.kind
 have e2:=h.target
 have e3:=h.text
 have hN:=h.nodes
 simp only at e1 e2 e3 hN
 refine enter aB Tryz.func50 (aV rfl) rfl rfl rfl ?_
 refine aG.box [.int .u8 kk,.int .i64 tt,.string xx,nn] rfl fun b1 w1 n1=>?_
 refine aG.alloc _ [.int .u8 0,.int .i64 0,.string ⟨#[]⟩,.slice none 0 0] jI rfl fun b2 w2 n2=>?_
 have hE2:=n1.ext.trans n2.ext
 have hb1:w.heap.size≤b1:=by rw[n1.b_eq];exact Nat.le_refl _
 have hb2:w.heap.size≤b2:=by rw[n2.b_eq];exact n1.ext.sz
 have hb12:b1≠b2:=by
  have:=n1.blk.lt
  have:=n2.b_eq
  omega
 refine aG.mk _ _ (qH w2) ?_
 have hn:bO w2 w2.heap.size [] 50 (w2.alloc (.cells #[] 50)):=⟨rfl,rfl⟩
 have hv0:=Vec.wM (B:=w.heap.size) (xs:=[]) (sz:=4) hn rfl (by simp) (by decide) hE2.sz
 obtain⟨w3,hw3⟩:∃w',w'=w2.alloc (.cells #[] 50):=⟨_,rfl⟩
 rw[←hw3]at hn hv0 ⊢
 have hE3:=hE2.trans hn.ext
 have hB1:bQ w3 b1 [.int .u8 kk,.int .i64 tt,.string xx,nn] 41:=(n1.blk.ext n2.ext).ext hn.ext
 have hB2:bQ w3 b2 _ 41:=n2.blk.ext hn.ext
 refine Load.here (hB1.cells.one (k:=3) rfl) ?_
 refine bD.append bI w.heap.size [] (p.nodes.map Nd.cells) hv0 (hN.sl.ext hE3) (by
  intro y hy
  obtain⟨x,_,rfl⟩:=List.mem_map.1 hy
  exact⟨rfl,Nd.cells_one _⟩) (by rw[List.length_map];simp only[List.length_nil];omega) (by rw[List.length_map];simp only[List.length_nil];omega) hE3.sz fun va w4 hva har=>?_
 have hE4:Ext w w4:=Below.trans hE3 (har.below hE3.sz fun b hb=>(hv0.ge hb).1)
 have hv0b:∀b,b<w2.heap.size→(Value.slice (some ⟨w2.heap.size,0,none⟩) ([]:List (List Value)).length ([]:List (List Value)).length).ownBlock≠some b:=fun b hb e=>by
  have e':some w2.heap.size=some b:=e
  cases e'
  omega
 have hB14:=har.blk hB1 (hv0b b1 (by have:=n1.blk.lt;have:=n2.ext.sz;omega))
 have hB24:=har.blk hB2 (hv0b b2 n2.blk.lt)
 obtain⟨oa,ca,hvsh,-,-,-,-,hvg⟩:=hva.shape
 have hl2:b1<w2.heap.size:=by have:=n1.blk.lt;have:=n2.ext.sz;omega
 have hl3:b2<w2.heap.size:=n2.blk.lt
 have hvne:∀b,b<w2.heap.size→va.ownBlock≠some b:=fun b hb e=>by
  rcases har.fresh b e with h|h
  ·exact hv0b b hb h
  ·have:=hn.ext.sz
   omega
 refine bA.store b1 3 _ [va] 41 rfl (by rw[hvsh];rfl) (by kernel_rfl) hB14 (by simp) (fun u hu=>by rw[List.mem_singleton.1 hu,hvsh];rfl) fun w5 hU1=>?_
 have hE5:Ext w w5:=hE4.upd hU1 hb1
 have hva5:=hva.upd hU1 (hvne b1 hl2)
 have hB15:bQ w5 b1 [.int .u8 kk,.int .i64 tt,.string xx,va] 41:=hU1.blk
 have hB25:=hU1.aF hB24 (Ne.symm hb12)
 refine Load.here (hB15.cells.all' rfl) ?_
 refine bA.store b2 0 _ [.int .u8 kk,.int .i64 tt,.string xx,va] 41 rfl rfl (by kernel_rfl) hB25 (by simp) (fun u hu=>by
  simp only[List.mem_cons,List.not_mem_nil,or_false]at hu
  rcases hu with rfl|rfl|rfl|rfl
  ·rfl
  ·rfl
  ·rfl
  ·rw[hvsh];rfl) fun w6 hU2=>?_
 have hE6:Ext w w6:=hE5.upd hU2 hb2
 have hva6:=hva5.upd hU2 (hvne b2 hl3)
 have hB26:bQ w6 b2 [.int .u8 kk,.int .i64 tt,.string xx,va] 41:=hU2.blk
 refine Load.here (hB26.cells.all' rfl) ?_
 rw[List.nil_append]at hva6
 exact⟨⟨kk,tt,xx,va⟩,rfl,⟨e1,e2,e3,hva6,hN.wf,hN.len,h.wkind,h.wtarget,h.wtext⟩,hE6⟩
theorem splitA_wf{l:List Nd}(h:∀x∈l,x.Wf):∀x∈bL l,x.Wf:=fun x hx=>by
 unfold bL at hx
 split at hx
 ·exact h x (List.mem_of_mem_take hx)
 ·cases hx
theorem vV{l:List Nd}(h:∀x∈l,x.Wf):∀x∈bC l,x.Wf:=fun x hx=>by
 unfold bC at hx
 split at hx
 ·rename_i g
  rw[Bool.and_eq_true]at g
  unfold iE at hx
  obtain⟨y,hy,rfl⟩:=List.mem_map.1 hx
  have hy2:=h y (List.mem_of_mem_drop hy)
  have hy3:=List.all_eq_true.1 g.2 y hy
  simp only[Bool.or_eq_true,decide_eq_true_eq]at hy3
  unfold aS
  split
  ·have:=hy2.parent
   exact⟨hy2.kind,by simp only[withParent];omega,hy2.name,hy2.value⟩
  ·exact hy2
 ·cases hx
theorem splitA_len(l:List Nd):(bL l).length≤l.length:=by have:=kL l;omega
theorem tC(l:List Nd):(bC l).length≤l.length:=by have:=kL l;omega
def jT(a b:List Nd):List Nd:=bL a++bL b++(bC a).map (aS ((bL a).length+(bL b).length:Nat))++(bC b).map (aS ((bL a).length+(bL b).length+(bC a).length:Nat))
theorem nd_one(l:List Nd):∀y∈l.map Nd.cells,y.length=4∧∀u∈y,u.oneCell'=true:=fun y hy=>by
 obtain⟨x,_,rfl⟩:=List.mem_map.1 hy
 exact⟨rfl,Nd.cells_one _⟩
theorem app_ne{w w':World}{v v' u:Value}{D e sz:Nat}{xs:List (List Value)}(har:iO w v w' v')(hu:Vec w D e sz u xs)(h:u.ownBlock=none∨u.ownBlock≠v.ownBlock):u.ownBlock=none∨u.ownBlock≠v'.ownBlock:=by
 rcases hb:u.ownBlock with _|b
 ·exact .inl rfl
 ·right
  intro e
  rcases har.fresh b e.symm with g|g
  ·rcases h with h|h
   ·rw[hb]at h;cases h
   ·exact h (by rw[hb,g])
  ·have:=(hu.ge hb).2
   omega
theorem rJoined_con(va vb:Value)(a b:List Nd)(w:World)(ha:aJ w va a)(hb:aJ w vb b)(hla:a.length≤100000000)(hlb:b.length≤100000000)
  (hpa:∀x∈bC a,x.parent≤4611686018427387903) (hpb:∀x∈bC b,x.parent≤4611686018427387903) :
  bV Tryz.prog 52 #[va,vb] w (fun v' w'=>Vec w' w.heap.size 50 4 v' ((jT a b).map Nd.cells)∧Ext w w'):=by
 have hml:maxLen=9223372036854775807:=rfl
 have la1:=splitA_len a
 have la2:=tC a
 have lb1:=splitA_len b
 have lb2:=tC b
 refine enter aB Tryz.func52 (aV rfl) rfl rfl rfl ?_
 refine aA.mk _ (pO va a w ha (by omega)) ?_
 rintro v w1 ⟨a1,a2,rfl,hA1,hA2,hneA,hE1⟩
 refine aA.mk _ (pO vb b w1 (hb.ext hE1) (by omega)) ?_
 rintro v w2 ⟨b1,b2,rfl,hB1,hB2,hneB,hE2⟩
 have hE02:=hE1.trans hE2
 refine bD.append bI w.heap.size _ ((bL b).map Nd.cells) (hA1.ext hE2) hB1.sl (nd_one _) (by rw[List.length_map,List.length_map];omega) (by rw[List.length_map,List.length_map];omega) hE02.sz fun v3 w3 hv3 har3=>?_
 have hE03:Ext w w3:=Below.trans hE02 (har3.below hE02.sz fun b hb=>(hA1.ge hb).1)
 have hA23:=har3.vec (hA2.ext hE2) hneA
 have nb:b2.ownBlock=none∨b2.ownBlock≠a1.ownBlock:=by
  rcases h:b2.ownBlock with _|g
  ·exact .inl rfl
  ·right
   intro e
   have h1:=(hB2.ge h).1
   have h2:=(hA1.ge e.symm).2
   omega
 have hB23:=har3.vec hB2 nb
 have hnB3:=app_ne har3 hB2 nb
 obtain⟨o3,c3,hsh3,-,-,-,-,-⟩:=hv3.shape
 rw[List.length_append,List.length_map,List.length_map]at hsh3
 subst hsh3
 have wfA2:=vV ha.wf
 have wfB2:=vV hb.wf
 refine aA.mk _ (yO a2 (bC a) _ w3 (hA23.nodes wfA2 (by omega)) (by omega) (by omega) hpa) ?_
 rintro v4 w4 ⟨hv4,hE4⟩
 have hE04:=hE03.trans hE4
 refine bD.append bI w.heap.size _ (((bC a).map (aS ((bL a).length+(bL b).length:Nat))).map Nd.cells) (hv3.ext hE4) hv4.sl (nd_one _) (by simp only[List.length_map,List.length_append];omega) (by simp only[List.length_map,List.length_append];omega) hE04.sz fun v5 w5 hv5 har5=>?_
 have hE05:Ext w w5:=Below.trans hE04 (har5.below hE04.sz fun b hb=>(hv3.ge hb).1)
 have hB25:=har5.vec (hB23.ext hE4) hnB3
 have hA2sh:=hA2.shape
 obtain⟨o2,c2,ha2,-,-,-,-,-⟩:=hA2sh
 rw[List.length_map]at ha2
 subst ha2
 refine Ar.aM ((bL a).length+(bL b).length+(bC a).length) (by omega) (by omega) ?_
 refine aA.mk _ (yO b2 (bC b) _ w5 (hB25.nodes wfB2 (by omega)) (by omega) (by omega) hpb) ?_
 rintro v6 w6 ⟨hv6,hE6⟩
 have hE06:=hE05.trans hE6
 refine bD.append bI w.heap.size _ (((bC b).map (aS ((bL a).length+(bL b).length+(bC a).length:Nat))).map Nd.cells) (hv5.ext hE6) hv6.sl (nd_one _) (by simp only[List.length_map,List.length_append];omega) (by simp only[List.length_map,List.length_append];omega) hE06.sz fun v7 w7 hv7 har7=>?_
 have hE07:Ext w w7:=Below.trans hE06 (har7.below hE06.sz fun b hb=>(hv5.ge hb).1)
 refine And.intro ?_ hE07
 unfold jT
 rw[List.map_append,List.map_append,List.map_append]
 exact hv7
end Go.Proofs.YtelffdgcikceaaaGreatDoor
end
section
namespace Go.Proofs.YtelffdgcikceaaaGreatDoor
open Go.V
theorem shift_id(k:Nat)(x:Nd):aS (-(k:Int)) (aS k x)=x:=by
 unfold aS withParent
 by_cases h:0≤x.parent
 ·rw[if_pos h,if_pos (by simp only;omega)]
  cases x
  simp only[Nd.mk.injEq,true_and]
  omega
 ·rw[if_neg h,if_neg h]
theorem shift_shift(a b:Nat)(x:Nd):aS a (aS b x)=aS ((a+b:Nat):Int) x:=by
 unfold aS withParent
 by_cases h:0≤x.parent
 ·rw[if_pos h,if_pos (by simp only;omega),if_pos h]
  cases x
  simp only[Nd.mk.injEq,true_and]
  omega
 ·rw[if_neg h,if_neg h,if_neg h]
theorem shift_attr{k:Nat}{x:Nd}(h:dZ x=false):dZ (aS k x)=false:=by
 unfold aS withParent
 by_cases hp:0≤x.parent
 ·rw[if_pos hp]
  unfold dZ
  simp only
  rw[decide_eq_false (show ¬x.parent+(k:Int)=-1 by omega),Bool.and_false]
 ·rw[if_neg hp];exact h
theorem shift_zero(x:Nd):aS ((0:Nat):Int) x=x:=by
 unfold aS withParent
 split
 ·cases x;simp
 ·rfl
structure Cont(a A R:List Nd):Prop where
 eq:a=A++R.map (aS (A.length:Nat))
 attr:∀x∈A,dZ x=true∧dW x.name=true∧gX x.value=true
 rest:∀x∈R,dZ x=false
 par:∀x∈R,-1≤x.parent∧x.parent<(R.length:Int)
theorem Cont.split{a A R:List Nd}(h:Cont a A R):bL a=A∧bC a=R:=by
 have hh:bR a=A.length:=by
  unfold bR
  rw[h.eq,List.takeWhile_append_of_pos (fun x hx=>(h.attr x hx).1)]
  have:(R.map (aS (A.length:Nat))).takeWhile dZ=[]:=by
   cases R with
   | nil=>rfl
   | cons x r=>
     rw[List.map_cons,List.takeWhile_cons,if_neg (by rw[shift_attr (h.rest x List.mem_cons_self)];simp)]
  rw[this,List.append_nil]
 have ht:a.take A.length=A:=by rw[h.eq,List.take_left]
 have hd:a.drop A.length=R.map (aS (A.length:Nat)):=by rw[h.eq,List.drop_left]
 have h1:iD a=true:=by
  unfold iD
  rw[hh,ht,List.all_eq_true]
  intro x hx
  rw[(h.attr x hx).2.1,(h.attr x hx).2.2]
  rfl
 have h2:gI a=true:=by
  unfold gI
  rw[hh,hd,List.all_eq_true]
  intro y hy
  obtain⟨x,hx,rfl⟩:=List.mem_map.1 hy
  unfold aS withParent
  simp only[Bool.or_eq_true,decide_eq_true_eq]
  split
  ·right;simp only;omega
  ·left;omega
 unfold bL bC iE
 rw[h1,h2,hh,ht,hd]
 refine⟨rfl,?_⟩
 show(R.map (aS (A.length:Nat))).map (aS (-(A.length:Int)))=R
 rw[List.map_map]
 conv=>rhs;rw[←List.map_id R]
 exact List.map_congr_left fun x _=>shift_id _ x
theorem xW{l:List Nd}(h:aU l=true):Cont l (bL l) (bC l):=by
 have hp:=iK h
 have hj:=tF h
 have eA:=vU h
 have eR:=rY h
 have hle:=jC l
 have hlA:(bL l).length=bR l:=by rw[eA,List.length_take];omega
 have hck:jF (iE l) false=0:=by rw[rG];exact hp.2.2
 have hopen:(List.range (iE l).length).all (fB (iE l))=true∧(List.range (iE l).length).all (okR (iE l) false)=true:=by
  unfold jF at hck
  split at hck
  ·cases hck
  ·split at hck
   ·cases hck
   ·rename_i g
    split at hck
    ·cases hck
    ·rename_i g2
     exact⟨by simpa using g,by simpa using g2⟩
 have hu:=lK _ hopen.1
 refine⟨?_,fun x hx=>?_,fun x hx=>?_,fun x hx=>?_⟩
 ·rw[hlA,eA,eR]
  exact hj
 ·refine⟨uU l x hx,?_⟩
  have h1:=hp.1
  unfold iD at h1
  rw[←eA]at h1
  have:=List.all_eq_true.1 h1 x hx
  rwa [Bool.and_eq_true]at this
 ·rw[eR]at hx
  obtain⟨i,hi,rfl⟩:=List.mem_iff_getElem.1 hx
  have hok:=List.all_eq_true.1 hopen.2 i (List.mem_range.2 hi)
  rw[okR_other (by simp),Bool.and_eq_true]at hok
  rw[←eT hi]
  cases hat:dZ (nd (iE l) (i:Int))with
  | false=>rfl
  | true=>
    exfalso
    unfold dZ at hat
    rw[Bool.and_eq_true,decide_eq_true_eq,decide_eq_true_eq]at hat
    have h1:=hok.1
    unfold jK at h1
    rw[Bool.and_eq_true,Bool.and_eq_true]at h1
    have h2:=h1.2.2
    unfold kW mG at h2
    rw[if_neg (by omega),if_neg (by omega),if_pos hat.1,Bool.and_eq_true,decide_eq_true_eq]at h2
    have h3:=h2.1
    unfold mF at h3
    rw[if_pos (by omega)]at h3
    cases h3
 ·rw[eR]at hx ⊢
  obtain⟨i,hi,rfl⟩:=List.mem_iff_getElem.1 hx
  have:=hu i hi
  rw[eT hi]at this
  omega
theorem Cont.joined{a b A R A' R':List Nd}(h:Cont a A R)(g:Cont b A' R'):Cont (jT a b) (A++A') (R++R'.map (aS (R.length:Nat))):=by
 obtain⟨e1,e2⟩:=h.split
 obtain⟨e3,e4⟩:=g.split
 refine⟨?_,fun x hx=>?_,fun x hx=>?_,fun x hx=>?_⟩
 ·unfold jT
  rw[e1,e2,e3,e4,List.map_append,List.map_map,List.length_append,←List.append_assoc]
  congr 1
  exact List.map_congr_left fun x _=>(shift_shift _ _ x).symm
 ·rcases List.mem_append.1 hx with hx|hx
  ·exact h.attr x hx
  ·exact g.attr x hx
 ·rcases List.mem_append.1 hx with hx|hx
  ·exact h.rest x hx
  ·obtain⟨y,hy,rfl⟩:=List.mem_map.1 hx
   exact shift_attr (g.rest y hy)
 ·rw[List.length_append,List.length_map]
  rcases List.mem_append.1 hx with hx|hx
  ·have:=h.par x hx;omega
  ·obtain⟨y,hy,rfl⟩:=List.mem_map.1 hx
   have:=g.par y hy
   unfold aS withParent
   split
   ·simp only;omega
   ·omega
theorem joinedP_len(a b:List Nd):(jT a b).length≤a.length+b.length:=by
 unfold jT
 have h1:=kL a
 have h2:=kL b
 simp only[List.length_append,List.length_map]
 omega
def atF(S:List Pt)(x:Pt):Nat→Nat
 | 0=>0
 | k+1=>if sI x (S.getD k pt0)then atF S x k else k+1
def insM(S:List Pt)(x:Pt):List Pt:=S.take (atF S x S.length)++[x]++S.drop (atF S x S.length)
def nO(l:List Pt):List Pt:=l.foldl insM []
def stepM(out:List Pt)(p:Pt):List Pt:=match out.getLast? with
 | none=>[p]
 | some q=>if q.kind≠p.kind∨q.target≠p.target∨(insR p.kind=false∧p.kind≠10)then out++[p]else if p.kind≠10 then out.dropLast++[{ q with nodes:=jT q.nodes p.nodes }]else out
def lN(l:List Pt):List Pt:=if l.all (fun p=>aU p.nodes)then(nO l).foldl stepM []else []
def TgOk(p:Pt):Prop:=-9223372036854775808≤p.target∧p.target≤9223372036854775807
theorem ahead_kp{x y:Pt}(hx:TgOk x)(hy:TgOk y):sI x y=decide (kp x<kp y):=by
 unfold sI kp
 unfold TgOk at hx hy
 exact decide_eq_decide.2 (by omega)
theorem atF_le(S:List Pt)(x:Pt):∀k,atF S x k≤k
 | 0=>Nat.le_refl _
 | k+1=>by
   simp only[atF]
   split
   ·have:=atF_le S x k;omega
   ·exact Nat.le_refl _
theorem atF_spec{S:List Pt}{x:Pt}:∀k,(∀j,atF S x k≤j→j<k→sI x (S.getD j pt0)=true)∧(0<atF S x k→sI x (S.getD (atF S x k-1) pt0)=false)
 | 0=>⟨fun j h1 h2=>by omega,fun h=>absurd h (Nat.lt_irrefl _)⟩
 | k+1=>by
   obtain⟨h1,h2⟩:=atF_spec (S:=S) (x:=x) k
   simp only[atF]
   split
   ·rename_i g
    refine⟨fun j j1 j2=>?_,h2⟩
    by_cases e:j=k
    ·subst e;exact g
    ·exact h1 j j1 (by omega)
   ·rename_i g
    refine⟨fun j j1 j2=>by omega,fun _=>?_⟩
    simpa using g
theorem insM_sort{S:List Pt}{x:Pt}(hS:kC kp S)(hw:∀p∈S,TgOk p)(hx:TgOk x):kC kp (insM S x)∧Same kp (S++[x]) (insM S x):=by
 have hle:=atF_le S x S.length
 obtain⟨s1,s2⟩:=atF_spec (S:=S) (x:=x) S.length
 unfold insM
 generalize atF S x S.length=a at *
 have hi:∀y∈S.drop a,kp x<kp y:=fun y hy=>by
  obtain⟨j,hj,rfl⟩:=List.mem_drop_iff_getElem.1 hy
  have:=s1 (a+j) (by omega) (by omega)
  rw[List.getD_eq_getElem?_getD,List.getElem?_eq_getElem (by omega),Option.getD_some,ahead_kp hx (hw _ (List.getElem_mem _)),decide_eq_true_eq]at this
  exact this
 have lo:∀y∈S.take a,kp y≤kp x:=fun y hy=>by
  obtain⟨j,hj,rfl⟩:=List.mem_take_iff_getElem.1 hy
  have ha0:0<a:=by omega
  have:=s2 ha0
  rw[List.getD_eq_getElem?_getD,List.getElem?_eq_getElem (by omega),Option.getD_some,ahead_kp hx (hw _ (List.getElem_mem _)),decide_eq_false_iff_not]at this
  by_cases e:j=a-1
  ·subst e;omega
  ·have:=List.pairwise_iff_getElem.1 hS j (a-1) (by omega) (by omega) (by omega)
   omega
 have hta:S.take a++S.drop a=S:=List.take_append_drop a S
 refine⟨?_,?_⟩
 ·unfold kC
  rw[List.append_assoc,List.pairwise_append]
  have hS':(S.take a++S.drop a).Pairwise (fun x y=>kp x≤kp y):=by rw[hta];exact hS
  rw[List.pairwise_append]at hS'
  refine⟨hS'.1,?_,fun y hy z hz=>?_⟩
  ·rw[List.singleton_append,List.pairwise_cons]
   exact⟨fun z hz=>by have:=hi z hz;omega,hS'.2.1⟩
  ·rcases List.mem_cons.1 (by simpa using hz)with rfl|hz
   ·exact lo y hy
   ·exact hS'.2.2 y hy z hz
 ·conv=>lhs;rw[←hta]
  rw[List.append_assoc,List.append_assoc]
  refine Same.app (Same.refl _) (Same.swap fun y hy z hz e=>?_)
  rw[List.mem_singleton.1 hz]at e
  have:=hi y hy
  omega
theorem sortM_eq{l:List Pt}(hw:∀p∈l,TgOk p):nO l=eH kp l:=by
 have key:∀(r d S:List Pt),l=d++r→S=eH kp d→r.foldl insM S=eH kp l:=by
  intro r
  induction r with
  | nil=>
    intro d S h1 h2
    rw[List.append_nil]at h1
    rw[List.foldl_nil,h2,h1]
  | cons x r ih=>
    intro d S h1 h2
    rw[List.foldl_cons]
    refine ih (d++[x]) (insM S x) (by rw[h1];simp) ?_
    have hSd:=lH (key:=kp) d
    have hmem:∀p∈S,TgOk p:=fun p hp=>hw p (by rw[h1,List.mem_append];left;rw[h2]at hp;exact hSd.symm.mem hp)
    obtain⟨a1,a2⟩:=insM_sort (x:=x) (by rw[h2];exact vI d) hmem (hw x (by rw[h1];simp))
    refine isort_of a1 (Same.trans ?_ a2)
    rw[h2]
    exact Same.app hSd (Same.refl _)
 exact key l [] [] rfl rfl
theorem copied_iff(k:Int):gZ k=true↔(insR k=false∧k≠10):=by
 unfold gZ insR
 by_cases h:1≤k∧k≤10
 ·have:k=1∨k=2∨k=3∨k=4∨k=5∨k=6∨k=7∨k=8∨k=9∨k=10:=by omega
  rcases this with rfl|rfl|rfl|rfl|rfl|rfl|rfl|rfl|rfl|rfl<;>decide
 ·have h1:(decide (1≤k)&&decide (k≤10))=false:=by
   rw[Bool.and_eq_false_iff,decide_eq_false_iff_not,decide_eq_false_iff_not]
   omega
  rw[h1]
  simp only[Bool.not_false,Bool.true_or,true_iff,decide_eq_false_iff_not]
  omega
theorem join_one{p:Pt}(h:aU p.nodes=true):bJ [p]=p.nodes:=by
 have hc:=xW h
 unfold bJ fA fH
 simp only[List.map_cons,List.map_nil,List.flatten_cons,List.flatten_nil,List.append_nil,List.nil_append,fH,List.length_nil]
 have:(bC p.nodes).map (aS ((0:Nat):Int))=bC p.nodes:=by
  conv=>rhs;rw[←List.map_id (bC p.nodes)]
  exact List.map_congr_left fun x _=>shift_zero x
 rw[this]
 exact hc.eq.symm
theorem join_cont{row:List Pt}(hne:row≠[])(h:∀p∈row,aU p.nodes=true):Cont (bJ row) (fA row) (fH [] row):=by
 have key:∀(r d:List Pt),d≠[]→(∀p∈d,aU p.nodes=true)→(∀p∈r,aU p.nodes=true)→Cont (bJ d) (fA d) (fH [] d)→Cont (bJ (d++r)) (fA (d++r)) (fH [] (d++r)):=by
  intro r
  induction r with
  | nil=>intro d _ _ _ h;rw[List.append_nil];exact h
  | cons q r ih=>
    intro d hd h1 h2 h3
    have hq:=xW (h2 q List.mem_cons_self)
    have hj:=h3.joined hq
    have e:d++q::r=(d++[q])++r:=by simp
    rw[e]
    refine ih (d++[q]) (by simp) (fun p hp=>?_) (fun p hp=>h2 p (List.mem_cons_of_mem _ hp)) ?_
    ·rcases List.mem_append.1 hp with hp|hp
     ·exact h1 p hp
     ·rw[List.mem_singleton.1 hp];exact h2 q List.mem_cons_self
    ·rw[jB,iJ]
     refine⟨?_,hj.attr,hj.rest,hj.par⟩
     unfold bJ
     rw[jB,iJ]
 cases row with
 | nil=>exact absurd rfl hne
 | cons p r=>
   have hp:=h p List.mem_cons_self
   have h0:Cont (bJ [p]) (fA [p]) (fH [] [p]):=by
    have hc:=xW hp
    have e1:fA [p]=bL p.nodes:=by simp[fA]
    have e2:fH [] [p]=bC p.nodes:=by
     simp only[fH,List.nil_append,List.length_nil]
     conv=>rhs;rw[←List.map_id (bC p.nodes)]
     exact List.map_congr_left fun x _=>shift_zero x
    rw[join_one hp,e1,e2]
    exact hc
   exact key r [p] (by simp) (fun q hq=>by rw[List.mem_singleton.1 hq];exact hp) (fun q hq=>h q (List.mem_cons_of_mem _ hq)) h0
theorem join_snoc{row:List Pt}{q:Pt}(hne:row≠[])(h:∀p∈row,aU p.nodes=true)(hq:aU q.nodes=true):jT (bJ row) q.nodes=bJ (row++[q]):=by
 have h1:=(join_cont hne h).joined (xW hq)
 have h2:=join_cont (row:=row++[q]) (by simp) (fun p hp=>by
  rcases List.mem_append.1 hp with hp|hp
  ·exact h p hp
  ·rw[List.mem_singleton.1 hp];exact hq)
 rw[h1.eq,h2.eq,jB,iJ]
theorem iX(p:Pt)(r:List Pt):dP (p::r)=if gZ p.kind=true then p::r else if p.kind=10 then [p]else [{ p with nodes:=bJ (p::r) }]:=rfl
theorem rO(out:List Pt)(q:Pt):(out++[q]).getLast? = some q:=by simp
theorem row_fold{out:List Pt}{x:Pt}(hx:aU x.nodes=true):∀(r t:List Pt),(∀q∈t++r,fI x q=true∧aU q.nodes=true)→r.foldl stepM (out++dP (x::t))=out++dP (x::(t++r))
 | [],t,_=>by rw[List.append_nil];rfl
 | q::r,t,h=>by
   have hq:=h q (by simp)
   have hqk:q.kind=x.kind∧q.target=x.target:=by
    have:=hq.1
    unfold fI at this
    rw[Bool.and_eq_true,decide_eq_true_eq,decide_eq_true_eq]at this
    exact this
   have e:t++q::r=(t++[q])++r:=by simp
   rw[e,List.foldl_cons,←row_fold hx r (t++[q]) (by rw[←e];exact h)]
   congr 1
   have ht:∀p∈x::t,p.kind=x.kind∧p.target=x.target:=fun p hp=>by
    rcases List.mem_cons.1 hp with rfl|hp
    ·exact⟨rfl,rfl⟩
    ·have:=(h p (by simp[hp])).1
     unfold fI at this
     rw[Bool.and_eq_true,decide_eq_true_eq,decide_eq_true_eq]at this
     exact this
   have hts:∀p∈x::t,aU p.nodes=true:=fun p hp=>by
    rcases List.mem_cons.1 hp with rfl|hp
    ·exact hx
    ·exact(h p (by simp[hp])).2
   by_cases hc:gZ x.kind=true
   ·have e1:dP (x::t)=x::t:=by rw[iX,if_pos hc]
    have e2:dP (x::(t++[q]))=x::(t++[q]):=by rw[iX,if_pos hc]
    rw[e1,e2]
    obtain⟨d,y,hy⟩:∃d y,x::t=d++[y]:=⟨(x::t).dropLast,(x::t).getLast (by simp),(List.dropLast_concat_getLast (by simp)).symm⟩
    have hyk:=ht y (by rw[hy];simp)
    have hc':=(copied_iff x.kind).1 hc
    unfold stepM
    rw[hy,←List.append_assoc,rO]
    simp only
    rw[if_pos (.inr (.inr ⟨by rw[hqk.1];exact hc'.1,by rw[hqk.1];exact hc'.2⟩))]
    have e3:x::(t++[q])=(x::t)++[q]:=rfl
    rw[e3,hy]
    simp
   ·have hc':¬(insR x.kind=false∧x.kind≠10):=fun hh=>hc ((copied_iff x.kind).2 hh)
    have hcf:gZ x.kind=false:=by simpa using hc
    by_cases h10:x.kind=10
    ·have e1:dP (x::t)=[x]:=by rw[iX,hcf,if_neg (by simp),if_pos h10]
     have e2:dP (x::(t++[q]))=[x]:=by rw[iX,hcf,if_neg (by simp),if_pos h10]
     rw[e1,e2]
     unfold stepM
     rw[rO]
     simp only
     rw[if_neg,if_neg (by rw[hqk.1];exact fun hn=>hn h10)]
     rintro(hh|hh|hh)
     ·exact hh hqk.1.symm
     ·exact hh hqk.2.symm
     ·exact hh.2 (by rw[hqk.1];exact h10)
    ·have e1:dP (x::t)=[{ x with nodes:=bJ (x::t) }]:=by rw[iX,hcf,if_neg (by simp),if_neg h10]
     have e2:dP (x::(t++[q]))=[{ x with nodes:=bJ (x::(t++[q])) }]:=by rw[iX,hcf,if_neg (by simp),if_neg h10]
     rw[e1,e2]
     unfold stepM
     rw[rO]
     simp only
     rw[if_neg,if_pos (by rw[hqk.1];exact h10),List.dropLast_concat,join_snoc (by simp) hts hq.2]
     ·rfl
     ·rintro(hh|hh|hh)
      ·exact hh hqk.1.symm
      ·exact hh hqk.2.symm
      ·exact hc' ⟨by rw[←hqk.1];exact hh.1,h10⟩
theorem rowOut_key{x:Pt}{t:List Pt}(h:∀q∈t,fI x q=true):∃d y,dP (x::t)=d++[y]∧y.kind=x.kind∧y.target=x.target:=by
 rw[iX]
 split
 ·refine⟨(x::t).dropLast,(x::t).getLast (by simp),(List.dropLast_concat_getLast (by simp)).symm,?_⟩
  have hm:=List.getLast_mem (l:=x::t) (by simp)
  rcases List.mem_cons.1 hm with e|e
  ·rw[e];exact⟨rfl,rfl⟩
  ·have:=h _ e
   unfold fI at this
   rw[Bool.and_eq_true,decide_eq_true_eq,decide_eq_true_eq]at this
   exact this
 ·split
  ·exact⟨[],x,rfl,rfl,rfl⟩
  ·exact⟨[],_,rfl,rfl,rfl⟩
theorem fold_rows:∀(n:Nat) (S out:List Pt),S.length≤n→(∀p∈S,aU p.nodes=true)→(∀q x r,out.getLast? = some q→S=x::r→¬(q.kind=x.kind∧q.target=x.target))→S.foldl stepM out=out++((iR fI n S).map dP).flatten
 | 0,S,out,h,_,_=>by
   have:S=[]:=List.eq_nil_of_length_eq_zero (by omega)
   subst this
   simp[iR]
 | n+1,[],out,_,_,_=>by simp[iR]
 | n+1,x::r,out,h,hs,hk=>by
   have hx:=hs x List.mem_cons_self
   have h0:stepM out x=out++dP [x]:=by
    have e:dP [x]=[x]:=by
     rw[iX]
     split
     ·rfl
     ·split
      ·rfl
      ·rw[join_one hx]
    rw[e]
    unfold stepM
    cases hl:out.getLast? with
    | none=>
      simp only
      rw[List.getLast?_eq_none_iff]at hl
      rw[hl]
      rfl
    | some q=>
      simp only
      rw[if_pos]
      have:=hk q x r hl rfl
      by_cases e1:q.kind=x.kind
      ·exact .inr (.inl fun e2=>this ⟨e1,e2⟩)
      ·exact .inl e1
   have hsplit:r=r.takeWhile (fI x)++r.dropWhile (fI x):=List.takeWhile_append_dropWhile.symm
   have htw:∀q∈r.takeWhile (fI x),fI x q=true:=fun q hq=>by
    exact List.all_eq_true.1 (List.all_takeWhile (p:=fI x) (l:=r)) q hq
   rw[List.foldl_cons,h0]
   conv=>lhs;rw[hsplit]
   rw[List.foldl_append]
   have hrf:=row_fold (out:=out) hx (r.takeWhile (fI x)) [] (fun q hq=>by
    rw[List.nil_append]at hq
    exact⟨htw q hq,hs q (List.mem_cons_of_mem _ ((List.takeWhile_sublist _).mem hq))⟩)
   rw[List.nil_append]at hrf
   rw[hrf]
   have hdl:=lU (fI x) r
   rw[fold_rows n _ _ (by simp only[List.length_cons]at h;omega) (fun p hp=>hs p (List.mem_cons_of_mem _ ((List.dropWhile_sublist _).mem hp)))]
   ·simp only[iR,List.map_cons,List.flatten_cons,List.append_assoc]
   ·intro q y r' hq hd hkk
    obtain⟨d,z,e1,e2,e3⟩:=rowOut_key htw
    rw[e1,←List.append_assoc,rO]at hq
    cases hq
    have hno:fI x y=false:=by
     have:=List.head?_dropWhile_not (fI x) r
     rw[hd]at this
     simpa using this
    unfold fI at hno
    rw[Bool.and_eq_false_iff,decide_eq_false_iff_not,decide_eq_false_iff_not]at hno
    rcases hno with h1|h1
    ·exact h1 (by rw[←hkk.1,e2])
    ·exact h1 (by rw[←hkk.2,e3])
theorem refMerge_eq{l:List Pt}(hw:∀p∈l,TgOk p):lN l=dA l:=by
 unfold lN dA
 split
 ·rename_i h
  rw[sortM_eq hw]
  have hall:∀p∈eH kp l,aU p.nodes=true:=fun p hp=>List.all_eq_true.1 h p ((lH l).symm.mem hp)
  have:=fold_rows (eH kp l).length (eH kp l) [] (Nat.le_refl _) hall (fun q x r h=>by simp at h)
  rw[List.nil_append]at this
  exact this
 ·rfl
end Go.Proofs.YtelffdgcikceaaaGreatDoor
end
section
namespace Go.Proofs.YtelffdgcikceaaaGreatDoor
open Go.V
open Go.RowKit (Below)
theorem iT{w:World}{D D' e e':Nat}{u v:Value}{xs ys:List (List Value)}{sz sz':Nat}(hu:Vec w D e sz u xs)(hv:Vec w D' e' sz' v ys)(hne:e≠e'):u.ownBlock=none∨u.ownBlock≠v.ownBlock:=by
 obtain⟨-,h1⟩:=hu.own
 obtain⟨-,h2⟩:=hv.own
 rcases h1 with ⟨h1,-⟩|⟨g,c,cur,hg,-,hh,-⟩
 ·left;rw[h1];rfl
 ·right
  rcases h2 with ⟨h2,-⟩|⟨g',c',cur',hg',-,hh',-⟩
  ·rw[hg,h2];intro e;cases e
  ·rw[hg,hg']
   intro e
   have e1:some g=some g':=e
   cases e1
   rw[hh]at hh'
   cases hh'
   exact hne rfl
theorem PO.app{w w':World}{v v':Value}{D D':Nat}{r:aR}{p:Pt}{ys:List (List Value)}(h:PO w D r p)(har:iO w v w' v')(hv:Vec w D' 41 4 v ys):PO w' D r p:=
 ⟨h.kind,h.target,h.text,har.vec h.nodes (iT h.nodes hv (by decide)),h.wf,h.len,h.wkind,h.wtarget,h.wtext⟩
theorem PO.upd{w w':World}{D b:Nat}{r:aR}{p:Pt}{cs:List Value}{t:TypeId}(h:PO w D r p)(hU:mK w b cs t w')(hb:r.nodes.ownBlock≠some b):PO w' D r p:=
 ⟨h.kind,h.target,h.text,h.nodes.upd hU hb,h.wf,h.len,h.wkind,h.wtarget,h.wtext⟩
theorem PO.mono{w:World}{D D':Nat}{r:aR}{p:Pt}(h:PO w D r p)(hD:D'≤D):PO w D' r p:=
 ⟨h.kind,h.target,h.text,h.nodes.dJ hD,h.wf,h.len,h.wkind,h.wtarget,h.wtext⟩
def dX(L:List (aR × Pt)):List (List Value):=L.map fun x=>x.1.cells
theorem dL(L:List (aR × Pt)):(dX L).length=L.length:=by simp[dX]
theorem one_L{w:World}{D:Nat}{L:List (aR × Pt)}(h:∀x∈L,PO w D x.1 x.2):∀y∈dX L,y.length=4∧∀u∈y,u.oneCell'=true:=fun y hy=>by
 obtain⟨x,hx,rfl⟩:=List.mem_map.1 hy
 exact⟨rfl,(h x hx).at_.cells_one⟩
theorem rD{w:World}{o:Option Addr}{n c sz:Nat}{xs:List (List Value)}(h:eO w (.slice o n c) sz xs){k:Nat}(hk:k≤xs.length):eO w (.slice o k c) sz (xs.take k):=by
 obtain⟨o',c',hv,h1,h2,h3⟩:=h.ex
 simp only[Value.slice.injEq]at hv
 obtain⟨rfl,rfl,rfl⟩:=hv
 exact .mk' (by rw[List.length_take];omega) (by omega) h2 h3 ((h.el _ _ _ rfl).take k)
theorem SlAt_back{w:World}{o:Option Addr}{n c sz:Nat}{xs:List (List Value)}(h:eO w (.slice o n c) sz xs){k:Nat}(hk:k≤xs.length) :
  eO w (.slice (if(c:Int).toNat=(k:Int).toNat then o else o.map (fun x=>x.add ((k:Int).toNat*sz))) ((n:Int).toNat-(k:Int).toNat) ((c:Int).toNat-(k:Int).toNat)) sz (xs.drop k):=by
 obtain⟨o',c',hv,h1,h2,h3⟩:=h.ex
 simp only[Value.slice.injEq]at hv
 obtain⟨rfl,rfl,rfl⟩:=hv
 have hel:=(h.el _ _ _ rfl).drop k
 simp only[Int.toNat_natCast]
 split
 ·have hd:xs.drop k=[]:=List.drop_eq_nil_of_le (by omega)
  rw[hd]
  exact .mk' (by simp;omega) (by omega) (by omega) (fun hn=>by have:=h3 hn;omega) (El.nil _ _ _)
 ·refine .mk' (by simp) (by omega) (by omega) (fun hn=>?_) hel
  have:=h3 (by cases o<;>simp_all)
  omega
theorem parts_L{w:World}{D:Nat}{v:Value}{L:List (aR × Pt)}(hv:Vec w D 41 4 v (dX L))(h:∀x∈L,PO w D x.1 x.2)(hl:L.length≤2513169434916):PartsAt w v (L.map (·.2)):=by
 refine⟨⟨L.map (·.1),?_,by simp,fun i r p h1 h2=>?_⟩,by rw[List.length_map];exact hl⟩
 ·rw[List.map_map];exact hv.sl
 ·rw[List.getElem?_map]at h1 h2
  rcases hx:L[i]? with _|x
  ·rw[hx]at h1;cases h1
  ·rw[hx]at h1 h2
   cases h1;cases h2
   exact(h x (List.mem_of_getElem? hx)).at_
theorem pU(r:aR)(o:Option Addr)(n c:Nat)(h:r.nodes=.slice o n c)(w:World) :
  (Instr.buildSlice 22 1 #[(0,.agg r.cells.toArray)]).run Tryz.prog w=.ok (.slice (some ⟨w.heap.size,0,none⟩) 1 1) (w.alloc (.cells r.cells.toArray 41)):=by
 obtain⟨k,t,x,nn⟩:=r
 simp only at h
 subst h
 exact jO _ _ _ _ _ _ _
theorem sortM_snoc(l:List Pt)(x:Pt):nO (l++[x])=insM (nO l) x:=by unfold nO;rw[List.foldl_append];rfl
theorem foldS_snoc(l:List Pt)(x:Pt):(l++[x]).foldl stepM []=stepM (l.foldl stepM []) x:=by rw[List.foldl_append];rfl
def appB(O:List (aR × Pt))(p:Pt):Bool:=match O.getLast? with
 | none=>true
 | some q=>decide (q.2.kind≠p.kind)||(decide (q.2.target≠p.target)||(!insR p.kind&&decide (p.kind≠10)))
theorem step_app{O:List (aR × Pt)}{x:aR × Pt}(h:appB O x.2=true):stepM (O.map (·.2)) x.2=(O++[x]).map (·.2):=by
 unfold appB at h
 unfold stepM
 rw[List.getLast?_map,List.map_append]
 cases hl:O.getLast? with
 | none=>
   rw[List.getLast?_eq_none_iff]at hl
   rw[hl]
   rfl
 | some q=>
   rw[hl]at h
   simp only[Bool.or_eq_true,decide_eq_true_eq,Bool.and_eq_true,Bool.not_eq_true']at h
   simp only[Option.map_some]
   rw[if_pos h]
   rfl
theorem step_join{d:List (aR × Pt)}{q:aR × Pt}{p:Pt}(h:appB (d++[q]) p=false):stepM ((d++[q]).map (·.2)) p=if p.kind≠10 then d.map (·.2)++[{ q.2 with nodes:=jT q.2.nodes p.nodes }]else(d++[q]).map (·.2):=by
 unfold appB at h
 rw[List.getLast?_concat]at h
 simp only[Bool.or_eq_false_iff,decide_eq_false_iff_not,Bool.and_eq_false_iff,Bool.not_eq_false']at h
 unfold stepM
 rw[List.map_append,List.map_cons,List.map_nil,rO]
 simp only
 rw[if_neg]
 ·rw[List.dropLast_concat]
 ·rintro(hh|hh|hh)
  ·exact h.1 hh
  ·exact h.2.1 hh
  ·rcases h.2.2 with g|g
   ·rw[g]at hh;cases hh.1
   ·exact g hh.2
theorem joinedP_wf{a b:List Nd}(ha:∀x∈a,x.Wf)(hb:∀x∈b,x.Wf)(hla:a.length≤100000000)(hlb:b.length≤100000000)
  (hpa:∀x∈bC a,x.parent≤4611686018427387903) (hpb:∀x∈bC b,x.parent≤4611686018427387903):∀x∈jT a b,x.Wf:=fun x hx=>by
 have l1:=kL a
 have l2:=kL b
 have sh:∀(k:Nat) (y:Nd),k≤1000000000→y.Wf→y.parent≤4611686018427387903→(aS k y).Wf:=fun k y hk hy hp=>by
  unfold aS
  split
  ·have:=hy.parent
   exact⟨hy.kind,by simp only[withParent];omega,hy.name,hy.value⟩
  ·exact hy
 unfold jT at hx
 rcases List.mem_append.1 hx with hx|hx
 ·rcases List.mem_append.1 hx with hx|hx
  ·rcases List.mem_append.1 hx with hx|hx
   ·exact splitA_wf ha x hx
   ·exact splitA_wf hb x hx
  ·obtain⟨y,hy,rfl⟩:=List.mem_map.1 hx
   exact sh _ y (by omega) (vV ha y hy) (hpa y hy)
 ·obtain⟨y,hy,rfl⟩:=List.mem_map.1 hx
  exact sh _ y (by omega) (vV hb y hy) (hpb y hy)
theorem set_last{α:Type}(d:List α)(q y:α):(d++[q]).set d.length y=d++[y]:=by
 rw[List.set_append_right _ _ (Nat.le_refl _),Nat.sub_self]
 rfl
theorem rMerge_con(v:Value)(ps:List Pt)(w:World)(hl:PartsAt w v ps)(hlen:ps.length≤1001)(hnl:∀p∈ps,p.nodes.length≤2000) :
  bV Tryz.prog 13 #[v] w (fun v' w'=>PartsAt w' v' (lN ps)∧Ext w w'∧∃O,Vec w' w.heap.size 41 4 v' (dX O)∧(∀y∈O,PO w' w.heap.size y.1 y.2)∧O.map (·.2)=lN ps):=by
 have hml:maxLen=9223372036854775807:=rfl
 have hl0:=hl
 obtain⟨o,c,rfl,h1,h2,h3,h4⟩:=hl0.open_
 obtain⟨rs,hsl,hpts⟩:=hl.ex
 have hrl:rs.length=ps.length:=hpts.1
 have hrow:∀i (hi:i<ps.length),gM w (rs[i]'(by omega)) ps[i]:=fun i hi=>hpts.2 i _ _ (List.getElem?_eq_getElem (by omega)) (List.getElem?_eq_getElem hi)
 have hcel:∀w',Ext w w'→∀i (hi:i<ps.length),∃a,o=some a∧Cells w' (a.add (i*4)) (rs[i]'(by omega)).cells:=fun w' hE i hi=>(hsl.el _ _ _ rfl).ext hE i _ (by rw[List.getElem?_map,List.getElem?_eq_getElem (by omega)];rfl)
 have hTg:∀p∈ps,TgOk p:=fun p hp=>by
  obtain⟨i,hi,rfl⟩:=List.mem_iff_getElem.1 hp
  exact(hrow i hi).wtarget
 refine enter aB Tryz.func13 (aV rfl) rfl rfl rfl ?_
 refine aH.mk (X:=Nat × Value × List (aR × Pt)) (fun x=>[(0,.slice o ps.length c),(3,x.2.1),(4,.int .i64 x.1)])
  (fun x w'=>Ext w w'∧x.1≤ps.length∧Vec w' w.heap.size 41 4 x.2.1 (dX x.2.2)∧(∀y∈x.2.2,PO w' w.heap.size y.1 y.2)∧x.2.2.map (·.2)=nO (ps.take x.1)∧x.2.2.length=x.1∧∀p∈ps.take x.1,aU p.nodes=true) (fun x=>ps.length-x.1) (0,.slice none 0 0,[])
  ⟨Ext.refl _,Nat.zero_le _,Vec.nil _ _ _ _,(fun y hy=>by cases hy),rfl,rfl,(fun p hp=>by simp at hp)⟩ ⟨rfl,rfl,rfl,trivial⟩ ?_
 rintro⟨i,vs,L⟩ w1 ⟨hE,hi,hv,hPO,hS,hLi,hok⟩
 simp only at hi hv hPO hS hLi hok ⊢
 refine Cond.dec (fun g1=>?_) (fun g1=>?_)
 ·have hil:i<ps.length:=by omega
  obtain⟨a,ha,hc⟩:=hcel w1 hE i hil
  have hp:=hrow i hil
  have hpn:=hnl _ (List.getElem_mem hil)
  subst ha
  refine Idx.mk a rfl (by omega) (by omega) ?_
  refine Load.here (hc.one (k:=3) rfl) ?_
  refine aA.mk _ (pO _ _ w1 (hp.nodes.ext hE) (by omega)) ?_
  rintro v w2 ⟨va,vr,rfl,-,-,-,hE2⟩
  have hE02:=hE.trans hE2
  refine Cond.neg (fun g2=>?_) (fun g2=>?_)
  ·have:lN ps=[]:=by
    unfold lN
    rw[if_neg]
    intro h
    have:=List.all_eq_true.1 h _ (List.getElem_mem hil)
    rw[g2]at this
    cases this
   rw[this]
   exact⟨⟨⟨[],eO.nil _ _,rfl,fun i r p h=>by simp at h⟩,by simp⟩,hE02,[],Vec.nil _ _ _ _,(fun y hy=>by cases hy),rfl⟩
  have hv2:=hv.ext hE2
  have hPO2:∀y∈L,PO w2 w.heap.size y.1 y.2:=fun y hy=>(hPO y hy).ext hE2
  obtain⟨so,sc,hvs,s1,s2,s3,s4,s5⟩:=hv2.shape
  rw[dL]at hvs s1
  subst hvs
  have hSl:(nO (ps.take i)).length=L.length:=by rw[←hS,List.length_map]
  have hSg:∀k (hk:k<L.length),(nO (ps.take i)).getD k pt0=(L[k]).2:=fun k hk=>by
   rw[←hS,List.getD_eq_getElem?_getD,List.getElem?_map,List.getElem?_eq_getElem hk]
   rfl
  refine aH.joinAt 2 (X:=Nat) (fun k=>[(0,.slice (some a) ps.length c),(3,.slice so L.length sc),(4,.int .i64 i),(8,.int .i64 k)])
   (fun k w'=>Ext w2 w'∧k≤L.length∧atF (nO (ps.take i)) ps[i] L.length=atF (nO (ps.take i)) ps[i] k) (fun k=>k) L.length
   (Y:=Unit) (fun _=>[(0,.slice (some a) ps.length c),(3,.slice so L.length sc),(4,.int .i64 i),(8,.int .i64 (atF (nO (ps.take i)) ps[i] L.length))]) (fun _ w'=>Ext w2 w') ⟨Ext.refl _,Nat.le_refl _,rfl⟩ ⟨rfl,rfl,rfl,rfl,trivial⟩ ?_ ?_
  ·rintro k w3 ⟨hE3,hk,hat⟩
   have hE23:=hE3.trans (Ext.drew w3)
   have hE03:=hE02.trans hE23
   obtain⟨a',ha',hcx⟩:=hcel _ hE03 i hil
   cases ha'
   refine aQ.mk aB mixed (allT 0 12++[(12,false),(13,true)]) [12] (by kernel_rfl) (fun w'=>w'=w3.drew) rfl ?_
   refine aK.bB (fun g3=>?_) (fun g3=>?_)
   ·obtain⟨m,rfl⟩:∃m,k=m+1:=⟨k-1,by omega⟩
    have hm:m<L.length:=by omega
    obtain⟨b,hb,hcy⟩:=s4.ext hE23 m (L[m]).1.cells (by unfold dX;rw[List.getElem?_map,List.getElem?_eq_getElem hm];rfl)
    subst hb
    have hy:=(hPO2 _ (List.getElem_mem hm)).ext hE23
    have hst:atF (nO (ps.take i)) ps[i] (m+1)=if sI ps[i] (L[m]).2 then atF (nO (ps.take i)) ps[i] m else m+1:=by
     simp only[atF]
     rw[hSg m hm]
    repeat (first|refine gA ?_|refine gB ?_|refine gC ?_)
    refine Idx.mk a rfl (by omega) (by omega) ?_
    repeat (first|refine gA ?_|refine gB ?_|refine gC ?_)
    refine Load.here (hcx.all' rfl) ?_
    repeat (first|refine gA ?_|refine gB ?_|refine gC ?_)
    refine Ar.aM (m) (by omega) (by omega) ?_
    repeat (first|refine gA ?_|refine gB ?_|refine gC ?_)
    refine Idx.mk b rfl (by omega) (by omega) ?_
    repeat (first|refine gA ?_|refine gB ?_|refine gC ?_)
    refine Load.here (hcy.all' rfl) ?_
    repeat (first|refine gA ?_|refine gB ?_|refine gC ?_)
    refine aA.mk _ (rAhead_con _ _ ps[i] (L[m]).2 w3.drew w3.drew (hp.ext hE03) hy.at_) ?_
    rintro v w4 ⟨rfl,hE4⟩
    repeat (first|refine gA ?_|refine gB ?_|refine gC ?_)
    refine Cond.mk (fun g4=>?_) (fun g4=>?_)
    ·refine Ar.aM (m) (by omega) (by omega) ?_
     refine⟨m,⟨hE23.trans hE4,by omega,?_⟩,by omega,rfl,rfl,rfl,rfl,trivial⟩
     rw[hat,hst,if_pos g4]
    ·refine⟨(),hE23.trans hE4,rfl,rfl,rfl,?_,trivial⟩
     rw[hat,hst,if_neg (by rw[g4];simp)]
     rfl
   ·repeat (first|refine gA ?_|refine gB ?_|refine gC ?_)
    refine Cond.no ?_
    refine⟨(),hE23,rfl,rfl,rfl,?_,trivial⟩
    have hk0:k=0:=by omega
    rw[hat,hk0]
    rfl
  rintro _ w3 hE3
  have hat:=atF_le (nO (ps.take i)) ps[i] L.length
  obtain⟨k,hk⟩:∃k,k=atF (nO (ps.take i)) ps[i] L.length:=⟨_,rfl⟩
  rw[←hk]at hat ⊢
  have hE03:=hE02.trans hE3
  have hv3:=hv2.ext hE3
  have hPO3:∀y∈L,PO w3 w.heap.size y.1 y.2:=fun y hy=>(hPO2 y hy).ext hE3
  have h1L:=one_L hPO3
  refine Need.mk ⟨by omega,by omega,by omega,by omega,by simp⟩ ?_
  rw[mQ so L.length sc k]
  refine bD.append fT w.heap.size [] ((dX L).take k) (Vec.nil _ _ _ _) (rD hv3.sl (by rw[dL];exact hat)) (fun y hy=>h1L y (List.mem_of_mem_take hy)) (by rw[List.length_take,dL];simp only[List.length_nil];omega) (by rw[List.length_take,dL];simp only[List.length_nil];omega) hE03.sz fun vn w4 hvn har4=>?_
  have hE34:Ext w3 w4:=har4.below (Nat.le_refl _) (fun b hb=>by cases hb)
  have hE04:=hE03.trans hE34
  have hv4:=hv3.ext hE34
  have hPO4:∀y∈L,PO w4 w.heap.size y.1 y.2:=fun y hy=>(hPO3 y hy).ext hE34
  have hneN:(Value.slice so L.length sc).ownBlock=none∨(Value.slice so L.length sc).ownBlock≠vn.ownBlock:=app_ne har4 hv3 (by
   rcases h:(Value.slice so L.length sc).ownBlock with _|b
   ·exact .inl rfl
   ·exact .inr (fun e=>by cases e))
  rw[List.nil_append]at hvn
  obtain⟨a',ha',hcx⟩:=hcel w4 hE04 i hil
  cases ha'
  refine Idx.mk a rfl (by omega) (by omega) ?_
  refine Load.here (hcx.all' rfl) ?_
  refine aA.mk _ (rCopied_con _ ps[i] w4 (hp.ext hE04) (by omega)) ?_
  rintro v w5 ⟨r',rfl,hPr,hE5⟩
  have hE05:=hE04.trans hE5
  obtain⟨on,cn,hrn,-,-,-,-,-⟩:=hPr.nodes.shape
  refine aG.mk _ _ (pU r' _ _ _ hrn _) ?_
  obtain⟨w6,hw6⟩:∃w',w'=w5.alloc (.cells r'.cells.toArray 41):=⟨_,rfl⟩
  rw[←hw6]
  have n6:bO w5 w5.heap.size r'.cells 41 w6:=⟨rfl,hw6⟩
  have hE06:=hE05.trans n6.ext
  have hvn6:=hvn.ext (hE5.trans n6.ext)
  have hv6:=hv4.ext (hE5.trans n6.ext)
  have hPr6:PO w6 w.heap.size r' ps[i]:=(hPr.ext n6.ext).mono hE04.sz
  have hPO6:∀y∈L,PO w6 w.heap.size y.1 y.2:=fun y hy=>(hPO4 y hy).ext (hE5.trans n6.ext)
  refine bD.append fT w.heap.size _ [r'.cells] hvn6 (aT n6) (fun y hy=>by
   rw[List.mem_singleton.1 hy]
   exact⟨rfl,hPr6.at_.cells_one⟩) (by rw[List.length_take,dL];simp only[List.length_singleton];omega) (by rw[List.length_take,dL];simp only[List.length_singleton];omega) hE06.sz fun vn2 w7 hvn7 har7=>?_
  have hE07:Ext w w7:=Below.trans hE06 (har7.below hE06.sz fun b hb=>(hvn6.ge hb).1)
  have hv7:=har7.vec hv6 hneN
  have hPr7:=hPr6.app har7 hvn6
  have hPO7:∀y∈L,PO w7 w.heap.size y.1 y.2:=fun y hy=>(hPO6 y hy).app har7 hvn6
  have h1L7:=one_L hPO7
  refine Need.mk ⟨by omega,by omega,by omega,by omega,by simp⟩ ?_
  have hback:=SlAt_back (k:=k) hv7.sl (by rw[dL];exact hat)
  refine bD.append fT w.heap.size _ ((dX L).drop k) hvn7 hback (fun y hy=>h1L7 y (List.mem_of_mem_drop hy)) (by rw[List.length_append,List.length_take,List.length_drop,dL];simp only[List.length_singleton];omega) (by rw[List.length_append,List.length_take,List.length_drop,dL];simp only[List.length_singleton];omega) hE07.sz fun vn3 w8 hvn8 har8=>?_
  have hE08:Ext w w8:=Below.trans hE07 (har8.below hE07.sz fun b hb=>(hvn7.ge hb).1)
  have hPr8:=hPr7.app har8 hvn7
  have hPO8:∀y∈L,PO w8 w.heap.size y.1 y.2:=fun y hy=>(hPO7 y hy).app har8 hvn7
  have hcl:dX (L.take k++[(r',ps[i])]++L.drop k)=(dX L).take k++[r'.cells]++(dX L).drop k:=by
   unfold dX
   rw[List.map_append,List.map_append,List.map_take,List.map_drop]
   rfl
  refine Ar.i64 (by omega) ?_
  refine⟨(i+1,vn3,L.take k++[(r',ps[i])]++L.drop k),⟨hE08,by simp only;omega,by simp only;rw[hcl];exact hvn8,fun y hy=>?_,?_,?_,fun p hp'=>?_⟩,by simp only;omega,rfl,rfl,rfl,trivial⟩
  ·simp only at hy
   rcases List.mem_append.1 hy with hy|hy
   ·rcases List.mem_append.1 hy with hy|hy
    ·exact hPO8 y (List.mem_of_mem_take hy)
    ·rw[List.mem_singleton.1 hy];exact hPr8
   ·exact hPO8 y (List.mem_of_mem_drop hy)
  ·simp only
   rw[List.map_append,List.map_append,List.map_take,List.map_drop,hS,List.take_succ_eq_append_getElem hil,sortM_snoc]
   unfold insM
   rw[hSl,←hk]
   rfl
  ·simp only[List.length_append,List.length_take,List.length_drop,List.length_singleton]
   omega
  ·simp only at hp'
   rw[List.take_succ_eq_append_getElem hil]at hp'
   rcases List.mem_append.1 hp' with hp'|hp'
   ·exact hok p hp'
   ·rw[List.mem_singleton.1 hp'];exact g2
 ·have hin:i=ps.length:=by omega
  rw[hin,List.take_length]at hS hok
  have hallok:(ps.all fun p=>aU p.nodes)=true:=List.all_eq_true.2 hok
  have href:lN ps=(L.map (·.2)).foldl stepM []:=by
   unfold lN
   rw[if_pos hallok,hS]
  obtain⟨so,sc,hvs,s1,s2,s3,s4,s5⟩:=hv.shape
  rw[dL]at hvs s1
  subst hvs
  have hcont:∀y∈L,Cont y.2.nodes (bL y.2.nodes) (bC y.2.nodes)∧y.2.nodes.length≤2000:=fun y hy=>by
   have hm:y.2∈ps:=by
    have:y.2∈nO ps:=by rw[←hS];exact List.mem_map.2 ⟨y,hy,rfl⟩
    rw[sortM_eq hTg]at this
    exact(lH ps).symm.mem this
   exact⟨xW (hok _ hm),hnl _ hm⟩
  refine aH.mk (X:=Nat × Value × List (aR × Pt)) (fun x=>[(3,.slice so L.length sc),(10,x.2.1),(11,.int .i64 x.1)])
   (fun x w'=>Ext w w'∧x.1≤L.length∧(Vec w' w.heap.size 41 4 (.slice so L.length sc) (dX L)∧∀y∈L,PO w' w.heap.size y.1 y.2)∧(Vec w' w.heap.size 41 4 x.2.1 (dX x.2.2)∧∀y∈x.2.2,PO w' w.heap.size y.1 y.2)∧
    x.2.2.map (·.2)=((L.map (·.2)).take x.1).foldl stepM []∧((Value.slice so L.length sc).ownBlock=none∨(Value.slice so L.length sc).ownBlock≠x.2.1.ownBlock)∧(∀q∈x.2.2,(∃A R,Cont q.2.nodes A R)∧q.2.nodes.length≤2000*x.1)∧x.2.2.length≤x.1) (fun x=>L.length-x.1) (0,.slice none 0 0,[])
   ⟨hE,Nat.zero_le _,⟨hv,hPO⟩,⟨Vec.nil _ _ _ _,(fun y hy=>by cases hy)⟩,rfl,(by
    rcases h:(Value.slice so L.length sc).ownBlock with _|b
    ·exact .inl rfl
    ·exact .inr (fun e=>by cases e)),(fun q hq=>by cases hq),Nat.le_refl _⟩ ⟨rfl,rfl,rfl,trivial⟩ ?_
  rintro⟨j,vo,O⟩ w2 ⟨hE2,hj,⟨hv2,hPL⟩,⟨hvo,hPO2⟩,hfold,hne,hq2,hOl⟩
  simp only at hj hvo hPO2 hfold hne hq2 hOl ⊢
  refine Cond.dec (fun g3=>?_) (fun g3=>?_)
  ·have hjl:j<L.length:=by omega
   have hLl:L.length=ps.length:=by omega
   obtain⟨a,ha,hc⟩:=hv2.sl.el _ _ _ rfl j (L[j]).1.cells (by unfold dX;rw[List.getElem?_map,List.getElem?_eq_getElem hjl];rfl)
   subst ha
   have hPx:=hPL _ (List.getElem_mem hjl)
   have hCx:=hcont _ (List.getElem_mem hjl)
   have hfs:((L.map (·.2)).take (j+1)).foldl stepM []=stepM (O.map (·.2)) (L[j]).2:=by
    rw[List.take_succ_eq_append_getElem (by rw[List.length_map];exact hjl),foldS_snoc,hfold]
    simp
   generalize hx:L[j]=x at *
   obtain⟨oo,oc,hvoe,u1,u2,u3,u4,u5⟩:=hvo.shape
   rw[dL]at hvoe u1
   subst hvoe
   refine Idx.mk a rfl (by omega) (by omega) ?_
   refine Load.here (hc.all' rfl) ?_
   refine aG.alloc _ [.int .u8 0,.int .i64 0,.string ⟨#[]⟩,.slice none 0 0] jI rfl fun b12 w3 n3=>?_
   refine bA.store b12 0 _ x.1.cells 41 rfl rfl (by kernel_rfl) n3.blk (by simp[aR.cells]) hPx.at_.cells_one fun w4 hU4=>?_
   have n4:=n3.upd hU4
   have hE4:Ext w2 w4:=n4.ext
   have hB12:bQ w4 b12 x.1.cells 41:=n4.blk
   refine Ar.i64 (by omega) ?_
   have hk1:(x.1).cells[0]? = some (.int .u8 x.2.kind):=by rw[←hPx.kind];rfl
   have ht1:(x.1).cells[1]? = some (.int .i64 x.2.target):=by rw[←hPx.target];rfl
   have hE5:Ext w2 w4.drew:=hE4.trans (Ext.drew w4)
   have hB12':bQ w4.drew b12 x.1.cells 41:=hB12.ext (Ext.drew w4)
   refine aQ.join aB mixed (allT 0 25++[(25,false),(26,true),(27,true),(28,true),(29,true),(30,true),(31,true),(32,true)]) [] (by kernel_rfl) (fun w'=>w'=w4.drew) rfl
    (X:=Bool) (fun b=>[(3,.slice (some a) L.length sc),(10,.slice oo O.length oc),(11,.int .i64 j),(12,.pointer (some ⟨b12,0,none⟩)),(13,.int .i64 ((O.length:Int)-1)),(113,.bool b)]) (fun b w'=>b=appB O x.2∧w'=w4.drew) ?_ ?_
   ·refine aK.bH (fun g4=>?_) (fun g4=>?_)
    rotate_left
    ·have hO0:O=[]:=List.eq_nil_of_length_eq_zero (by omega)
     repeat (first|refine gA ?_|refine gB ?_|refine gC ?_)
     exact⟨true,⟨by rw[hO0];rfl,rfl⟩,rfl,rfl,rfl,rfl,rfl,rfl,trivial⟩
    obtain⟨d,q,hdq⟩:∃d q,O=d++[q]:=by
     rcases List.eq_nil_or_concat O with h|⟨d,q,h⟩
     ·rw[h]at g4;simp at g4
     ·exact⟨d,q,by rw[h];simp⟩
    have hOd:O.length=d.length+1:=by rw[hdq];simp
    have hPq:=hPO2 q (by rw[hdq];simp)
    obtain⟨b,hb,hcq⟩:=u4.ext hE5 d.length q.1.cells (by unfold dX;rw[hdq,List.map_append,List.getElem?_append_right (by simp)];simp)
    subst hb
    have hk2:(q.1).cells[0]? = some (.int .u8 q.2.kind):=by rw[←hPq.kind];rfl
    have ht2:(q.1).cells[1]? = some (.int .i64 q.2.target):=by rw[←hPq.target];rfl
    have ei:(O.length:Int)-1=(d.length:Int):=by omega
    have happ:appB O x.2=(decide (q.2.kind≠x.2.kind)||(decide (q.2.target≠x.2.target)||(!insR x.2.kind&&decide (x.2.kind≠10)))):=by
     unfold appB
     rw[hdq,List.getLast?_concat]
    have hwk:=hPx.wkind
    rw[ei]
    repeat (first|refine gA ?_|refine gB ?_|refine gC ?_)
    refine Idx.mk b rfl (by omega) (by omega) ?_
    repeat (first|refine gA ?_|refine gB ?_|refine gC ?_)
    refine Load.here (hcq.one (k:=0) hk2) ?_
    repeat (first|refine gA ?_|refine gB ?_|refine gC ?_)
    refine Load.here (hB12'.cells.one (k:=0) hk1) ?_
    repeat (first|refine gA ?_|refine gB ?_|refine gC ?_)
    refine aK.bP (fun g5=>?_) (fun g5=>?_)
    rotate_left
    ·repeat (first|refine gA ?_|refine gB ?_|refine gC ?_)
     exact⟨true,⟨by rw[happ,decide_eq_true g5];rfl,rfl⟩,rfl,rfl,rfl,rfl,rfl,rfl,trivial⟩
    repeat (first|refine gA ?_|refine gB ?_|refine gC ?_)
    refine Idx.mk b rfl (by omega) (by omega) ?_
    repeat (first|refine gA ?_|refine gB ?_|refine gC ?_)
    refine Load.here (hcq.one (k:=1) ht2) ?_
    repeat (first|refine gA ?_|refine gB ?_|refine gC ?_)
    refine Load.here (hB12'.cells.one (k:=1) ht1) ?_
    repeat (first|refine gA ?_|refine gB ?_|refine gC ?_)
    refine aK.bP (fun g6=>?_) (fun g6=>?_)
    rotate_left
    ·repeat (first|refine gA ?_|refine gB ?_|refine gC ?_)
     exact⟨true,⟨by rw[happ,decide_eq_true g6,Bool.true_or,Bool.or_true],rfl⟩,rfl,rfl,rfl,rfl,rfl,rfl,trivial⟩
    repeat (first|refine gA ?_|refine gB ?_|refine gC ?_)
    refine Load.here (hB12'.cells.one (k:=0) hk1) ?_
    repeat (first|refine gA ?_|refine gB ?_|refine gC ?_)
    refine aA.mk _ (yN _ w4.drew) ?_
    rintro v w5 ⟨hv5,hw5⟩
    have hw5':=hw5.symm
    subst hv5 hw5'
    refine Need.mk rfl ?_
    repeat (first|refine gA ?_|refine gB ?_|refine gC ?_)
    have happ2:appB O x.2=(!insR x.2.kind&&decide (x.2.kind≠10)):=by
     rw[happ,decide_eq_false (fun h=>h g5),decide_eq_false (fun h=>h g6),Bool.false_or,Bool.false_or]
    refine aK.yF (fun g7=>?_) (fun g7=>?_)
    rotate_left
    ·rw[g7]
     repeat (first|refine gA ?_|refine gB ?_|refine gC ?_)
     exact⟨false,⟨by rw[happ2,g7];rfl,rfl⟩,rfl,rfl,rfl,rfl,rfl,rfl,trivial⟩
    rw[g7]
    repeat (first|refine gA ?_|refine gB ?_|refine gC ?_)
    refine Load.here (hB12'.cells.one (k:=0) hk1) ?_
    repeat (first|refine gA ?_|refine gB ?_|refine gC ?_)
    exact⟨!decide (x.2.kind=10),⟨by rw[happ2,g7,Bool.not_false,Bool.true_and];by_cases e:x.2.kind=10<;>simp[e],rfl⟩,rfl,rfl,rfl,rfl,rfl,rfl,trivial⟩
   rintro b w5 ⟨hb,hw5⟩
   subst hw5
   refine Cond.mk (fun g4=>?_) (fun g4=>?_)
   ·rw[g4]at hb
    have hst:=step_app (x:=x) hb.symm
    obtain⟨on,cn,hrn,-,-,-,-,-⟩:=hPx.nodes.shape
    refine Load.here (hB12'.cells.all' rfl) ?_
    refine aG.mk _ _ (pU x.1 _ _ _ hrn _) ?_
    obtain⟨w5,hw5⟩:∃w',w'=w4.drew:=⟨_,rfl⟩
    rw[←hw5]at hE5 hB12' ⊢
    obtain⟨w6,hw6⟩:∃w',w'=w5.alloc (.cells x.1.cells.toArray 41):=⟨_,rfl⟩
    rw[←hw6]
    have n6:bO w5 w5.heap.size x.1.cells 41 w6:=⟨rfl,hw6⟩
    have hE6:=hE5.trans n6.ext
    have hE06:=hE2.trans hE6
    have hvo6:=hvo.ext hE6
    refine bD.append fT w.heap.size (dX O) [x.1.cells] hvo6 (aT n6) (fun y hy=>by
     rw[List.mem_singleton.1 hy]
     exact⟨rfl,hPx.at_.cells_one⟩) (by rw[dL];simp only[List.length_singleton];omega) (by rw[dL];simp only[List.length_singleton];omega) hE06.sz fun vo2 w7 hvo7 har7=>?_
    have hE07:Ext w w7:=Below.trans hE06 (har7.below hE06.sz fun b hb=>(hvo6.ge hb).1)
    have hv7:=har7.vec (hv2.ext hE6) hne
    have hne7:=app_ne har7 (hv2.ext hE6) hne
    have hPL7:∀y∈L,PO w7 w.heap.size y.1 y.2:=fun y hy=>((hPL y hy).ext hE6).app har7 hvo6
    have hPO7:∀y∈O,PO w7 w.heap.size y.1 y.2:=fun y hy=>((hPO2 y hy).ext hE6).app har7 hvo6
    have hPx7:=(hPx.ext hE6).app har7 hvo6
    have hcl:dX (O++[x])=dX O++[x.1.cells]:=by unfold dX;rw[List.map_append];rfl
    refine Ar.i64 (by omega) ?_
    refine⟨(j+1,vo2,O++[x]),⟨hE07,by simp only;omega,⟨hv7,hPL7⟩,⟨by simp only;rw[hcl];exact hvo7,fun y hy=>?_⟩,?_,hne7,fun y hy=>?_,?_⟩,by simp only;omega,rfl,rfl,rfl,trivial⟩
    ·rcases List.mem_append.1 hy with hy|hy
     ·exact hPO7 y hy
     ·rw[List.mem_singleton.1 hy];exact hPx7
    ·simp only
     rw[hfs,hst]
    ·simp only at hy ⊢
     rcases List.mem_append.1 hy with hy|hy
     ·exact⟨(hq2 y hy).1,by have:=(hq2 y hy).2;omega⟩
     ·rw[List.mem_singleton.1 hy];exact⟨⟨_,_,hCx.1⟩,by have:=hCx.2;omega⟩
    ·simp only[List.length_append,List.length_singleton];omega
   ·rw[g4]at hb
    obtain⟨d,q,hdq⟩:∃d q,O=d++[q]:=by
     rcases List.eq_nil_or_concat O with h|⟨d,q,h⟩
     ·rw[h]at hb;cases hb
     ·exact⟨d,q,by rw[h];simp⟩
    subst hdq
    have hOd:(d++[q]).length=d.length+1:=by simp
    have hst:=step_join hb.symm
    have hPq:=hPO2 q (by simp)
    have ei:((d++[q]).length:Int)-1=(d.length:Int):=by omega
    rw[ei]
    have hqC:=hq2 q (by simp)
    refine Load.here (hB12'.cells.one (k:=0) hk1) ?_
    refine Cond.dH (fun g5=>?_) (fun g5=>?_)
    rotate_left
    ·refine Ar.i64 (by omega) ?_
     refine⟨(j+1,.slice oo (d++[q]).length oc,d++[q]),⟨hE2.trans hE5,by simp only;omega,⟨hv2.ext hE5,fun y hy=>(hPL y hy).ext hE5⟩,⟨hvo.ext hE5,fun y hy=>(hPO2 y hy).ext hE5⟩,?_,hne,fun y hy=>⟨(hq2 y hy).1,by have:=(hq2 y hy).2;simp only;omega⟩,by simp only;omega⟩,by simp only;omega,rfl,rfl,rfl,trivial⟩
     simp only
     rw[hfs,hst,if_neg (by simpa using g5)]
    ·rw[if_pos g5]at hst
     obtain⟨w5,hw5⟩:∃w',w'=w4.drew:=⟨_,rfl⟩
     rw[←hw5]at hE5 hB12' ⊢
     have hE55:=hE5.trans (Ext.drew w5)
     obtain⟨b,hb',hcq⟩:=u4.ext hE55 d.length q.1.cells (by unfold dX;rw[List.map_append,List.getElem?_append_right (by simp)];simp)
     subst hb'
     refine aQ.mk aB mixed [(0,true),(1,true),(2,true),(3,true),(4,true),(5,true),(6,true),(7,true),(8,true),(9,false),(10,true),(11,true),(12,false)] [9,12] (by kernel_rfl) (fun w'=>w'=w5.drew) rfl ?_
     refine Idx.mk b rfl (by omega) (by omega) ?_
     refine Load.here (hcq.one (k:=3) rfl) ?_
     refine Load.here ((hB12'.ext (Ext.drew w5)).cells.one (k:=3) rfl) ?_
     obtain⟨A,R,hCq⟩:=hqC.1
     have hql:=hqC.2
     have hxl:=hCx.2
     have hpq:∀z∈bC q.2.nodes,z.parent≤4611686018427387903:=fun z hz=>by
      have hz2:=hz
      rw[hCq.split.2]at hz2
      have h1:=(hCq.par z hz2).2
      have h2:=tC q.2.nodes
      rw[hCq.split.2]at h2
      omega
     have hpx:∀z∈bC x.2.nodes,z.parent≤4611686018427387903:=fun z hz=>by
      have h1:=(hCx.1.par z hz).2
      have h2:=tC x.2.nodes
      omega
     have hPq5:=hPq.ext hE55
     have hPx5:=hPx.ext hE55
     refine aA.mk _ (rJoined_con q.1.nodes x.1.nodes q.2.nodes x.2.nodes w5.drew hPq5.at_.nodes hPx5.at_.nodes (by omega) (by omega) hpq hpx) ?_
     rintro vj w6 ⟨hvj,hE6⟩
     have hE56:=hE55.trans hE6
     have hE06:=hE2.trans hE56
     have hvo6:=hvo.ext hE56
     refine Idx.mk b rfl (by omega) (by omega) ?_
     obtain⟨g,cap,cur,hge,hgB,hgl,hBg,hcl,hown,hput⟩:=hvo6.put (k:=d.length) (off:=3) (by rw[dL];omega) [vj] (by simp)
     simp only[Value.slice.injEq,Option.some.injEq]at hge
     obtain⟨hbe,-,-⟩:=hge
     obtain⟨oj,cj,hje,-,-,-,-,-⟩:=hvj.shape
     refine bA.store g (d.length*4+3) cur [vj] 41 (by rw[hbe,bW,bW];simp) (by rw[hje];rfl) (by kernel_rfl) hBg (by simpa using hcl) (fun u hu=>by rw[List.mem_singleton.1 hu,hje];rfl) fun w7 hU=>?_
     have hE57:Ext w2 w6:=hE56
     have hvo7:=hput w7 hU
     have hB7:Below w.heap.size w w7:=Below.trans hE06 (hU.below hgB)
     have hvs:(Value.slice (some a) L.length sc).ownBlock≠some g:=fun e=>by
      rcases hne with h|h
      ·rw[h]at e;cases e
      ·exact h (by rw[e,←hown])
     have hv7:=(hv2.ext hE56).upd hU hvs
     have hng:∀(r:aR) (p:Pt),PO w6 w.heap.size r p→r.nodes.ownBlock≠some g:=fun r p hP e=>by
      rcases iT hP.nodes hvo6 (by decide)with h|h
      ·rw[h]at e;cases e
      ·exact h (by rw[e,←hown])
     have hPL7:∀y∈L,PO w7 w.heap.size y.1 y.2:=fun y hy=>((hPL y hy).ext hE56).upd hU (hng _ _ ((hPL y hy).ext hE56))
     have hjng:vj.ownBlock≠some g:=fun e=>by
      have h1:=(hvj.ge e).1
      have h2:=(hvo.ge hown).2
      have h3:=hE55.sz
      omega
     have hjl2:=joinedP_len q.2.nodes x.2.nodes
     have hPj:PO w7 w.heap.size ⟨q.1.kind,q.1.target,q.1.text,vj⟩ { q.2 with nodes:=jT q.2.nodes x.2.nodes }:=by
      refine⟨hPq.kind,hPq.target,hPq.text,?_,?_,?_,hPq.wkind,hPq.wtarget,hPq.wtext⟩
      ·exact(hvj.upd hU hjng).dJ (by have:=(hE2.trans hE55).sz;omega)
      ·exact joinedP_wf hPq.wf hPx.wf (by omega) (by omega) hpq hpx
      ·simp only;omega
     have hcs:(dX (d++[q])).set d.length (splice ((dX (d++[q]))[d.length]'(by rw[dL];simp)) 3 [vj])=dX (d++[((⟨q.1.kind,q.1.target,q.1.text,vj⟩:aR),({ q.2 with nodes:=jT q.2.nodes x.2.nodes }:Pt))]):=by
      have e0:dX (d++[q])=dX d++[q.1.cells]:=by unfold dX;rw[List.map_append];rfl
      have e1:(dX (d++[q]))[d.length]'(by rw[dL];simp)=q.1.cells:=by
       unfold dX
       rw[List.getElem_map,List.getElem_append_right (Nat.le_refl _)]
       simp
      rw[e1,e0]
      have e2:=set_last (dX d) q.1.cells (splice q.1.cells 3 [vj])
      rw[dL]at e2
      rw[e2]
      unfold dX
      rw[List.map_append]
      rfl
     rw[hcs]at hvo7
     refine Ar.i64 (by omega) ?_
     refine⟨(j+1,.slice (some b) (d++[q]).length oc,d++[((⟨q.1.kind,q.1.target,q.1.text,vj⟩:aR),({ q.2 with nodes:=jT q.2.nodes x.2.nodes }:Pt))]),⟨hB7,by simp only;omega,⟨hv7,hPL7⟩,⟨hvo7,fun y hy=>?_⟩,?_,hne,fun y hy=>?_,?_⟩,by simp only;omega,rfl,rfl,rfl,trivial⟩
     ·simp only at hy
      rcases List.mem_append.1 hy with hy|hy
      ·have h0:=(hPO2 y (List.mem_append.2 (.inl hy))).ext hE56
       exact h0.upd hU (hng _ _ h0)
      ·rw[List.mem_singleton.1 hy];exact hPj
     ·simp only
      rw[hfs,hst,List.map_append]
      rfl
     ·simp only at hy ⊢
      rcases List.mem_append.1 hy with hy|hy
      ·have:=hq2 y (List.mem_append.2 (.inl hy))
       exact⟨this.1,by omega⟩
      ·rw[List.mem_singleton.1 hy]
       exact⟨⟨_,_,hCq.joined hCx.1⟩,by simp only;omega⟩
     ·simp only[List.length_append,List.length_singleton]at hOl ⊢
      omega
  ·have hjn:j=L.length:=by omega
   rw[hjn,List.take_of_length_le (by rw[List.length_map];exact Nat.le_refl _)]at hfold
   rw[href,←hfold]
   exact⟨parts_L hvo hPO2 (by omega),hE2,O,hvo,hPO2,rfl⟩
def markV(k i:Nat):Int:=1000003*((k:Int)+7)+i
theorem mark_con(k i:Nat)(w:World)(hk:k≤1000000)(hi:i≤1000000000000):bV Tryz.prog 76 #[.int .i64 k,.int .i64 i] w (fun v w'=>v=.int .i64 (markV k i)∧w'=w):=by
 refine enter aB Tryz.func76 (aV rfl) rfl rfl rfl ?_
 refine Ar.i64 (by omega) ?_
 refine Ar.i64 (by omega) ?_
 refine Ar.i64 (by omega) ?_
 exact And.intro rfl rfl
def mkN(k i:Nat):Nd:=⟨0,⟨#[]⟩,⟨#[]⟩,markV k i⟩
def mO(k n:Nat):List Nd:=(List.range n).map (mkN k)
theorem pE(k n:Nat):(mO k n).length=n:=by simp[mO]
theorem marksN_get(k n i:Nat)(h:i<n):(mO k n)[i]? = some (mkN k i):=by simp[mO,h]
theorem marksN_succ(k n:Nat):mO k (n+1)=mO k n++[mkN k n]:=by simp[mO,List.range_succ]
theorem run_build50(p:Int)(w:World):(Instr.build 50 #[(3,.int .i64 p)]).run Tryz.prog w=.ok (.agg #[.int .u8 0,.string ⟨#[]⟩,.string ⟨#[]⟩,.int .i64 p]) w:=by kernel_rfl
theorem fO(k i:Nat)(w:World)(hk:k≤1000000)(hi:i≤1000000000000):bV Tryz.prog 116 #[.int .i64 k,.int .i64 i] w (fun v w'=>v=.agg (mkN k i).cells.toArray∧Ext w w'):=by
 refine enter aB Tryz.func116 (aV rfl) rfl rfl rfl ?_
 refine aG.alloc _ [.int .u8 0,.string ⟨#[]⟩,.string ⟨#[]⟩,.int .i64 0] mU rfl fun b w1 n1=>?_
 refine aA.mk _ (mark_con k i w1 hk hi) ?_
 rintro v w2 ⟨hv,hw⟩
 have hw':=hw.symm
 subst hv hw'
 refine aG.mk _ _ (run_build50 _ _) ?_
 refine bA.store b 0 _ (mkN k i).cells 50 rfl rfl (by kernel_rfl) n1.blk (by simp[Nd.cells]) (Nd.cells_one _) fun w3 hU=>?_
 have n3:=n1.upd hU
 have hb:bQ w3 b (mkN k i).cells 50:=n3.blk
 refine Load.here (hb.cells.all' rfl) ?_
 exact And.intro rfl n3.ext
structure iU(w:World)(B:Nat)(v:Value)(l:List Nd):Prop where
 ex:∃o c,v=.slice o l.length c∧Vec w B 50 4 (.slice o (l.length+12) c) ((l++mO 1 12).map Nd.cells)
 wf:∀n∈l,n.Wf
 len:l.length≤2932031007402
theorem iU.ext{w w':World}{B:Nat}{v:Value}{l:List Nd}(h:iU w B v l)(hE:Ext w w'):iU w' B v l:=by
 obtain⟨o,c,e,hv⟩:=h.ex
 exact⟨⟨o,c,e,hv.ext hE⟩,h.wf,h.len⟩
theorem iU.nodes{w:World}{B:Nat}{v:Value}{l:List Nd}(h:iU w B v l):aJ w v l:=by
 obtain⟨o,c,rfl,hv⟩:=h.ex
 refine⟨?_,h.wf,h.len⟩
 have:=rD (k:=l.length) hv.sl (by simp)
 rwa [List.map_append,List.take_left' (by simp)]at this
theorem qN(v:Value)(l:List Nd)(w:World)(hl:aJ w v l)(hlen:l.length≤1000000):bV Tryz.prog 64 #[v] w (fun v' w'=>iU w' w.heap.size v' l∧Ext w w'):=by
 have hml:maxLen=9223372036854775807:=rfl
 have hl0:=hl
 obtain⟨o,c,rfl,h1,h2,h3,-⟩:=hl0.open_
 refine enter aB Tryz.func64 (aV rfl) rfl rfl rfl ?_
 refine Ar.aM (l.length+12) (by omega) (by omega) ?_
 refine aG.make0 bI w.heap.size (Nat.le_refl _) (by omega) (by omega) fun v0 w1 hv0 hE1 hf0=>?_
 refine bD.append bI w.heap.size [] (l.map Nd.cells) hv0 (hl.sl.ext hE1) (nd_one l) (by rw[List.length_map];simp only[List.length_nil];omega) (by rw[List.length_map];simp only[List.length_nil];omega) hE1.sz fun v2 w2 hv2 har2=>?_
 have hE2:Ext w w2:=Below.trans hE1 (har2.below hE1.sz fun b hb=>(hv0.ge hb).1)
 rw[List.nil_append]at hv2
 refine aH.mk (X:=Nat × Value) (fun x=>[(0,.slice o l.length c),(3,x.2),(4,.int .i64 x.1)])
  (fun x w'=>Ext w w'∧x.1≤12∧Vec w' w.heap.size 50 4 x.2 ((l++mO 1 x.1).map Nd.cells)) (fun x=>12-x.1) (0,v2)
  ⟨hE2,Nat.zero_le _,by simpa [mO] using hv2⟩ ⟨rfl,rfl,rfl,trivial⟩ ?_
 rintro⟨k,vk⟩ w3 ⟨hE3,hk,hvk⟩
 simp only at hk hvk ⊢
 refine Cond.dec (fun g1=>?_) (fun g1=>?_)
 ·have hk12:k<12:=by omega
  refine aA.mk _ (fO 1 k w3 (by omega) (by omega)) ?_
  rintro v4 w4 ⟨rfl,hE4⟩
  refine aG.mk _ _ (aY _ _ _ _ _) ?_
  obtain⟨w5,hw5⟩:∃w',w'=w4.alloc (.cells (mkN 1 k).cells.toArray 50):=⟨_,rfl⟩
  have n5:bO w4 w4.heap.size (mkN 1 k).cells 50 w5:=⟨rfl,hw5⟩
  have hE5:=hE3.trans (hE4.trans n5.ext)
  refine(show _ from ?_:bD _ _ w5 _) |> fun h=>by rw[hw5]at h;exact h
  refine bD.append bI w.heap.size _ [(mkN 1 k).cells] (hvk.ext (hE4.trans n5.ext)) (aT n5) (fun y hy=>by
   rw[List.mem_singleton.1 hy]
   exact⟨rfl,Nd.cells_one _⟩) (by simp[pE];omega) (by simp[pE];omega) hE5.sz fun v6 w6 hv6 har6=>?_
  have hE6:Ext w w6:=Below.trans hE5 (har6.below hE5.sz fun b hb=>((hvk.ext (hE4.trans n5.ext)).ge hb).1)
  refine Ar.aM (k+1) (by omega) (by omega) ?_
  refine⟨(k+1,v6),⟨hE6,by simp only;omega,?_⟩,by simp only;omega,rfl,rfl,rfl,trivial⟩
  simp only
  rw[marksN_succ,←List.append_assoc,List.map_append]
  exact hv6
 ·have hk12:k=12:=by omega
  subst hk12
  obtain⟨ov,cv,rfl,e1,e2,e3,e4,e5⟩:=hvk.shape
  simp only[List.length_map,List.length_append,pE]at hvk e1 ⊢
  refine Need.mk ⟨by omega,by omega,by omega,by omega,by simp⟩ ?_
  rw[mQ ov (l.length+12) cv l.length]
  exact And.intro ⟨⟨ov,cv,rfl,hvk⟩,hl.wf,hl.len⟩ hE3
theorem iU.get{w:World}{B:Nat}{o:Option Addr}{n c:Nat}{l:List Nd}(h:iU w B (.slice o n c) l):n=l.length∧l.length+12≤c∧c≤9223372036854775807∧∃a,o=some a∧∀w',Ext w w'→∀i,i<l.length+12→Cells w' (a.add (i*4)) ((l++mO 1 12)[i]?.getD (mkN 0 0)).cells:=by
 have hml:maxLen=9223372036854775807:=rfl
 obtain⟨o',c',e,hv⟩:=h.ex
 simp only[Value.slice.injEq]at e
 obtain⟨rfl,rfl,rfl⟩:=e
 obtain⟨o2,c2,e,k1,k2,k3,k4,-⟩:=hv.shape
 simp only[Value.slice.injEq]at e
 obtain⟨rfl,e2,rfl⟩:=e
 rw[←e2]at k1
 refine⟨rfl,k1,by omega,?_⟩
 rcases o with _|a
 ·have:=k3 rfl;omega
 refine⟨a,rfl,fun w' hE i hi=>?_⟩
 have hi':i<(l++mO 1 12).length:=by rw[List.length_append,pE];exact hi
 obtain⟨a',e,hc⟩:=k4.ext hE i ((l++mO 1 12)[i]).cells (by rw[List.getElem?_map,List.getElem?_eq_getElem hi'];rfl)
 cases e
 rw[List.getElem?_eq_getElem hi']
 exact hc
theorem sZ(o:Option Addr)(c k:Nat):Value.slice (if(c:Int).toNat=(0:Int).toNat then o else o.map (fun x=>x.add ((0:Int).toNat*4))) ((k:Int).toNat-(0:Int).toNat) ((c:Int).toNat-(0:Int).toNat)=.slice o k c:=mQ o 0 c k
theorem qL(v v':Value)(l:List Nd)(B:Nat)(w:World)(h:iU w B v l)(hl:aJ w v' l)(hlen:l.length≤1000000):bV Tryz.prog 65 #[v,v'] w (fun r w'=>r=.bool true∧Ext w w'):=by
 have hml:maxLen=9223372036854775807:=rfl
 have hh:=h
 obtain⟨o,c,rfl,-⟩:=hh.ex
 obtain⟨-,k1,k2,a,rfl,hc⟩:=h.get
 have hl0:=hl
 obtain⟨o2,c2,rfl,h1,h2,h3,hd⟩:=hl0.open_
 refine enter aB Tryz.func65 (aV rfl) rfl rfl rfl ?_
 refine Cond.dH (fun g1=>absurd rfl g1) (fun g1=>?_)
 refine Ar.aM (l.length+12) (by omega) (by omega) ?_
 refine Need.mk ⟨by omega,by omega,by omega,by omega,by simp⟩ ?_
 rw[sZ (some a) c (l.length+12)]
 refine aH.mk (X:=Nat) (fun i=>[(1,.slice o2 l.length c2),(5,.slice (some a) (l.length+12) c),(6,.int .i64 i)])
  (fun i w'=>Ext w w'∧i≤l.length+12) (fun i=>l.length+12-i) 0 ⟨Ext.refl _,Nat.zero_le _⟩ ⟨rfl,rfl,rfl,trivial⟩ ?_
 rintro i w1 ⟨hE1,hi⟩
 refine Cond.dec (fun g2=>?_) (fun g2=>?_)
 ·have hil:i<l.length+12:=by omega
  refine aQ.mk aB mixed (allT 0 30++[(30,false),(31,true),(32,true),(33,true),(34,true)]) [] (by kernel_rfl) (fun w'=>Ext w1.drew w') (Ext.refl _) ?_
  have hE2:Ext w w1.drew:=hE1.trans (Ext.drew w1)
  refine aK.bB (fun g3=>?_) (fun g3=>?_)
  ·have hin:i<l.length:=by omega
   have hci:=hc
   obtain⟨a2,ha2,-⟩:=hd _ hE2 i hin
   subst ha2
   repeat (first|refine gA ?_|refine gB ?_|refine gC ?_)
   refine Idx.mk a rfl (by omega) (by omega) ?_
   repeat (first|refine gA ?_|refine gB ?_|refine gC ?_)
   refine Load.mk (.agg (l[i]).cells.toArray) (fun w' hE=>by
    have:=hc w' (hE2.trans hE) i hil
    rw[List.getElem?_append_left hin,List.getElem?_eq_getElem hin]at this
    exact this.all' rfl) ?_
   repeat (first|refine gA ?_|refine gB ?_|refine gC ?_)
   refine Idx.mk a2 rfl (by omega) (by omega) ?_
   repeat (first|refine gA ?_|refine gB ?_|refine gC ?_)
   refine Load.mk (.agg (l[i]).cells.toArray) (fun w' hE=>by
    obtain⟨a3,e,hx⟩:=hd w' (hE2.trans hE) i hin
    cases e
    exact hx.all' rfl) ?_
   repeat (first|refine gA ?_|refine gB ?_|refine gC ?_)
   refine sG.mk (.bool true) (fun w' _=>by rw[kJ,decide_eq_true rfl]) ?_
   repeat (first|refine gA ?_|refine gB ?_|refine gC ?_)
   refine aK.bB (fun g4=>absurd g4 (by omega)) (fun g4=>?_)
   repeat (first|refine gA ?_|refine gB ?_|refine gC ?_)
   refine Cond.no ?_
   refine Ar.aM (i+1) (by omega) (by omega) ?_
   exact⟨i+1,⟨hE2,by omega⟩,by omega,rfl,rfl,rfl,trivial⟩
  ·obtain⟨m,hm⟩:∃m,i=l.length+m:=⟨i-l.length,by omega⟩
   have hm12:m<12:=by omega
   have hci:∀w',Ext w w'→Cells w' (a.add (i*4)) (mkN 1 m).cells:=fun w' hE=>by
    have:=hc w' hE i hil
    rw[List.getElem?_append_right (by omega),hm,Nat.add_sub_cancel_left,marksN_get _ _ _ hm12]at this
    rw[hm]
    exact this
   repeat (first|refine gA ?_|refine gB ?_|refine gC ?_)
   refine aK.bB (fun g4=>?_) (fun g4=>absurd (by omega) g4)
   repeat (first|refine gA ?_|refine gB ?_|refine gC ?_)
   refine Idx.mk a rfl (by omega) (by omega) ?_
   repeat (first|refine gA ?_|refine gB ?_|refine gC ?_)
   refine Load.mk (.agg (mkN 1 m).cells.toArray) (fun w' hE=>(hci w' (hE2.trans hE)).all' rfl) ?_
   repeat (first|refine gA ?_|refine gB ?_|refine gC ?_)
   refine Ar.aM (m) (by omega) (by omega) ?_
   repeat (first|refine gA ?_|refine gB ?_|refine gC ?_)
   refine aA.mk _ (fO 1 m w1.drew (by omega) (by omega)) ?_
   rintro v4 w4 ⟨rfl,hE4⟩
   repeat (first|refine gA ?_|refine gB ?_|refine gC ?_)
   refine Need.mk hE4 ?_
   repeat (first|refine gA ?_|refine gB ?_|refine gC ?_)
   refine sG.mk (.bool true) (fun w' _=>by rw[kJ,decide_eq_true rfl]) ?_
   repeat (first|refine gA ?_|refine gB ?_|refine gC ?_)
   refine Cond.no ?_
   refine Ar.aM (i+1) (by omega) (by omega) ?_
   exact⟨i+1,⟨hE2.trans hE4,by omega⟩,by omega,rfl,rfl,rfl,trivial⟩
 ·exact And.intro rfl hE1
theorem vZ(v:Value)(l:List Nd)(B:Nat)(w:World)(h:iU w B v l)(hlen:l.length≤1000000):bV Tryz.prog 66 #[v] w (fun r w'=>Ch (fun k=>v.ownBlock=some k) w w'):=by
 have hml:maxLen=9223372036854775807:=rfl
 have hh:=h
 obtain⟨o,c,rfl,hv⟩:=hh.ex
 obtain⟨-,k1,k2,a,rfl,hc⟩:=h.get
 refine enter aB Tryz.func66 (aV rfl) rfl rfl rfl ?_
 refine Ar.aM (l.length+12) (by omega) (by omega) ?_
 refine Need.mk ⟨by omega,by omega,by omega,by omega,by simp⟩ ?_
 rw[sZ (some a) c (l.length+12)]
 refine aH.mk (X:=Nat × List (List Value)) (fun x=>[(2,.slice (some a) (l.length+12) c),(3,.int .i64 x.1)])
  (fun x w'=>Ch (fun k=>(Value.slice (some a) l.length c).ownBlock=some k) w w'∧x.1≤l.length+12∧x.2.length=l.length+12∧Vec w' B 50 4 (.slice (some a) (l.length+12) c) x.2) (fun x=>l.length+12-x.1) (0,_) ⟨Ch.refl _ _,Nat.zero_le _,by simp[pE],hv⟩ ⟨rfl,rfl,trivial⟩ ?_
 rintro⟨i,xs⟩ w1 ⟨hC1,hi,hxl,hv1⟩
 simp only at hi hxl hv1 ⊢
 refine Cond.dec (fun g2=>?_) (fun g2=>?_)
 ·have hil:i<l.length+12:=by omega
  refine aA.mk _ (fO 2 i w1 (by omega) (by omega)) ?_
  rintro v4 w4 ⟨rfl,hE4⟩
  refine Idx.mk a rfl (by omega) (by omega) ?_
  refine bA.kR (mkN 2 i).cells size50 (hv1.ext hE4) rfl (by omega) rfl rfl (Nd.cells_one _) fun w5 g cs hU hBg hown hv5=>?_
  refine Ar.aM (i+1) (by omega) (by omega) ?_
  refine⟨(i+1,_),⟨(hC1.trans (.aL hE4)).trans (.bG hU hown),by simp only;omega,by rw[List.length_set];exact hxl,hv5⟩,by simp only;omega,rfl,rfl,trivial⟩
 ·exact hC1
end Go.Proofs.YtelffdgcikceaaaGreatDoor
end
