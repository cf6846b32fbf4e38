/- Texts H1, H2, H3, H4, H5, J1, J2. The package pending, plain: what stays true of nodes while parts are done. -/
import Derived.Test.YtelffdgcikceaaaGreatDoorXB5
set_option linter.unusedSimpArgs false
set_option linter.unusedVariables false
section
namespace Go.Proofs.YtelffdgcikceaaaGreatDoor
open Go.V
def lists(s:PN):List Nat:=s.attrs++s.kids
def cnt(S:List PN)(k:Nat):Nat:=(S.map fun s=>(lists s).count k).sum
theorem cnt_snoc(S:List PN)(s:PN)(k:Nat):cnt (S++[s]) k=cnt S k+(lists s).count k:=by simp[cnt]
theorem cnt_set:∀(S:List PN) (u:Nat) (s s':PN) (k:Nat),S[u]? = some s→cnt (S.set u s') k+(lists s).count k=cnt S k+(lists s').count k
 | [],_,_,_,_,h=>by simp at h
 | a::r,0,s,s',k,h=>by
   simp only[List.getElem?_cons_zero,Option.some.injEq]at h
   subst h
   simp[cnt];omega
 | a::r,u+1,s,s',k,h=>by
   simp only[List.getElem?_cons_succ]at h
   have:=cnt_set r u s s' k h
   simp only[cnt,List.set_cons_succ,List.map_cons,List.sum_cons]at this ⊢
   omega
theorem cnt_le{S:List PN}{u:Nat}{s:PN}(k:Nat)(h:S[u]? = some s):(lists s).count k≤cnt S k:=by
 have:=cnt_set S u s ⟨s.row,s.up,[],[]⟩ k h
 simp[lists]at this ⊢
 omega
theorem cnt_le2{S:List PN}{u v:Nat}{s t:PN}(k:Nat)(h:S[u]? = some s)(h2:S[v]? = some t)(hne:u≠v):(lists s).count k+(lists t).count k≤cnt S k:=by
 have h1:=cnt_set S u s ⟨s.row,s.up,[],[]⟩ k h
 have h3:(S.set u ⟨s.row,s.up,[],[]⟩)[v]? = some t:=by rw[List.getElem?_set,if_neg hne];exact h2
 have h4:=cnt_le k h3
 simp[lists]at h1 h4 ⊢
 omega
theorem cnt_zero{S:List PN}{k:Nat}(h:∀(i:Nat) (s:PN),S[i]? = some s→k ∉ lists s):cnt S k=0:=by
 induction S with
 | nil=>rfl
 | cons a r ih=>
   have h0:=h 0 a rfl
   have:=ih (fun i s hs=>h (i+1) s hs)
   simp only[cnt,List.map_cons,List.sum_cons]at this ⊢
   rw[this,List.count_eq_zero.2 h0]
structure wE(n:Nd):Prop where
 kind:0≤n.kind∧n.kind≤255
 name:n.name.size≤140737488355328
 value:n.value.size≤65536
structure SI(S:List PN)(ex:List Nat):Prop where
 up:∀(i:Nat) (s:PN),S[i]? = some s→∀u,s.up=some u→u<S.length
 dn:∀(i:Nat) (s:PN),S[i]? = some s→∀j∈lists s,i<j∧j<S.length
 exl:∀j∈ex,j<S.length
 un:∀k,cnt S k+ex.count k≤1
 row:∀(i:Nat) (s:PN),S[i]? = some s→wE s.row
theorem SI.named{S:List PN}{ex:List Nat}(h:SI S ex):Named S:=
 ⟨h.up,fun i s hs=>⟨fun j hj=>(h.dn i s hs j (List.mem_append_left _ hj)).2,fun j hj=>(h.dn i s hs j (List.mem_append_right _ hj)).2⟩⟩
theorem SI.down{S:List PN}{ex:List Nat}(h:SI S ex):Down S:=fun i s hs=>⟨fun j hj=>h.dn i s hs j (List.mem_append_left _ hj),fun j hj=>h.dn i s hs j (List.mem_append_right _ hj)⟩
theorem nodup_le:∀(l m:List Nat),l.Nodup→(∀x∈l,x∈m)→l.length≤m.length
 | [],_,_,_=>Nat.zero_le _
 | x::r,m,hn,hs=>by
   have hx:=hs x List.mem_cons_self
   have hn':=List.nodup_cons.1 hn
   have ih:=nodup_le r (m.erase x) hn'.2 (fun y hy=>(List.mem_erase_of_ne (fun(e:y=x)=>hn'.1 (by rw[←e];exact hy))).2 (hs y (List.mem_cons_of_mem _ hy)))
   rw[List.length_erase_of_mem hx]at ih
   have:0<m.length:=List.length_pos_of_mem hx
   simp only[List.length_cons]
   omega
theorem nodup_lt{l:List Nat}{n:Nat}(hn:l.Nodup)(h:∀x∈l,x<n):l.length≤n:=by
 have:=nodup_le l (List.range n) hn (fun x hx=>List.mem_range.2 (h x hx))
 rwa [List.length_range]at this
theorem nodup_count{l:List Nat}(h:∀k,l.count k≤1):l.Nodup:=List.nodup_iff_count.2 h
theorem SI.nodup{S:List PN}{ex:List Nat}(h:SI S ex){i:Nat}{s:PN}(hs:S[i]? = some s):(lists s).Nodup:=nodup_count fun k=>by
 have:=h.un k
 have:=cnt_le k hs
 omega
theorem SI.len{S:List PN}{ex:List Nat}(h:SI S ex){i:Nat}{s:PN}(hs:S[i]? = some s):s.attrs.length≤S.length∧s.kids.length≤S.length:=by
 have:=nodup_lt (h.nodup hs) (fun x hx=>(h.dn i s hs x hx).2)
 simp only[lists,List.length_append]at this
 omega
theorem SI.owner{S:List PN}{ex:List Nat}(h:SI S ex){i j k:Nat}{s t:PN}(hs:S[i]? = some s)(ht:S[j]? = some t)(h1:k∈lists s)(h2:k∈lists t):i=j:=by
 by_cases e:i=j
 ·exact e
 ·have:=cnt_le2 k hs ht e
  have:=h.un k
  have:=List.count_pos_iff.2 h1
  have:=List.count_pos_iff.2 h2
  omega
theorem kV{α:Type}{l:List α}{x y:α}{i:Nat}(h:(l++[x])[i]? = some y):(i<l.length∧l[i]? = some y)∨(i=l.length∧y=x):=by
 rw[List.getElem?_append]at h
 split at h
 ·exact .inl ⟨by assumption,h⟩
 ·rename_i hi
  have hz:i-l.length=0:=by
   rcases Nat.eq_zero_or_pos (i-l.length)with h'|h'
   ·exact h'
   ·rw[List.getElem?_eq_none (by simp;omega)]at h;cases h
  rw[hz]at h
  simp at h
  exact .inr ⟨by omega,h.symm⟩
theorem SI.snoc{S:List PN}{ex:List Nat}(h:SI S ex){r:Nd}{up:Option Nat}(hr:wE r)(hu:∀u,up=some u→u<S.length+1):SI (S++[⟨r,up,[],[]⟩]) (ex++[S.length]):=by
 have hl:(S++[(⟨r,up,[],[]⟩:PN)]).length=S.length+1:=by simp
 refine⟨fun i s hs u hup=>?_,fun i s hs j hj=>?_,fun j hj=>?_,fun k=>?_,fun i s hs=>?_⟩
 ·rw[hl]
  rcases kV hs with ⟨h1,h2⟩|⟨h1,h2⟩
  ·have:=h.up i s h2 u hup;omega
  ·subst h2;exact hu u hup
 ·rw[hl]
  rcases kV hs with ⟨h1,h2⟩|⟨h1,h2⟩
  ·have:=h.dn i s h2 j hj;omega
  ·subst h2;simp[lists]at hj
 ·rw[hl]
  rcases List.mem_append.1 hj with h1|h1
  ·have:=h.exl j h1;omega
  ·rw[List.mem_singleton.1 h1];omega
 ·rw[cnt_snoc,List.count_append]
  have h1:=h.un k
  by_cases e:k=S.length
  ·have h0:cnt S k=0:=cnt_zero fun i s hs hk=>by have:=(h.dn i s hs k hk).2;omega
   have h2:ex.count k=0:=List.count_eq_zero.2 fun hk=>by have:=h.exl k hk;omega
   have h3:[S.length].count k=1:=by rw[e];simp
   simp[lists]
   omega
  ·have h3:[S.length].count k=0:=List.count_eq_zero.2 (by simpa using e)
   simp[lists]
   omega
 ·rcases kV hs with ⟨h1,h2⟩|⟨h1,h2⟩
  ·exact h.row i s h2
  ·subst h2;exact hr
theorem SI.set{S:List PN}{ex ex':List Nat}(h:SI S ex){u:Nat}{s s':PN}(hs:S[u]? = some s)(hup:∀v,s'.up=some v→v<S.length)(hdn:∀j∈lists s',u<j∧j<S.length)(hex:∀j∈ex',j<S.length)
  (hc:∀k,(lists s').count k+ex'.count k≤(lists s).count k+ex.count k) (hr:wE s'.row):SI (S.set u s') ex':=by
 have hul:=(List.getElem?_eq_some_iff.1 hs).1
 have hget:∀{i:Nat} {t:PN},(S.set u s')[i]? = some t→(i=u∧t=s')∨S[i]? = some t:=fun {i t} ht=>by
  rw[List.getElem?_set]at ht
  by_cases e:u=i
  ·subst e
   rw[if_pos rfl,if_pos hul]at ht
   cases ht
   exact .inl ⟨rfl,rfl⟩
  ·rw[if_neg e]at ht
   exact .inr ht
 refine⟨fun i t ht v hv=>?_,fun i t ht j hj=>?_,fun j hj=>by rw[List.length_set];exact hex j hj,fun k=>?_,fun i t ht=>?_⟩
 ·rw[List.length_set]
  rcases hget ht with ⟨-,rfl⟩|h2
  ·exact hup v hv
  ·exact h.up i t h2 v hv
 ·rw[List.length_set]
  rcases hget ht with ⟨rfl,rfl⟩|h2
  ·exact hdn j hj
  ·exact h.dn i t h2 j hj
 ·have h1:=cnt_set S u s s' k hs
  have h2:=hc k
  have h3:=h.un k
  omega
 ·rcases hget ht with ⟨-,rfl⟩|h2
  ·exact hr
  ·exact h.row i t h2
theorem cnt_take(u:Nat)(l:List Nat)(S:List PN)(k:Nat):cnt (bE S u l) k=cnt S k:=by
 have:(bE S u l).map (fun s=>(lists s).count k)=S.map (fun s=>(lists s).count k):=by
  apply List.ext_getElem?
  intro i
  rw[List.getElem?_map,List.getElem?_map,jP]
  cases S[i]? with
  | none=>rfl
  | some s=>
    simp only[Option.map_some]
    split<;>rfl
 unfold cnt
 rw[this]
theorem SI.take{S:List PN}{ex:List Nat}(h:SI S ex){u:Nat}(hu:u<S.length)(l:List Nat):SI (bE S u l) ex:=by
 have hl:=aZ S u l
 have hget:∀{i:Nat} {t:PN},(bE S u l)[i]? = some t→∃s,S[i]? = some s∧(t=s∨t=qZ s u):=fun {i t} ht=>by
  rw[jP]at ht
  cases hs:S[i]? with
  | none=>rw[hs]at ht;cases ht
  | some s=>
    rw[hs]at ht
    simp only[Option.map_some,Option.some.injEq]at ht
    subst ht
    refine⟨s,rfl,?_⟩
    split
    ·exact .inr rfl
    ·exact .inl rfl
 refine⟨fun i t ht v hv=>?_,fun i t ht j hj=>?_,fun j hj=>by rw[hl];exact h.exl j hj,fun k=>by rw[cnt_take];exact h.un k,fun i t ht=>?_⟩
 ·rw[hl]
  obtain⟨s,hs,rfl|rfl⟩:=hget ht
  ·exact h.up i t hs v hv
  ·cases hv;exact hu
 ·rw[hl]
  obtain⟨s,hs,rfl|rfl⟩:=hget ht
  ·exact h.dn i t hs j hj
  ·exact h.dn i s hs j hj
 ·obtain⟨s,hs,rfl|rfl⟩:=hget ht
  ·exact h.row i t hs
  ·exact h.row i s hs
theorem SI.drop{S:List PN}{ex:List Nat}(h:SI S ex):SI S []:=⟨h.up,h.dn,(fun j hj=>by cases hj),(fun k=>by
  have:=h.un k
  simp only[List.count_nil]
  omega),h.row⟩
def vis(S:List PN):Nat→Nat→List Nat
 | 0,_=>[]
 | n+1,i=>match S[i]? with
   | none=>[]
   | some s=>i::(lists s).flatMap (vis S n)
theorem tgL_len(f:Nat→Int→Nat→List Nd)(g:Nat→List Nat)(h:∀j par pos,(f j par pos).length=(g j).length)(par:Nat):∀(pos:Nat) (l:List Nat),(nC f par pos l).length=(l.flatMap g).length
 | _,[]=>rfl
 | pos,j::r=>by simp only[nC,List.length_append,List.flatMap_cons,h,tgL_len f g h par]
theorem tg_vis(S:List PN):∀(n i:Nat) (par:Int) (pos:Nat),(tg S n i par pos).length=(vis S n i).length
 | 0,_,_,_=>rfl
 | n+1,i,par,pos=>by
   simp only[tg,vis]
   cases S[i]? with
   | none=>rfl
   | some s=>
     simp only[List.length_cons]
     rw[tgL_len _ (vis S n) (fun j par pos=>tg_vis S n j par pos)]
     rfl
theorem qK{S:List PN}{ex:List Nat}(h:SI S ex):∀(n i k:Nat),k∈vis S n i→i≤k∧k<S.length∧(k≠i→∃o s,o∈vis S n i∧S[o]? = some s∧k∈lists s)
 | 0,_,_,hk=>by simp[vis]at hk
 | n+1,i,k,hk=>by
   simp only[vis]at hk
   cases hs:S[i]? with
   | none=>rw[hs]at hk;simp at hk
   | some s=>
     rw[hs]at hk
     have hv:vis S (n+1) i=i::(lists s).flatMap (vis S n):=by simp only[vis,hs]
     rw[hv]
     rcases List.mem_cons.1 hk with rfl|hk
     ·exact⟨Nat.le_refl _,(List.getElem?_eq_some_iff.1 hs).1,fun e=>absurd rfl e⟩
     ·obtain⟨j,hj,hkj⟩:=List.mem_flatMap.1 hk
      obtain⟨h1,h2,h3⟩:=qK h n j k hkj
      have hij:=h.dn i s hs j hj
      refine⟨by omega,h2,fun _=>?_⟩
      by_cases e:k=j
      ·subst e
       exact⟨i,s,List.mem_cons_self,hs,hj⟩
      ·obtain⟨o,t,ho,ht,hkt⟩:=h3 e
       exact⟨o,t,List.mem_cons_of_mem _ (List.mem_flatMap.2 ⟨j,hj,ho⟩),ht,hkt⟩
theorem vis_apart{S:List PN}{ex:List Nat}(h:SI S ex)(n:Nat){i a b:Nat}{s:PN}(hs:S[i]? = some s)(ha:a∈lists s)(hb:b∈lists s)(hne:a≠b):∀(m k:Nat),k≤m→k∈vis S n a→k∈vis S n b→False:=by
 have hia:=h.dn i s hs a ha
 have hib:=h.dn i s hs b hb
 intro m
 induction m with
 | zero=>
   intro k hk h1 h2
   have:=(qK h n a k h1).1
   omega
 | succ m ih=>
   intro k hk h1 h2
   obtain⟨a1,a2,a3⟩:=qK h n a k h1
   obtain⟨b1,b2,b3⟩:=qK h n b k h2
   by_cases ea:k=a
   ·obtain⟨o,t,ho,ht,hkt⟩:=b3 (fun e=>hne (ea.symm.trans e))
    have:=h.owner hs ht (ea▸ha) hkt
    have:=(qK h n b o ho).1
    omega
   by_cases eb:k=b
   ·obtain⟨o,t,ho,ht,hkt⟩:=a3 ea
    have:=h.owner hs ht (eb▸hb) hkt
    have:=(qK h n a o ho).1
    omega
   obtain⟨o,t,ho,ht,hkt⟩:=a3 ea
   obtain⟨o',t',ho',ht',hkt'⟩:=b3 eb
   have e:=h.owner ht ht' hkt hkt'
   subst e
   have:=(h.dn o t ht k hkt).1
   exact ih o (by omega) ho ho'
theorem vis_nodup{S:List PN}{ex:List Nat}(h:SI S ex):∀(n i:Nat),(vis S n i).Nodup
 | 0,_=>List.nodup_nil
 | n+1,i=>by
   simp only[vis]
   cases hs:S[i]? with
   | none=>exact List.nodup_nil
   | some s=>
     refine List.nodup_cons.2 ⟨fun hi=>?_,?_⟩
     ·obtain⟨j,hj,hij⟩:=List.mem_flatMap.1 hi
      have:=(qK h n j i hij).1
      have:=(h.dn i s hs j hj).1
      omega
     ·refine List.pairwise_flatMap.2 ⟨fun j _=>vis_nodup h n j,?_⟩
      have hnd:=h.nodup hs
      refine List.Pairwise.imp_of_mem ?_ hnd
      intro a b ha hb hne x hx y hy e
      subst e
      exact vis_apart h n hs ha hb hne x x (Nat.le_refl _) hx hy
theorem tg_le{S:List PN}{ex:List Nat}(h:SI S ex)(n i:Nat)(par:Int)(pos:Nat):(tg S n i par pos).length≤S.length:=by
 rw[tg_vis]
 exact nodup_lt (vis_nodup h n i) fun x hx=>(qK h n i x hx).2.1
end Go.Proofs.YtelffdgcikceaaaGreatDoor
end
section
namespace Go.Proofs.YtelffdgcikceaaaGreatDoor
open Go.V
theorem SI.ex{S:List PN}{ex ex':List Nat}(h:SI S ex)(hc:∀k,ex'.count k≤ex.count k):SI S ex':=
 ⟨h.up,h.dn,fun j hj=>h.exl j (List.count_pos_iff.1 (by have:=hc j;have:=List.count_pos_iff.2 hj;omega)),fun k=>by have:=h.un k;have:=hc k;omega,h.row⟩
theorem apStep_SI{n0:Nat}{st:oO}{n:Nd}(h:SI st.S (st.at_++st.kd))(hr:wE n)(hle:n0≤st.S.length)(hp:0≤n.parent→n0+n.parent.toNat<st.S.length):SI (cK n0 st n).S ((cK n0 st n).at_++(cK n0 st n).kd):=by
 unfold cK
 simp only
 split
 ·rename_i h0
  have hu:=hp h0
  have h1:=h.snoc (up:=some (n0+n.parent.toNat)) hr (fun u e=>by cases e;omega)
  have hl:(st.S++[(⟨n,some (n0+n.parent.toNat),[],[]⟩:PN)]).length=st.S.length+1:=by simp
  split
  ·rename_i s hs
   simp only
   have hrow:=h1.row _ s hs
   have hd:=h1.dn _ s hs
   rw[hl]at hd
   refine h1.set hs ?_ ?_ ?_ ?_ ?_
   ·intro v hv
    refine h1.up _ s hs v ?_
    split at hv<;>exact hv
   ·intro j hj
    rw[hl]
    split at hj
    ·simp only[lists,mD,List.mem_append,List.mem_singleton]at hj hd
     rcases hj with (hj|hj)|hj
     ·exact hd j (.inl hj)
     ·omega
     ·exact hd j (.inr hj)
    ·simp only[lists,oD,List.mem_append,List.mem_singleton]at hj hd
     rcases hj with hj|hj|hj
     ·exact hd j (.inl hj)
     ·exact hd j (.inr hj)
     ·omega
   ·intro j hj
    rw[hl]
    have:=h.exl j hj
    omega
   ·intro k
    split
    ·simp only[lists,mD,List.count_append];omega
    ·simp only[lists,oD,List.count_append];omega
   ·split<;>exact hrow
  ·rename_i hs
   rw[List.getElem?_eq_none_iff]at hs
   omega
 ·have h1:=h.snoc (up:=none) hr (fun u e=>by cases e)
  split
  ·exact h1.ex fun k=>by simp only[List.count_append];omega
  ·exact h1.ex fun k=>by simp only[List.count_append];omega
theorem apRun_SI(n0:Nat):∀(l:List Nd) (st:oO),SI st.S (st.at_++st.kd)→n0≤st.S.length→(∀n∈l,wE n)→(∀(i:Nat) (h:i<l.length),(l[i]).parent<(st.S.length-n0:Nat)+i)→SI (fF n0 st l).S ((fF n0 st l).at_++(fF n0 st l).kd)
 | [],_,h,_,_,_=>h
 | n::r,st,h,hle,hr,hp=>by
   have hl:=jW n0 st n
   have h0:=hp 0 (by simp)
   simp only[List.getElem_cons_zero]at h0
   refine apRun_SI n0 r (cK n0 st n) (apStep_SI h (hr n List.mem_cons_self) hle (fun _=>by omega)) (by omega) (fun m hm=>hr m (List.mem_cons_of_mem _ hm)) (fun i hi=>?_)
   have:=hp (i+1) (by simp;omega)
   simp only[List.getElem_cons_succ]at this
   omega
theorem apartP_SI{S:List PN}{l:List Nd}(h:SI S [])(hr:∀n∈l,wE n)(hp:∀(i:Nat) (h:i<l.length),(l[i]).parent<i):SI (dI S l).S ((dI S l).at_++(dI S l).kd):=
 apRun_SI S.length l ⟨S,[],[]⟩ h (Nat.le_refl _) hr (fun i hi=>by have:=hp i hi;simp;omega)
theorem apRun_ok{n0:Nat}:∀(l:List Nd) (st:oO),ApOk n0 st→(∀(i:Nat) (h:i<l.length),(l[i]).parent<(st.S.length-n0:Nat)+i)→ApOk n0 (fF n0 st l)
 | [],_,h,_=>h
 | n::r,st,h,hp=>by
   have hl:=jW n0 st n
   have hle:=h.le
   have h0:=hp 0 (by simp)
   simp only[List.getElem_cons_zero]at h0
   refine apRun_ok r (cK n0 st n) (apStep_ok h n (fun _=>by omega)) (fun i hi=>?_)
   have:=hp (i+1) (by simp;omega)
   simp only[List.getElem_cons_succ]at this
   omega
theorem apartP_ok{S:List PN}{l:List Nd}(h:Named S)(hp:∀(i:Nat) (h:i<l.length),(l[i]).parent<i):ApOk S.length (dI S l):=
 apRun_ok l ⟨S,[],[]⟩ ⟨h,Nat.le_refl _,by simp,by simp⟩ (fun i hi=>by have:=hp i hi;simp;omega)
theorem mM(S:List PN)(l:List Nd):(dI S l).S.length=S.length+l.length:=apRun_len _ _ _
def Keeps(n:Nat)(S S':List PN):Prop:=∀i<n,∀(s:PN),S[i]? = some s→∃s',S'[i]? = some s'∧s'.up=s.up∧s'.row.kind=s.row.kind
theorem Keeps.refl(n:Nat)(S:List PN):Keeps n S S:=fun i _ s hs=>⟨s,hs,rfl,rfl⟩
theorem Keeps.trans{n:Nat}{A B C:List PN}(h:Keeps n A B)(k:Keeps n B C):Keeps n A C:=fun i hi s hs=>by
 obtain⟨s1,h1,h2,h3⟩:=h i hi s hs
 obtain⟨s2,k1,k2,k3⟩:=k i hi s1 h1
 exact⟨s2,k1,k2.trans h2,k3.trans h3⟩
theorem Keeps.take{n:Nat}{S:List PN}{u:Nat}{l:List Nat}(hl:∀j∈l,n≤j):Keeps n S (bE S u l):=fun i hi s hs=>by
 rw[jP,hs]
 have:i ∉ l:=fun h=>by have:=hl i h;omega
 exact⟨s,by simp[this],rfl,rfl⟩
theorem Keeps.set{n:Nat}{S:List PN}{x:Nat}{s s':PN}(hs:S[x]? = some s)(h1:s'.up=s.up)(h2:s'.row.kind=s.row.kind):Keeps n S (S.set x s'):=fun i hi t ht=>by
 rw[List.getElem?_set]
 by_cases e:x=i
 ·subst e
  have:=(List.getElem?_eq_some_iff.1 hs).1
  rw[hs]at ht
  cases ht
  exact⟨s',by rw[if_pos rfl,if_pos this],h1,h2⟩
 ·exact⟨t,by rw[if_neg e];exact ht,rfl,rfl⟩
theorem Keeps.apart{S:List PN}(l:List Nd):Keeps S.length S (dI S l).S:=fun i hi s hs=>⟨s,by rw[sJ l hi];exact hs,rfl,rfl⟩
theorem Keeps.snoc{n:Nat}{S:List PN}(s0:PN):Keeps n S (S++[s0]):=fun i hi s hs=>⟨s,by rw[List.getElem?_append_left (List.getElem?_eq_some_iff.1 hs).1];exact hs,rfl,rfl⟩
structure Next(S S':List PN)(k:Nat):Prop where
 si:SI S' []
 keeps:Keeps S.length S S'
 len:S.length≤S'.length∧S'.length≤S.length+k
theorem cut_count(l m:List Nat)(i out k:Nat):(rH l i out m).count k≤l.count k+m.count k:=by
 unfold rH
 rw[List.count_append,List.count_append]
 have h1:=List.take_append_drop i l
 have h2:l.count k=(l.take i).count k+(l.drop i).count k:=by
  conv=>lhs;rw[←h1]
  rw[List.count_append]
 have h3:(l.drop (i+out)).count k≤(l.drop i).count k:=by
  have:l.drop (i+out)=(l.drop i).drop out:=by rw[List.drop_drop]
  rw[this]
  exact(List.drop_sublist _ _).count_le _
 omega
theorem cut_mem{l m:List Nat}{i out j:Nat}(h:j∈rH l i out m):j∈l∨j∈m:=by
 unfold rH at h
 rcases List.mem_append.1 h with h|h
 ·rcases List.mem_append.1 h with h|h
  ·exact .inl (List.mem_of_mem_take h)
  ·exact .inr h
 ·exact .inl (List.mem_of_mem_drop h)
theorem beside_next{S:List PN}{ex m:List Nat}(h:SI S ex){x u n0:Nat}(hu:u<n0)(hn0:n0≤S.length)(hm:∀j∈m,n0≤j∧j<S.length)(hc:∀k,m.count k≤ex.count k)(on out:Nat) :
  SI (eD S x u on out m) []∧Keeps n0 S (eD S x u on out m)∧(eD S x u on out m).length=S.length:=by
 have h1:=h.take (show u<S.length by omega) m
 have hk:=Keeps.take (n:=n0) (S:=S) (u:=u) (fun j hj=>(hm j hj).1)
 have hl:=aZ S u m
 have hul:u<(bE S u m).length:=by omega
 obtain⟨su,hsu⟩:∃su,(bE S u m)[u]? = some su:=⟨_,List.getElem?_eq_getElem hul⟩
 have hdn:=h1.dn u su hsu
 have hrow:=h1.row u su hsu
 have hup:=h1.up u su hsu
 unfold eD
 rw[hsu]
 simp only
 have none_:SI (bE S u m) []∧Keeps n0 S (bE S u m)∧(bE S u m).length=S.length:=⟨h1.drop,hk,hl⟩
 split
 ·split
  ·exact none_
  ·rename_i k _
   refine⟨h1.set hsu hup (fun j hj=>?_) (fun j hj=>by cases hj) (fun q=>?_) hrow,hk.trans (Keeps.set hsu rfl rfl),by rw[List.length_set,hl]⟩
   ·rcases List.mem_append.1 hj with hj|hj
    ·rcases cut_mem hj with hj|hj
     ·exact hdn j (List.mem_append_left _ hj)
     ·have:=hm j hj;omega
    ·exact hdn j (List.mem_append_right _ hj)
   ·have:=cut_count su.attrs m (k+on) out q
    have:=hc q
    simp only[lists,List.count_append,List.count_nil]
    omega
 ·split
  ·exact none_
  ·rename_i k _
   refine⟨h1.set hsu hup (fun j hj=>?_) (fun j hj=>by cases hj) (fun q=>?_) hrow,hk.trans (Keeps.set hsu rfl rfl),by rw[List.length_set,hl]⟩
   ·rcases List.mem_append.1 hj with hj|hj
    ·exact hdn j (List.mem_append_left _ hj)
    ·rcases cut_mem hj with hj|hj
     ·exact hdn j (List.mem_append_right _ hj)
     ·have:=hm j hj;omega
   ·have:=cut_count su.kids m (k+on) out q
    have:=hc q
    simp only[lists,List.count_append,List.count_nil]
    omega
structure PartOk(S:List PN)(p:Pt)(x:Nat):Prop where
 rows:∀n∈p.nodes,wE n
 par:∀(i:Nat) (h:i<p.nodes.length),(p.nodes[i]).parent<i
 text:p.kind=2∨p.kind=9→p.text.size≤65536
 name:p.text.size≤140737488355328
 up:p.kind∈[4,5,8,10]→∃s u,S[x]? = some s∧s.up=some u
theorem do_next{S:List PN}{p:Pt}{x:Nat}(h:SI S [])(hx:x<S.length)(hp:PartOk S p x):Next S (tQ S p x) (p.nodes.length+1):=by
 have hA:=apartP_SI h hp.rows hp.par
 have hok:=apartP_ok h.named hp.par
 have hl:=mM S p.nodes
 have hK:=Keeps.apart (S:=S) p.nodes
 have hat:=hok.at_
 have hkd:=hok.kd
 obtain⟨s,hs⟩:∃s,S[x]? = some s:=⟨_,List.getElem?_eq_getElem hx⟩
 have hsx:(dI S p.nodes).S[x]? = some s:=by rw[sJ _ hx];exact hs
 unfold tQ
 simp only
 generalize dI S p.nodes=st at *
 have into:∀f:PN→PN,(∀s,(f s).up=s.up)→(∀s,(f s).row=s.row)→(∀s,∀j∈lists (f s),j∈lists s∨j∈st.at_++st.kd)→(∀s k,(lists (f s)).count k=(lists s).count k+(st.at_++st.kd).count k)→
   Next S (dR (bE (bE st.S x st.at_) x st.kd) x f) (p.nodes.length+1):=by
  intro f h1 h2 h3 h4
  have hT:=(hA.take (show x<st.S.length by omega) st.at_)
  have hT2:=hT.take (show x<(bE st.S x st.at_).length by rw[aZ];omega) st.kd
  have hl2:(bE (bE st.S x st.at_) x st.kd).length=st.S.length:=by rw[aZ,aZ]
  obtain⟨s2,hs2⟩:∃s2,(bE (bE st.S x st.at_) x st.kd)[x]? = some s2:=⟨_,List.getElem?_eq_getElem (by omega)⟩
  simp only[dR,hs2]
  have hdn:=hT2.dn x s2 hs2
  refine⟨hT2.set hs2 (by rw[h1];exact hT2.up x s2 hs2) (fun j hj=>?_) (fun j hj=>by cases hj) (fun k=>?_) (by rw[h2];exact hT2.row x s2 hs2),((hK.trans (Keeps.take fun j hj=>(hat j hj).1)).trans (Keeps.take fun j hj=>(hkd j hj).1)).trans (Keeps.set hs2 (h1 _) (by rw[h2])),by rw[List.length_set,hl2];omega⟩
  ·rw[hl2]at hdn ⊢
   rcases h3 s2 j hj with hj|hj
   ·exact hdn j hj
   ·rcases List.mem_append.1 hj with hj|hj
    ·have:=hat j hj;omega
    ·have:=hkd j hj;omega
  ·rw[h4];simp
 have upd:∀f:PN→PN,(∀s,(f s).up=s.up)→(∀s,(f s).row.kind=s.row.kind)→(∀s,lists (f s)=lists s)→(∀s,wE s.row→wE (f s).row)→Next S (dR st.S x f) (p.nodes.length+1):=by
  intro f h1 h2 h3 h4
  simp only[dR,hsx]
  refine⟨hA.set hsx (by rw[h1];exact hA.up x s hsx) (by rw[h3];exact hA.dn x s hsx) (fun j hj=>by cases hj) (fun k=>by rw[h3];simp) (h4 _ (hA.row x s hsx)),hK.trans (Keeps.set hsx (h1 _) (h2 _)),by rw[List.length_set];omega⟩
 have bes:∀(m:List Nat) (on out:Nat),p.kind∈[4,5,8,10]→(∀j∈m,S.length≤j∧j<st.S.length)→(∀k,m.count k≤(st.at_++st.kd).count k)→Next S (eD st.S x (tT S x) on out m) (p.nodes.length+1):=by
  intro m on out hk hm hc
  obtain⟨s',u,hs',hu⟩:=hp.up hk
  rw[hs]at hs'
  cases hs'
  have huo:tT S x=u:=by simp[tT,hs,hu]
  rw[huo]
  have hul:=h.up x s hs u hu
  obtain⟨b1,b2,b3⟩:=beside_next hA (x:=x) hul (by omega) hm hc on out
  exact⟨b1,hK.trans b2,by omega⟩
 split
 ·exact into _ (fun _=>rfl) (fun _=>rfl) (fun s j hj=>by
   simp only[lists,uZ,List.mem_append]at hj ⊢
   rcases hj with (hj|hj)|hj|hj
   ·exact .inl (.inl hj)
   ·exact .inr (.inl hj)
   ·exact .inl (.inr hj)
   ·exact .inr (.inr hj)) (fun s k=>by simp only[lists,uZ,List.count_append];omega)
 split
 ·exact into _ (fun _=>rfl) (fun _=>rfl) (fun s j hj=>by
   simp only[lists,iG,List.mem_append]at hj ⊢
   rcases hj with (hj|hj)|hj|hj
   ·exact .inl (.inl hj)
   ·exact .inr (.inl hj)
   ·exact .inr (.inr hj)
   ·exact .inl (.inr hj)) (fun s k=>by simp only[lists,iG,List.count_append];omega)
 split
 ·rename_i g
  exact upd _ (fun _=>rfl) (fun _=>rfl) (fun _=>rfl) (fun s hr=>⟨hr.kind,hr.name,hp.text (.inl g)⟩)
 split
 ·exact upd _ (fun _=>rfl) (fun _=>rfl) (fun _=>rfl) (fun s hr=>⟨hr.kind,hp.name,hr.value⟩)
 split
 ·rename_i g
  exact bes _ _ _ (by rw[g];decide) hkd (fun k=>by rw[List.count_append];omega)
 split
 ·rename_i g
  exact bes _ _ _ (by rw[g];decide) hkd (fun k=>by rw[List.count_append];omega)
 split
 ·rename_i g
  exact bes _ _ _ (by rw[g];decide) (fun j hj=>by
   rcases List.mem_append.1 hj with hj|hj
   ·exact hat j hj
   ·exact hkd j hj) (fun k=>Nat.le_refl _)
 split
 ·rename_i g
  have h1:=hA.drop.snoc (r:=jH p.text) (up:=none) ⟨by simp[jH],by simp[jH,ByteArray.size],hp.text (.inr g)⟩ (fun u e=>by cases e)
  have hl1:(st.S++[(⟨jH p.text,none,[],[]⟩:PN)]).length=st.S.length+1:=by simp
  have h2:=h1.take (show x<(st.S++[(⟨jH p.text,none,[],[]⟩:PN)]).length by omega) [st.S.length]
  have hl2:(bE (st.S++[(⟨jH p.text,none,[],[]⟩:PN)]) x [st.S.length]).length=st.S.length+1:=by rw[aZ,hl1]
  obtain⟨s2,hs2⟩:∃s2,(bE (st.S++[(⟨jH p.text,none,[],[]⟩:PN)]) x [st.S.length])[x]? = some s2:=⟨_,List.getElem?_eq_getElem (by omega)⟩
  simp only[dR,hs2]
  have hdn:=h2.dn x s2 hs2
  refine⟨h2.set hs2 (h2.up x s2 hs2) (fun j hj=>?_) (fun j hj=>by cases hj) (fun k=>?_) (h2.row x s2 hs2),((hK.trans (Keeps.snoc _)).trans (Keeps.take fun j hj=>by rw[List.mem_singleton.1 hj];omega)).trans (Keeps.set hs2 rfl rfl),by rw[List.length_set,hl2];omega⟩
  ·rw[hl2]at hdn ⊢
   simp only[lists,rX,List.mem_append,List.mem_singleton]at hj hdn
   rcases hj with hj|hj
   ·exact hdn j (.inl hj)
   ·omega
  ·simp only[lists,rX,List.count_append,List.nil_append,List.count_nil]
   omega
 split
 ·rename_i g
  exact bes _ _ _ (by rw[g];decide) (fun j hj=>by cases hj) (fun k=>by simp)
 ·exact⟨hA.drop,hK,by omega⟩
end Go.Proofs.YtelffdgcikceaaaGreatDoor
end
section
namespace Go.Proofs.YtelffdgcikceaaaGreatDoor
open Go.V
theorem rE{t:List Nd}{root:Bool}(h:eG t root=0):t.length≤16384∧∃s,gW t root t.length=some s∧(root=true→s.elements=1)∧s.deepest≤60:=by
 unfold eG at h
 split at h
 ·omega
 ·refine⟨by omega,?_⟩
  cases hr:gW t root t.length with
  | none=>rw[hr]at h;simp at h
  | some s=>
    rw[hr]at h
    simp only at h
    split at h
    ·omega
    ·split at h
     ·omega
     ·rename_i g1 g2
      refine⟨s,rfl,fun hroot=>?_,by omega⟩
      exact Decidable.byContradiction fun hne=>g1 ⟨hroot,hne⟩
theorem allB_step{t:List Nd}{root:Bool}(h:eG t root=0){i:Nat}(hi:i<t.length):∃s s',gW t root i=some s∧iC t root s i=some s':=by
 obtain⟨-,s,hs,-⟩:=rE h
 obtain⟨s',h1,s'',h2⟩:=rV hs i hi
 exact⟨s',s'',h1,h2⟩
theorem allB_open{t:List Nd}{root:Bool}(h:eG t root=0){i:Nat}(hi:i<t.length):fB t i=true:=by
 obtain⟨s,s',-,h2⟩:=allB_step h hi
 unfold iC at h2
 simp only at h2
 split at h2
 ·cases h2
 ·rename_i g;simpa using g
theorem oU{t:List Nd}{root:Bool}(h:eG t root=0):Ord t t.length:=by
 have:∀i,i≤t.length→Ord t i:=fun i=>by
  induction i with
  | zero=>intro _ j hj;exact absurd hj (by omega)
  | succ i ih=>intro hi;exact(ih (by omega)).succ (allB_open h (by omega))
 exact this t.length (Nat.le_refl _)
theorem u6{t:List Nd}{root:Bool}(h:eG t root=0){i:Nat}(hi:i<t.length) :
  (root=true∧i=0∧(nd t i).kind=1∧(nd t i).name=aP∧(nd t i).value=aP)∨(¬(root=true∧i=0)∧¬(root=true∧(nd t i).parent<0)∧∃s,gW t root i=some s∧kN t (s.last.set i (-1)) s.top i=true):=by
 obtain⟨s,s',h1,h2⟩:=allB_step h hi
 unfold iC at h2
 simp only at h2
 split at h2
 ·cases h2
 ·split at h2
  ·rename_i g
   split at h2
   ·rename_i g2
    exact .inl ⟨g.1,g.2,g2⟩
   ·cases h2
  ·rename_i g
   split at h2
   ·cases h2
   ·rename_i g3
    split at h2
    ·cases h2
    ·rename_i g4
     exact .inr ⟨g,g3,s,h1,by simpa using g4⟩
structure Fits(t:List Nd)(n:Nd):Prop where
 kind:n.kind<7∧¬fC n.kind=kZ
 name:dW n.name=(fC n.kind).named∧((fC n.kind).named=false→n.name=aP)
 value:((fC n.kind).valued=false→n.value=aP)∧((fC n.kind).full=true→n.value≠aP)∧n.value.size≤65536∧gU n.value=true
 within:iA (fC n.kind) t n.parent=true
theorem fits_head{t:List Nd}{last:List Int}{top:Int}{i:Nat}(h:kN t last top i=true):Fits t (nd t i):=by
 unfold kN at h
 simp only[Bool.and_eq_true,decide_eq_true_eq,Bool.not_eq_true',decide_eq_false_iff_not]at h
 obtain⟨⟨⟨h1,h2⟩,h3⟩,-⟩:=h
 unfold rM at h3
 simp only[Bool.not_eq_true',Bool.or_eq_false_iff,Bool.and_eq_false_iff,decide_eq_false_iff_not,Bool.not_eq_false',bne_eq_false_iff_eq,decide_eq_true_eq]at h3
 obtain⟨⟨⟨⟨⟨⟨a,b⟩,c⟩,d⟩,e⟩,f⟩,g⟩:=h3
 refine⟨⟨h1,h2⟩,⟨a,fun hn=>?_⟩,⟨fun hv=>?_,fun hf=>?_,by omega,f⟩,g⟩
 ·rcases b with b|b
  ·simp[hn]at b
  ·exact b
 ·rcases c with c|c
  ·simp[hv]at c
  ·exact c
 ·rcases d with d|d
  ·simp[hf]at d
  ·exact d
theorem wT{t:List Nd}{root:Bool}(h:eG t root=0):∀x∈t,x.value.size≤65536:=fun x hx=>by
 obtain⟨i,hi,rfl⟩:=List.mem_iff_getElem.1 hx
 have e:=eT hi
 rcases u6 h hi with ⟨-,-,-,-,h5⟩|⟨-,-,s,-,h2⟩
 ·rw[e]at h5;rw[h5];simp[aP,ByteArray.size]
 ·have:=(fits_head h2).value.2.2.1
  rw[e]at this
  exact this
theorem rule1:fC 1=kZ:=rfl
theorem u7{t:List Nd}(h:eG t true=0):0<t.length∧(nd t (0:Nat)).kind=1∧∀i:Nat,0<i→i<t.length→0≤(nd t i).parent∧(nd t i).kind≠1:=by
 have hlen:0<t.length:=by
  rcases Nat.eq_zero_or_pos t.length with e|e
  ·obtain⟨-,s,hs,h1,-⟩:=rE h
   have:=h1 rfl
   rw[e]at hs
   simp only[gW,Option.some.injEq]at hs
   subst hs
   simp[lX]at this
  ·exact e
 refine⟨hlen,?_,fun i h0 hi=>?_⟩
 ·rcases u6 h hlen with ⟨-,-,h3,-⟩|⟨h1,-⟩
  ·exact h3
  ·exact absurd ⟨rfl,rfl⟩ h1
 ·rcases u6 h hi with ⟨-,h2,-⟩|⟨-,h2,s,-,h3⟩
  ·omega
  ·refine⟨?_,fun e=>?_⟩
   ·rcases Int.lt_or_le (nd t i).parent 0 with g|g
    ·exact absurd ⟨rfl,g⟩ h2
    ·exact g
   ·have:=(fits_head h3).kind.2
    rw[e]at this
    exact this rule1
theorem xG{s:ByteArray}(h:gX s=true):s.size≤65536:=by
 unfold gX at h
 simp only[Bool.and_eq_true,decide_eq_true_eq]at h
 exact h.2
def nG(l:List Nd):Prop:=∀(i:Nat) (h:i<l.length),(l[i]).parent<i
theorem nG.of_ord{t:List Nd}(h:Ord t t.length):nG t:=fun i hi=>by
 have:=(h i hi).1
 rw[eT hi]at this
 exact this
theorem nG.nil:nG []:=fun i h=>absurd h (Nat.not_lt_zero _)
theorem shift_parent(d:Nat)(x:Nd)(i:Nat)(h:x.parent<i):(aS d x).parent<(d+i:Nat):=by
 unfold aS
 split
 ·simp only[withParent];omega
 ·omega
theorem nG.app{a b:List Nd}(ha:nG a)(hb:nG b):nG (a++b.map (aS a.length)):=fun i hi=>by
 rw[List.getElem_append]
 split
 ·exact ha i (by assumption)
 ·rename_i h
  rw[List.getElem_map]
  rw[List.length_append,List.length_map]at hi
  have:=shift_parent a.length _ (i-a.length) (hb (i-a.length) (by omega))
  rw[show a.length+(i-a.length)=i by omega]at this
  exact this
theorem nG.neg{a:List Nd}(h:∀x∈a,x.parent<0):nG a:=fun i hi=>by have:=h _ (List.getElem_mem hi);omega
theorem head_attrs(l:List Nd):∀x∈l.take (bR l),dZ x=true:=fun x hx=>by
 have:l.take (bR l)=l.takeWhile dZ:=by
  have h1:=List.takeWhile_append_dropWhile (p:=dZ) (l:=l)
  conv=>lhs;rw[←h1]
  unfold bR
  rw[List.take_left']
  rw[h1]
 rw[this]at hx
 have:=List.all_takeWhile (p:=dZ) (l:=l)
 exact List.all_eq_true.1 this x hx
theorem uE{x:Nd}(h:dZ x=true):x.parent=-1∧x.kind=3:=by
 unfold dZ at h
 simp only[Bool.and_eq_true,decide_eq_true_eq]at h
 exact⟨h.2,h.1⟩
theorem uU(l:List Nd):∀x∈bL l,dZ x=true:=fun x hx=>by
 unfold bL at hx
 split at hx
 ·exact head_attrs l x hx
 ·cases hx
theorem iK{l:List Nd}(h:aU l=true):iD l=true∧gI l=true∧eG (iE l) false=0:=by
 unfold aU at h
 simp only[Bool.and_eq_true,decide_eq_true_eq]at h
 exact⟨h.1.1,h.1.2,h.2⟩
theorem rY{l:List Nd}(h:aU l=true):bC l=iE l:=by
 obtain⟨h1,h2,-⟩:=iK h
 simp[bC,h1,h2]
theorem vU{l:List Nd}(h:aU l=true):bL l=l.take (bR l):=by
 obtain⟨h1,h2,-⟩:=iK h
 simp[bL,h1,h2]
theorem shift_back{k:Nat}{x:Nd}(h:x.parent<0∨(k:Int)≤x.parent):aS k (aS (-(k:Int)) x)=x:=by
 obtain⟨a,b,c,d⟩:=x
 simp only[aS,withParent]at *
 by_cases g:0≤d
 ·have h2:0≤d+-(k:Int):=by omega
  simp only[if_pos g,if_pos h2]
  congr 1
  omega
 ·simp only[if_neg g]
theorem tF{l:List Nd}(h:aU l=true):l=l.take (bR l)++(iE l).map (aS (bR l:Nat)):=by
 obtain⟨-,h2,-⟩:=iK h
 conv=>lhs;rw[←List.take_append_drop (bR l) l]
 congr 1
 unfold iE
 rw[List.map_map]
 symm
 refine(List.map_congr_left (g:=id) fun x hx=>?_).trans (List.map_id _)
 have:=List.all_eq_true.1 h2 x hx
 simp only[Bool.or_eq_true,decide_eq_true_eq]at this
 exact shift_back this
theorem split_ord{l:List Nd}(h:aU l=true):nG l:=by
 obtain⟨-,-,h3⟩:=iK h
 have hk:(l.take (bR l)).length=bR l:=by rw[List.length_take];have:=jC l;omega
 rw[tF h]
 have:=(nG.neg (a:=l.take (bR l)) fun x hx=>by have:=(uE (head_attrs l x hx)).1;omega).app (nG.of_ord (oU h3))
 rw[hk]at this
 exact this
def oQ(l:List Nd):Prop:=∀x∈l,x.value.size≤65536
theorem shift_row(d:Int)(x:Nd):(aS d x).value=x.value∧(aS d x).name=x.name∧(aS d x).kind=x.kind:=by
 unfold aS
 split<;>exact⟨rfl,rfl,rfl⟩
theorem oQ.map{l:List Nd}(h:oQ l)(d:Int):oQ (l.map (aS d)):=fun x hx=>by
 obtain⟨y,hy,rfl⟩:=List.mem_map.1 hx
 rw[(shift_row d y).1]
 exact h y hy
theorem oQ.app{a b:List Nd}(ha:oQ a)(hb:oQ b):oQ (a++b):=fun x hx=>by
 rcases List.mem_append.1 hx with h|h
 ·exact ha x h
 ·exact hb x h
theorem splitA_val{l:List Nd}(h:aU l=true):oQ (bL l):=fun x hx=>by
 rw[vU h]at hx
 obtain⟨h1,-,-⟩:=iK h
 have:=List.all_eq_true.1 h1 x hx
 simp only[Bool.and_eq_true]at this
 exact xG this.2
theorem splitR_val{l:List Nd}(h:aU l=true):oQ (bC l):=by
 obtain⟨-,-,h3⟩:=iK h
 rw[rY h]
 exact wT h3
theorem split_val{l:List Nd}(h:aU l=true):oQ l:=by
 have h1:=splitA_val h
 have h2:=splitR_val h
 rw[vU h]at h1
 rw[rY h]at h2
 rw[tF h]
 exact h1.app (h2.map _)
theorem restsF_app(acc:List Nd):∀(row:List Pt),(∀q∈row,aU q.nodes=true)→nG acc→oQ acc→nG (fH acc row)∧oQ (fH acc row)
 | [],_,h1,h2=>⟨h1,h2⟩
 | q::r,hq,h1,h2=>by
   have hs:=hq q List.mem_cons_self
   obtain⟨-,-,h3⟩:=iK hs
   refine restsF_app _ r (fun x hx=>hq x (List.mem_cons_of_mem _ hx)) (h1.app ?_) (h2.app ((splitR_val hs).map _))
   rw[rY hs]
   exact nG.of_ord (oU h3)
theorem restsF_len(acc:List Nd):∀(row:List Pt),(fH acc row).length=acc.length+(row.map fun q=>(bC q.nodes).length).sum
 | []=>by simp[fH]
 | q::r=>by
   show(fH (acc++(bC q.nodes).map (aS acc.length)) r).length=_
   rw[restsF_len _ r]
   simp
   omega
theorem attrsOf_len(row:List Pt):(fA row).length=(row.map fun q=>(bL q.nodes).length).sum:=by
 induction row with
 | nil=>rfl
 | cons q r ih=>
   have:fA (q::r)=bL q.nodes++fA r:=by simp[fA]
   rw[this,List.length_append,ih]
   simp
theorem join_ok{row:List Pt}(h:∀q∈row,aU q.nodes=true):nG (bJ row)∧oQ (bJ row):=by
 have hA:∀x∈fA row,dZ x=true∧x.value.size≤65536:=fun x hx=>by
  unfold fA at hx
  obtain⟨l,hl,hxl⟩:=List.mem_flatten.1 hx
  obtain⟨q,hq,rfl⟩:=List.mem_map.1 hl
  exact⟨uU _ x hxl,splitA_val (h q hq) x hxl⟩
 obtain⟨h1,h2⟩:=restsF_app [] row h nG.nil (fun x hx=>by cases hx)
 exact⟨(nG.neg fun x hx=>by have:=(uE (hA x hx).1).1;omega).app h1,oQ.app (fun x hx=>(hA x hx).2) (h2.map _)⟩
theorem join_len{row:List Pt}{n:Nat}(h:∀q∈row,q.nodes.length≤n):(bJ row).length≤row.length*n:=by
 unfold bJ
 rw[List.length_append,List.length_map,restsF_len,attrsOf_len]
 induction row with
 | nil=>simp
 | cons q r ih=>
   have h1:=h q List.mem_cons_self
   have h2:=kL q.nodes
   have ih:=ih fun x hx=>h x (List.mem_cons_of_mem _ hx)
   simp only[List.map_cons,List.sum_cons,List.length_cons,Nat.add_mul,Nat.one_mul,List.length_nil]at ih ⊢
   omega
structure MergedOk(ps:List Pt)(n:Nat)(q:Pt):Prop where
 of:∃p∈ps,q.kind=p.kind∧q.target=p.target∧q.text=p.text
 ord:nG q.nodes
 val:oQ q.nodes
 len:q.nodes.length≤ps.length*n
theorem merge_ok{ps:List Pt}{n:Nat}(hs:∀p∈ps,aU p.nodes=true)(hn:∀p∈ps,p.nodes.length≤n):∀q∈dA ps,MergedOk ps n q:=fun q hq=>by
 unfold dA at hq
 rw[if_pos (List.all_eq_true.2 fun p hp=>hs p hp)]at hq
 obtain⟨out,ho,hqo⟩:=List.mem_flatten.1 hq
 obtain⟨row,hrow,rfl⟩:=List.mem_map.1 ho
 obtain⟨hmem,-⟩:=pQ hrow
 have hmem':∀x∈row,x∈ps:=fun x hx=>oI (hmem x hx)
 have hrl:row.length≤ps.length:=by
  have:=sV hrow
  rwa [oH]at this
 have self:∀p∈ps,MergedOk ps n p:=fun p hp=>⟨⟨p,hp,rfl,rfl,rfl⟩,split_ord (hs p hp),split_val (hs p hp),by
  have h1:=hn p hp
  have h2:0<ps.length:=List.length_pos_of_mem hp
  exact Nat.le_trans h1 (Nat.le_mul_of_pos_left _ h2)⟩
 cases row with
 | nil=>simp[dP]at hqo
 | cons p r=>
   have hp:=hmem' p List.mem_cons_self
   simp only[dP]at hqo
   split at hqo
   ·exact self q (hmem' q hqo)
   ·split at hqo
    ·rw[List.mem_singleton.1 hqo]
     exact self p hp
    ·rw[List.mem_singleton.1 hqo]
     obtain⟨h1,h2⟩:=join_ok (row:=p::r) (fun x hx=>hs x (hmem' x hx))
     exact⟨⟨p,hp,rfl,rfl,rfl⟩,h1,h2,Nat.le_trans (join_len fun x hx=>hn x (hmem' x hx)) (Nat.mul_le_mul_right _ hrl)⟩
def iN(S:List PN)(qs:List Pt):List PN:=qs.foldl (fun S q=>tQ S q q.target.toNat) S
def dF(S:List PN):List Nd:=tg S S.length 0 (-1) 0
def bX(t:List Nd)(l:List Pt):Int × List Nd:=
 if dU t l≠0 then(dU t l,[])
 else
  let S:=iN (dI [] t).S (dA l)
  if twB S S.length 0=true then(282,[])
  else if 16384<(dF S).length then(3,[])
  else if eG (gN (dF S)) true≠0 then(eG (gN (dF S)) true,[])
  else(0,gN (dF S))
theorem uG{t:List Nd}{l:List Pt}(h:dU t l=0):eG t true=0∧l.length≤1000∧∀p∈l,iL p=true∧jA t p=true∧dM (nd t p.target) p=true:=by
 unfold dU at h
 split at h
 ·omega
 ·split at h
  ·omega
  ·split at h
   ·rename_i g;exact absurd h g
   ·rename_i g1 g2 g3
    refine⟨by omega,by omega,fun p hp=>sP (mW (by omega) p hp)⟩
theorem alone_split{p:Pt}(h:iL p=true):aU p.nodes=true:=by
 unfold iL at h
 simp only[Bool.and_eq_true]at h
 exact h.2
theorem alone_short{p:Pt}(h:iL p=true)(hk:p.kind=9):p.text.size≤65536:=by
 unfold iL at h
 simp only[Bool.and_eq_true,Bool.not_eq_true',Bool.or_eq_false_iff,decide_eq_true_eq]at h
 have:=h.1.2.1.2
 simp only[Bool.and_eq_false_iff,decide_eq_false_iff_not,Bool.not_eq_false']at this
 rcases this with h1|h1
 ·exact absurd hk h1
 ·exact xG h1
theorem becomes_value{n:Nd}{p:Pt}(h:dM n p=true)(hk:p.kind=2):p.text.size≤65536:=by
 unfold dM at h
 rw[if_pos hk]at h
 split at h
 ·exact xG h
 ·unfold fragB at h
  exact wT (of_decide_eq_true h) _ List.mem_cons_self
theorem aimed_lt{t:List Nd}{p:Pt}(h:jA t p=true):0≤p.target∧p.target<t.length∧tH p.kind (nd t p.target).kind=true:=by
 unfold jA at h
 simp only[Bool.and_eq_true,decide_eq_true_eq]at h
 exact⟨h.1.1,h.1.2,h.2.2⟩
theorem target_root{k:Int}(hk:k∈[4,5,8,10]):tH k 1=false:=by
 simp only[List.mem_cons,List.not_mem_nil,or_false]at hk
 rcases hk with rfl|rfl|rfl|rfl<;>rfl
theorem apStep_same{n0:Nat}{st:oO}{n:Nd}{i:Nat}{s:PN}(h:st.S[i]? = some s):∃s',(cK n0 st n).S[i]? = some s'∧s'.row=s.row∧s'.up=s.up:=by
 have hi:=(List.getElem?_eq_some_iff.1 h).1
 have hl:∀s0:PN,(st.S++[s0])[i]? = some s:=fun s0=>by rw[List.getElem?_append_left hi];exact h
 unfold cK
 simp only
 split
 ·split
  ·rename_i s1 hs1
   simp only
   rw[List.getElem?_set]
   by_cases e:n0+n.parent.toNat=i
   ·rw[e]at hs1 ⊢
    rw[hl]at hs1
    cases hs1
    rw[if_pos rfl,if_pos (by simp;omega)]
    refine⟨_,rfl,?_,?_⟩<;>split<;>rfl
   ·rw[if_neg e]
    exact⟨s,hl _,rfl,rfl⟩
  ·exact⟨s,hl _,rfl,rfl⟩
 ·split
  ·exact⟨s,hl _,rfl,rfl⟩
  ·exact⟨s,hl _,rfl,rfl⟩
theorem apRun_same{n0:Nat}:∀(l:List Nd) (st:oO) {i:Nat} {s:PN},st.S[i]? = some s→∃s',(fF n0 st l).S[i]? = some s'∧s'.row=s.row∧s'.up=s.up
 | [],_,_,s,h=>⟨s,h,rfl,rfl⟩
 | n::r,st,i,s,h=>by
   obtain⟨s1,h1,h2,h3⟩:=apStep_same (n0:=n0) (n:=n) h
   obtain⟨s2,k1,k2,k3⟩:=apRun_same r (cK n0 st n) h1
   exact⟨s2,k1,k2.trans h2,k3.trans h3⟩
def upI(n0:Nat)(p:Int):Option Nat:=if 0≤p then some (n0+p.toNat)else none
theorem apStep_new{n0:Nat}{st:oO}{n:Nd}:∃s',(cK n0 st n).S[st.S.length]? = some s'∧s'.row=n∧s'.up=upI n0 n.parent:=by
 unfold cK upI
 simp only
 split
 ·split
  ·rename_i s1 hs1
   simp only
   rw[List.getElem?_set]
   by_cases e:n0+n.parent.toNat=st.S.length
   ·rw[e]at hs1 ⊢
    rw[List.getElem?_append_right (Nat.le_refl _),Nat.sub_self]at hs1
    simp only[List.getElem?_cons_zero,Option.some.injEq]at hs1
    subst hs1
    rw[if_pos rfl,if_pos (by simp)]
    refine⟨_,rfl,?_,?_⟩<;>split<;>rfl
   ·rw[if_neg e]
    exact⟨_,by rw[List.getElem?_append_right (Nat.le_refl _),Nat.sub_self];rfl,rfl,rfl⟩
  ·exact⟨_,by rw[List.getElem?_append_right (Nat.le_refl _),Nat.sub_self];rfl,rfl,rfl⟩
 ·split
  ·exact⟨_,by rw[List.getElem?_append_right (Nat.le_refl _),Nat.sub_self];rfl,rfl,rfl⟩
  ·exact⟨_,by rw[List.getElem?_append_right (Nat.le_refl _),Nat.sub_self];rfl,rfl,rfl⟩
theorem apRun_row{n0:Nat}:∀(l:List Nd) (st:oO) (i:Nat) (h:i<l.length),∃s,(fF n0 st l).S[st.S.length+i]? = some s∧s.row=l[i]∧s.up=upI n0 (l[i]).parent
 | [],_,i,h=>absurd h (Nat.not_lt_zero _)
 | n::r,st,0,h=>by
   obtain⟨s1,h1,h2,h3⟩:=apStep_new (n0:=n0) (st:=st) (n:=n)
   obtain⟨s2,k1,k2,k3⟩:=apRun_same (n0:=n0) r (cK n0 st n) h1
   exact⟨s2,k1,k2.trans h2,k3.trans h3⟩
 | n::r,st,i+1,h=>by
   obtain⟨s,h1,h2,h3⟩:=apRun_row r (cK n0 st n) i (by simpa using h)
   rw[jW,show st.S.length+1+i=st.S.length+(i+1)by omega]at h1
   exact⟨s,h1,h2,h3⟩
theorem apart_row(t:List Nd){i:Nat}(h:i<t.length):∃s,(dI [] t).S[i]? = some s∧s.row=t[i]∧s.up=upI 0 (t[i]).parent:=by
 have:=apRun_row (n0:=0) t ⟨[],[],[]⟩ i h
 rw[show([]:List PN).length+i=i by simp]at this
 exact this
theorem SI.nil:SI [] []:=⟨(fun i s h=>by simp at h),(fun i s h=>by simp at h),(fun j h=>by cases h),(fun k=>by simp[cnt]),(fun i s h=>by simp at h)⟩
theorem tree_SI{t:List Nd}(h:eG t true=0)(hw:∀x∈t,x.Wf):SI (dI [] t).S []:=
 (apartP_SI SI.nil (fun n hn=>⟨(hw n hn).kind,(hw n hn).name,wT h n hn⟩) (nG.of_ord (oU h))).drop
structure Good(S0:List PN)(m:Nat)(q:Pt):Prop where
 tgt:0≤q.target∧q.target.toNat<S0.length
 rows:∀n∈q.nodes,wE n
 par:nG q.nodes
 text:q.kind=2∨q.kind=9→q.text.size≤65536
 name:q.text.size≤140737488355328
 up:q.kind∈[4,5,8,10]→∃s u,S0[q.target.toNat]? = some s∧s.up=some u
 len:q.nodes.length≤m
theorem good_merged{t:List Nd}{l:List Pt}{n:Nat}(hc:dU t l=0)(hn:∀p∈l,p.nodes.length≤n){q:Pt}(hq:q∈dA l)(hw:∀x∈q.nodes,x.Wf)(hx:q.text.size≤140737488355328):Good (dI [] t).S (l.length*n) q:=by
 obtain⟨h1,-,h3⟩:=uG hc
 have hM:=merge_ok (fun p hp=>alone_split (h3 p hp).1) hn q hq
 obtain⟨p,hp,e1,e2,e3⟩:=hM.of
 obtain⟨a1,a2,a3⟩:=h3 p hp
 obtain⟨b1,b2,b3⟩:=aimed_lt a2
 have hl:(dI [] t).S.length=t.length:=by rw[mM];simp
 have hxl:p.target.toNat<t.length:=by omega
 refine⟨by rw[e2,hl];exact⟨b1,hxl⟩,fun m hm=>⟨(hw m hm).kind,(hw m hm).name,hM.val m hm⟩,hM.ord,fun hk=>?_,hx,fun hk=>?_,hM.len⟩
 ·rw[e3]
  rw[e1]at hk
  rcases hk with hk|hk
  ·exact becomes_value a3 hk
  ·exact alone_short a1 hk
 ·rw[e2]
  rw[e1]at hk
  obtain⟨s,hs,hr,hu⟩:=apart_row t hxl
  obtain⟨c1,c2,c3⟩:=u7 h1
  have hne:p.target.toNat≠0:=fun e=>by
   have:(nd t p.target).kind=1:=by
    have e':p.target=((0:Nat):Int):=by omega
    rw[e'];exact c2
   rw[this,target_root hk]at b3
   cases b3
  obtain⟨d1,d2⟩:=c3 p.target.toNat (by omega) hxl
  rw[eT hxl]at d1
  exact⟨s,0+(t[p.target.toNat]).parent.toNat,hs,by rw[hu];simp only[upI,if_pos d1]⟩
structure After(S0 S:List PN)(k m:Nat):Prop where
 si:SI S []
 keeps:Keeps S0.length S0 S
 len:S0.length≤S.length∧S.length≤S0.length+k*(m+1)
theorem After.partOk{S0 S:List PN}{k m:Nat}{q:Pt}(h:After S0 S k m)(hq:Good S0 m q):PartOk S q q.target.toNat:=
 ⟨hq.rows,hq.par,hq.text,hq.name,fun hk=>by
  obtain⟨s,u,hs,hu⟩:=hq.up hk
  obtain⟨s',hs',hu',-⟩:=h.keeps _ hq.tgt.2 s hs
  exact⟨s',u,hs',hu'.trans hu⟩⟩
theorem After.next{S0 S:List PN}{k m:Nat}{q:Pt}(h:After S0 S k m)(hq:Good S0 m q):After S0 (tQ S q q.target.toNat) (k+1) m:=by
 have hl:=h.len
 have hN:=do_next h.si (show q.target.toNat<S.length by have:=hq.tgt.2;omega) (h.partOk hq)
 have hlen:=hq.len
 refine⟨hN.si,h.keeps.trans (fun i hi s hs=>hN.keeps i (by omega) s hs),?_⟩
 have:=hN.len
 rw[Nat.add_mul,Nat.one_mul]
 omega
theorem doAll_snoc(S:List PN)(qs:List Pt)(q:Pt):iN S (qs++[q])=tQ (iN S qs) q q.target.toNat:=by simp[iN]
theorem tg_mem(S:List PN):∀(n i:Nat) (par:Int) (pos:Nat) (y:Nd),y∈tg S n i par pos→∃(j:Nat) (s:PN) (q:Int),S[j]? = some s∧y=withParent s.row q∧(q=par∨(pos≤q∧q<pos+(tg S n i par pos).length))
 | 0,_,_,_,_,h=>by simp[tg]at h
 | n+1,i,par,pos,y,h=>by
   simp only[tg]at h ⊢
   cases hs:S[i]? with
   | none=>rw[hs]at h;simp at h
   | some s=>
     rw[hs]at h
     simp only at h ⊢
     rcases List.mem_cons.1 h with rfl|h
     ·exact⟨i,s,par,hs,rfl,.inl rfl⟩
     ·have key:∀(l:List Nat) (p0:Nat),y∈nC (tg S n) pos p0 l→pos<p0→∃(j:Nat) (s:PN) (q:Int),S[j]? = some s∧y=withParent s.row q∧(pos:Int)≤q∧q<p0+(nC (tg S n) pos p0 l).length:=by
       intro l
       induction l with
       | nil=>intro p0 hy;simp[nC]at hy
       | cons j r ih=>
         intro p0 hy hp
         simp only[nC]at hy ⊢
         rw[List.length_append]
         rcases List.mem_append.1 hy with hy|hy
         ·obtain⟨k,t,q,h1,h2,h3⟩:=tg_mem S n j pos p0 y hy
          have hpos:0<(tg S n j pos p0).length:=List.length_pos_of_mem hy
          refine⟨k,t,q,h1,h2,?_⟩
          rcases h3 with h3|h3
          ·omega
          ·omega
         ·obtain⟨k,t,q,h1,h2,h3,h4⟩:=ih _ hy (by omega)
          exact⟨k,t,q,h1,h2,h3,by omega⟩
      obtain⟨k,t,q,h1,h2,h3,h4⟩:=key _ _ h (by omega)
      exact⟨k,t,q,h1,h2,.inr ⟨h3,by simp only[List.length_cons];omega⟩⟩
theorem rows_wf{S:List PN}{ex:List Nat}(h:SI S ex)(hl:S.length≤1000000000000):∀y∈dF S,y.Wf∧y.value.size≤65536:=fun y hy=>by
 obtain⟨j,s,q,h1,rfl,h3⟩:=tg_mem S _ _ _ _ y hy
 have hr:=h.row j s h1
 have hv:=hr.value
 have hle:=tg_le h S.length 0 (-1) 0
 refine⟨⟨hr.kind,?_,hr.name,by simp only[withParent];omega⟩,hv⟩
 simp only[withParent]
 rcases h3 with h3|h3<;>omega
theorem d9.chM{M:Nat→Prop}{w w':World}{D:Nat}{vo:Value}{outs:List aR}{ps:List Pt}(h:d9 w D vo outs ps)(hC:Ch M w w')(hM:∀k,D≤k→k<w.heap.size→¬M k):d9 w' D vo outs ps:=
 ⟨hC.vec h.vec (fun g hg=>hM g (h.vec.ge hg).1 (h.vec.ge hg).2),h.len,fun i r p h1 h2=>by
  obtain⟨a,b,c,d,e,f⟩:=h.el i r p h1 h2
  exact⟨a,b,hC.vec c (fun g hg=>hM g (c.ge hg).1 (c.ge hg).2),d,e,f⟩,h.dif⟩
theorem iY.nil(w:World)(B:Nat)(fo:Fo):iY w B (fun _=>0) fo []:=⟨fun _ _=>rfl,fun _=>Nat.zero_le _,fun i s h=>by simp at h,fun i s h=>by simp at h⟩
set_option maxHeartbeats 3200000 in
theorem rC(vt vl:Value)(t:List Nd)(l:List Pt)(w:World)(ht:aJ w vt t)(hl:PartsAt w vl l)(hG:jV w)(hnl:∀p∈l,p.nodes.length≤100000) :
  bV Tryz.prog 16 #[vt,vl] w (fun v w'=>∃vo,v=.tuple #[vo,.int .i64 (bX t l).1]∧Vec w' w.heap.size 50 4 vo ((bX t l).2.map Nd.cells)∧aJ w' vo (bX t l).2∧Ext w w'):=by
 have hml:maxLen=9223372036854775807:=rfl
 have fail:∀(e:Int) (w':World),Ext w w'→bX t l=(e,[])→∃vo,Value.tuple #[.slice none 0 0,.int .i64 e]=.tuple #[vo,.int .i64 (bX t l).1]∧Vec w' w.heap.size 50 4 vo ((bX t l).2.map Nd.cells)∧aJ w' vo (bX t l).2∧Ext w w':=fun e w' hE h=>by
  rw[h]
  exact⟨_,rfl,Vec.nil _ _ _ _,⟨eO.nil _ _,by simp,by simp⟩,hE⟩
 refine enter aB Tryz.func16 (aV rfl) rfl rfl rfl ?_
 refine aA.mk _ (PCheck_con vt vl t l w ht hl hG) ?_
 rintro v w1 ⟨rfl,hE1⟩
 refine Cond.dH (fun g1=>?_) (fun g1=>?_)
 ·exact fail _ w1 hE1 (by simp only[bX];rw[if_pos g1])
 obtain⟨c1,c2,c3⟩:=uG g1
 have htl:=(rE c1).1
 refine aA.mk _ (apart_con vt t w1 w1.heap.size (fun _=>0) ⟨fun _=>0,fun _=>.slice none 0 0,fun _=>.slice none 0 0⟩ [] (ht.ext hE1) (iY.nil _ _ _) ⟨fun i s h=>by simp at h,fun i s h=>by simp at h⟩ (Nat.le_refl _) (nG.of_ord (oU c1))) ?_
 rintro v w2 ⟨own1,fo1,vall,vat,vkd,hv,hA⟩
 subst hv
 have hE2:=hE1.trans hA.ext
 refine aA.mk _ (p8 vl l w2 (hl.ext hE2) (hG.ext hE2) c2 (fun p hp=>Nat.le_trans (hnl p hp) (by decide))) ?_
 rintro v3 w3 ⟨outs,hO,hE3⟩
 obtain⟨qs,hqs⟩:∃qs,qs=dA l:=⟨_,rfl⟩
 obtain⟨S0,hS0⟩:∃S0,S0=(dI [] t).S:=⟨_,rfl⟩
 have hap:bX t l=(let S:=iN S0 qs
   if twB S S.length 0=true then(282,[])
   else if 16384<(dF S).length then(3,[])
   else if eG (gN (dF S)) true≠0 then(eG (gN (dF S)) true,[])
   else(0,gN (dF S))):=by
  simp only[bX]
  rw[if_neg (by rw[g1];simp),hS0,hqs]
 have hqlen:qs.length≤l.length:=by
  rw[hqs]
  unfold dA
  split
  ·have:=outs_len (qF fI (eH kp l)) (qF fI (eH kp l)).length
   rw[List.take_length]at this
   refine Nat.le_trans this ?_
   unfold qF
   rw[qG _ _ (Nat.le_refl _),oH]
   exact Nat.le_refl _
  ·exact Nat.zero_le _
 have hgood:∀(k:Nat) (r:aR) (q:Pt),outs[k]? = some r→qs[k]? = some q→Good S0 (1000*100000) q:=fun k r q h1 h2=>by
  obtain⟨-,⟨-,-,b3⟩,-,d,-,-⟩:=hO.el k r q h1 (by rw[←hqs];exact h2)
  have hq:q∈dA l:=by rw[←hqs];exact List.mem_of_getElem? h2
  have:=good_merged g1 hnl hq d b3
  rw[←hS0]at this
  exact⟨this.tgt,this.rows,this.par,this.text,this.name,this.up,Nat.le_trans this.len (Nat.mul_le_mul_right _ c2)⟩
 rw[←hqs]at hO
 have hAS:iY w2 w1.heap.size own1 fo1 S0:=by rw[hS0];exact hA.foat
 have hS0l:S0.length=t.length:=by rw[hS0,mM];simp
 have hsz2:=hA.ext.sz
 have hsz1:=hE1.sz
 have hsz3:=hE3.sz
 have hallr:(List.range t.length).map (0+·)=List.range t.length:=by simp
 have hall:=hA.all
 rw[show([]:List PN).length=0 from rfl,hallr]at hall
 have hol:=hO.len
 obtain⟨oo,oc,hoe,o1,o2,o3,-,-⟩:=hO.vec.shape
 obtain⟨ao,ac,hae,a1,a2,a3,-,-⟩:=hall.shape
 rw[List.length_map]at hoe o1
 rw[aW,List.length_range]at hae a1
 have hft:∀k,k<w1.heap.size→own1 k=0:=fun k hk=>hA.own k hk
 have hfr:∀k,w2.heap.size≤k→own1 k=0:=hAS.fresh
 rw[hoe]
 rw[hoe]at hO
 rw[hae]
 rw[hae]at hall
 have hM0:After S0 (iN S0 (qs.take 0)) 0 (1000*100000):=⟨by rw[hS0];exact tree_SI c1 ht.wf,Keeps.refl _ _,Nat.le_refl _,Nat.le_add_right _ _⟩
 refine aH.mk (X:=Nat × (Nat→Nat) × Fo) (fun x=>[(7,.slice ao t.length ac),(27,.slice oo outs.length oc),(28,.int .i64 outs.length),(29,.int .i64 x.1)])
  (fun x w'=>x.1≤outs.length∧DoOk w3.heap.size w3 w' w1.heap.size own1 x.2.1 fo1 x.2.2 S0 (iN S0 (qs.take x.1))∧After S0 (iN S0 (qs.take x.1)) x.1 (1000*100000)) (fun x=>outs.length-x.1) (0,own1,fo1)
  ⟨Nat.zero_le _,⟨hAS.ext hE3,Ch.refl _ _,fun k _ h=>h,fun i _=>rfl⟩,hM0⟩ ⟨rfl,rfl,rfl,rfl,trivial⟩ ?_
 rintro⟨k,own2,fo2⟩ w4 ⟨hk,hD,hI⟩
 simp only at hk hD hI ⊢
 have hsz4:=hD.ch.size
 have hO4:=hO.chM hD.ch (fun g h1 h2 h=>by
  rcases h with h|h
  ·exact h (hfr g h1)
  ·omega)
 have hall4:=hD.ch.vec (hall.ext hE3) (fun g hg h=>by
  have h1:=(hall.ge hg).2
  rcases h with h|h
  ·exact h (hA.ta g (by rw[hae];exact hg))
  ·omega)
 refine Cond.dec (fun g2=>?_) (fun g2=>?_)
 ·have hkl:k<outs.length:=by omega
  have hkq:k<qs.length:=by omega
  obtain⟨q,hq⟩:∃q,qs[k]? = some q:=⟨_,List.getElem?_eq_getElem hkq⟩
  obtain⟨r,hr⟩:∃r,outs[k]? = some r:=⟨_,List.getElem?_eq_getElem hkl⟩
  have hgd:=hgood k r q hr hq
  obtain⟨⟨e1,e2,e3⟩,⟨k1,k2,k3⟩,hn4,hwf4,hln4,-⟩:=hO4.el k r q hr hq
  have htk:iN S0 (qs.take (k+1))=tQ (iN S0 (qs.take k)) q q.target.toNat:=by
   rw[List.take_add_one,hq,Option.toList_some,doAll_snoc]
  have hI':=hI.next hgd
  rw[←htk]at hI'
  have hpo:=hI.partOk hgd
  have hIl:=hI.len
  have hbound:(iN S0 (qs.take k)).length≤16384+1000*(1000*100000+1):=by
   have:k*(1000*100000+1)≤1000*(1000*100000+1):=Nat.mul_le_mul_right _ (by omega)
   omega
  obtain⟨Sk,hSk⟩:∃Sk,Sk=iN S0 (qs.take k):=⟨_,rfl⟩
  rw[←hSk]at hD hI hpo htk hIl hbound
  obtain⟨a,ha,hc⟩:=hO4.vec.sl.el _ _ _ rfl k r.cells (by rw[List.getElem?_map,hr];rfl)
  refine Idx.mk a ha (by omega) (by omega) ?_
  refine Load.here (hc.all' rfl) ?_
  obtain⟨no,nc,hne,-,-,-,-,-⟩:=hn4.shape
  have hrone:∀u∈r.cells,u.oneCell'=true:=fun u hu=>by
   simp only[aR.cells,List.mem_cons,List.not_mem_nil,or_false]at hu
   rcases hu with rfl|rfl|rfl|rfl
   ·rfl
   ·rfl
   ·rfl
   ·rw[hne];rfl
  refine aG.alloc _ [.int .u8 0,.int .i64 0,.string ⟨#[]⟩,.slice none 0 0] jI rfl fun b w5 n5=>?_
  refine bA.store b 0 _ r.cells 41 rfl rfl (by kernel_rfl) n5.blk (by simp[aR.cells]) hrone fun w6 hU6=>?_
  have n6:=n5.upd hU6
  have hbl:bQ w6 b r.cells 41:=n6.blk
  have hEd:=Ext.drew w6
  have hE6:=n6.ext.trans hEd
  have hbd:=hbl.ext hEd
  refine aQ.mk aB mixed (allT 0 6++[(6,false)]) [6] (by kernel_rfl) (fun w'=>w'=w6.drew) rfl ?_
  refine Load.here (hbd.cells.one (k:=1) rfl) ?_
  have htg:=hgd.tgt
  have hxk:q.target.toNat<Sk.length:=by omega
  obtain⟨s,hs⟩:∃s,Sk[q.target.toNat]? = some s:=⟨_,List.getElem?_eq_getElem hxk⟩
  have hxe:fo2.b q.target.toNat=fo1.b q.target.toNat:=hD.same _ htg.2
  obtain⟨a',ha',hc'⟩:=(hall4.ext hE6).sl.el _ _ _ rfl q.target.toNat [fQ fo2.b q.target.toNat] (by
   have:q.target.toNat<t.length:=by omega
   simp[ptrs,this,fQ,hxe])
  refine Idx.mk a' ha' (by rw[e2];omega) (by rw[e2];omega) ?_
  rw[e2]
  refine Load.here (hc'.one (k:=0) rfl) ?_
  refine Load.here (hbd.cells.all' rfl) ?_
  have hptd:gM w6.drew r q:=⟨e1,e2,e3,(hn4.nodes hwf4 hln4).ext hE6,k1,k2,k3⟩
  have hszd:=hE6.sz
  refine aA.mk _ (do_con w3.heap.size q.target.toNat Sk.length r q w6.drew w1.heap.size own2 fo2 Sk s (hD.foat.ext hE6) hs hptd hI.si.named (by omega) (by omega) (fun hk=>by
   obtain⟨s',u,hs',hu⟩:=hpo.up hk
   rw[hs]at hs'
   cases hs'
   exact⟨u,hu⟩) hgd.par (fun i si hi=>hI.si.len hi) (by have:=hgd.len;omega)) ?_
  rintro v w7 ⟨-,own3,fo3,hD7⟩
  have hDn:DoOk w3.heap.size w4 w6.drew w1.heap.size own2 own2 fo2 fo2 Sk Sk:=⟨hD.foat.ext hE6,Ch.aL hE6,fun k _ h=>h,fun i _=>rfl⟩
  have hD8:=(hD.trans hDn (by omega)).trans hD7 (by omega)
  rw[←htk]at hD8
  refine Ar.aM (k+1) (by omega) (by omega) ?_
  exact⟨(k+1,own3,fo3),⟨by show k+1≤_;omega,hD8,hI'⟩,by show outs.length-(k+1)<outs.length-k;omega,rfl,rfl,rfl,rfl,trivial⟩
 have hkl:qs.take k=qs:=by rw[show k=qs.length by omega,List.take_length]
 rw[hkl]at hD hI
 obtain⟨S,hS⟩:∃S,S=iN S0 qs:=⟨_,rfl⟩
 rw[←hS]at hD hI hap
 simp only at hap
 have hIl:=hI.len
 have hbound:S.length≤16384+1000*(1000*100000+1):=by
  have:k*(1000*100000+1)≤1000*(1000*100000+1):=Nat.mul_le_mul_right _ (by omega)
  omega
 have ht0:=(u7 c1).1
 have hB4:Ext w w4:=by
  refine(hE2.trans hE3).cZ (B:=w.heap.size) (hD.ch.below (by omega) fun g h=>?_) (Nat.le_refl _)
  rcases h with h|h
  ·rcases Nat.lt_or_ge g w1.heap.size with h2|h2
   ·exact absurd (hft g h2) h
   ·omega
  ·omega
 obtain⟨a',ha',hc'⟩:=hall4.sl.el _ _ _ rfl 0 [fQ fo2.b 0] (by
  have:=hD.same 0 (by omega)
  simp[ptrs,ht0,fQ,this])
 have hlens:∀(i:Nat) (s:PN),S[i]? = some s→s.attrs.length≤1000000000000∧s.kids.length≤1000000000000:=fun i s hs=>by
  have:=hI.si.len hs
  omega
 refine Idx.mk a' ha' (by omega) (by omega) ?_
 refine Load.here (hc'.one (k:=0) rfl) ?_
 refine aA.mk _ (twice_con w1.heap.size own2 fo2 S hI.si.down hlens S.length 0 w4 (by omega) (by omega) hD.foat) ?_
 rintro v w5 ⟨rfl,hE5⟩
 refine Cond.mk (fun g3=>?_) (fun g3=>?_)
 ·exact fail _ w5 (hB4.trans hE5) (by rw[hap,if_pos g3])
 rw[if_neg (by rw[g3];simp)]at hap
 have hall5:=hall4.ext hE5
 obtain⟨a5,ha5,hc5⟩:=hall5.sl.el _ _ _ rfl 0 [fQ fo2.b 0] (by
  have:=hD.same 0 (by omega)
  simp[ptrs,ht0,fQ,this])
 have hB5:=hB4.trans hE5
 have hsz5:=hB5.sz
 have hrl:=tg_le hI.si S.length 0 (-1) 0
 refine Idx.mk a5 ha5 (by omega) (by omega) ?_
 refine Load.here (hc5.one (k:=0) rfl) ?_
 refine aA.mk _ (together_con 0 w5 w1.heap.size w.heap.size own2 fo2 S (hD.foat.ext hE5) hI.si.down hlens (by omega) hsz1 hsz5 (by omega)) ?_
 rintro v6 w6 ⟨hv6,hB6⟩
 have hE6:Ext w w6:=hB5.cZ hB6 (Nat.le_refl _)
 have hrw:=rows_wf hI.si (by omega)
 have hrows:tg S S.length 0 (-1) 0=dF S:=rfl
 rw[hrows]at hv6 hrl
 have hN6:=hv6.nodes (fun y hy=>(hrw y hy).1) (by omega)
 obtain⟨ro,rc,hre,-,-,-,-,-⟩:=hv6.shape
 rw[List.length_map]at hre
 subst hre
 refine Cond.dec (fun g4=>?_) (fun g4=>?_)
 ·exact fail _ w6 hE6 (by rw[hap,if_pos (by omega)])
 rw[if_neg (by omega)]at hap
 refine aA.mk _ (Merge_con (dF S) _ w6 hN6 (fun y hy=>(hrw y hy).2)) ?_
 rintro v7 w7 ⟨hv7,hN7,hE7⟩
 have hE07:=hE6.trans hE7
 refine aA.mk _ (Check_con (gN (dF S)) v7 w7 hN7 (hG.ext hE07)) ?_
 rintro v w8 ⟨rfl,hE8⟩
 have hE08:=hE07.trans hE8
 refine Cond.dH (fun g5=>?_) (fun g5=>?_)
 ·exact fail _ w8 hE08 (by rw[hap,if_pos g5])
 rw[if_neg (by rw[g5];simp)]at hap
 rw[hap]
 have:=hE6.sz
 exact⟨v7,rfl,(hv7.ext hE8).dJ (by omega),hN7.ext hE8,hE08⟩
theorem nX{w w':World}{b:Nat}{l:List Nd}{n:Nat}(h:bO w b (l.map Nd.cells).flatten 50 w')(hn:n=l.length)(hw:∀x∈l,x.Wf)(hl:l.length≤1000000000):aJ w' (.slice (some ⟨b,0,none⟩) n n) l:=by
 refine⟨eO.mk' (by rw[List.length_map,hn]) (Nat.le_refl _) (by rw[hn];simp only[maxLen];omega) (fun e=>by cases e) (El.of_cells h.blk.cells fun x hx=>?_),hw,by omega⟩
 obtain⟨y,_,rfl⟩:=List.mem_map.1 hx
 rfl
theorem nY{w w':World}{b:Nat}{rs:List aR}{l:List Pt}{n:Nat}(h:bO w b (rs.map aR.cells).flatten 41 w')(hn:n=l.length)(hp:PtsAt w' rs l)(hl:l.length≤1000000000):PartsAt w' (.slice (some ⟨b,0,none⟩) n n) l:=by
 refine⟨⟨rs,eO.mk' (by rw[List.length_map,hp.1,hn]) (Nat.le_refl _) (by rw[hn];simp only[maxLen];omega) (fun e=>by cases e) (El.of_cells h.blk.cells fun x hx=>?_),hp⟩,by omega⟩
 obtain⟨y,_,rfl⟩:=List.mem_map.1 hx
 rfl
theorem pts_one{w:World}{r:aR}{p:Pt}(h:gM w r p):PtsAt w [r] [p]:=⟨rfl,fun i r' p' h1 h2=>by
 match i,h1,h2 with
 | 0,h1,h2=>cases h1;cases h2;exact h⟩
theorem lM(w:World):aJ w (.slice none 0 0) []:=⟨eO.nil _ _,by simp,by simp⟩
theorem rT(w:World)(k t:Int)(hk:0≤k∧k≤255)(ht:-9223372036854775808≤t∧t≤9223372036854775807):gM w ⟨k,t,⟨#[]⟩,.slice none 0 0⟩ ⟨k,t,⟨#[]⟩,[]⟩:=
 ⟨rfl,rfl,rfl,lM w,hk,ht,by simp[ByteArray.size]⟩
def dG:List Nd:=[⟨1,⟨#[]⟩,⟨#[]⟩,-1⟩,⟨2,⟨#[97]⟩,⟨#[]⟩,0⟩,⟨2,⟨#[98]⟩,⟨#[]⟩,1⟩,⟨4,⟨#[]⟩,⟨#[120]⟩,1⟩]
theorem small_wf:∀x∈dG,x.Wf:=fun x hx=>by
 simp only[dG,List.mem_cons,List.not_mem_nil,or_false]at hx
 rcases hx with rfl|rfl|rfl|rfl<;>exact⟨by decide,by decide,by decide,by decide⟩
theorem run_small(w:World):(Instr.buildSlice 31 4 #[(0,.agg #[.int .u8 1,.string ⟨#[]⟩,.string ⟨#[]⟩,.int .i64 (-1)]),(1,.agg #[.int .u8 2,.string ⟨#[97]⟩,.string ⟨#[]⟩,.int .i64 0]),(2,.agg #[.int .u8 2,.string ⟨#[98]⟩,.string ⟨#[]⟩,.int .i64 1]),(3,.agg #[.int .u8 4,.string ⟨#[]⟩,.string ⟨#[120]⟩,.int .i64 1])]).run Tryz.prog w =
  .ok (.slice (some ⟨w.heap.size,0,none⟩) 4 4) (w.alloc (.cells (dG.map Nd.cells).flatten.toArray 50)):=by kernel_rfl
theorem run_b50a(w:World):(Instr.build 50 #[(0,.int .u8 1),(3,.int .i64 (-1))]).run Tryz.prog w=.ok (.agg #[.int .u8 1,.string ⟨#[]⟩,.string ⟨#[]⟩,.int .i64 (-1)]) w:=by kernel_rfl
theorem jL(w:World)(k:Int)(s:ByteArray)(p:Int):(Instr.build 50 #[(0,.int .u8 k),(1,.string s),(3,.int .i64 p)]).run Tryz.prog w=.ok (.agg #[.int .u8 k,.string s,.string ⟨#[]⟩,.int .i64 p]) w:=by kernel_rfl
theorem l7(w:World)(k:Int)(s:ByteArray)(p:Int):(Instr.build 50 #[(0,.int .u8 k),(2,.string s),(3,.int .i64 p)]).run Tryz.prog w=.ok (.agg #[.int .u8 k,.string ⟨#[]⟩,.string s,.int .i64 p]) w:=by kernel_rfl
theorem small_con(w:World):bV Tryz.prog 26 #[] w (fun v w'=>aJ w' v dG∧Ext w w'):=by
 refine enter aB Tryz.func26 (aV rfl) rfl rfl rfl ?_
 refine aG.mk _ _ (run_b50a _) ?_
 refine aG.mk _ _ (jL _ _ _ _) ?_
 refine aG.mk _ _ (jL _ _ _ _) ?_
 refine aG.mk _ _ (l7 _ _ _ _) ?_
 refine aG.mk _ _ (run_small _) ?_
 have n:bO w w.heap.size (dG.map Nd.cells).flatten 50 (w.alloc (.cells (dG.map Nd.cells).flatten.toArray 50)):=⟨rfl,rfl⟩
 exact⟨nX n rfl small_wf (by decide),n.ext⟩
def kS(s:ByteArray):List Nd:=[⟨4,⟨#[]⟩,s,-1⟩]
theorem text_con(s:ByteArray)(w:World)(hs:s.size≤140737488355328):bV Tryz.prog 28 #[.string s] w (fun v w'=>aJ w' v (kS s)∧Ext w w'):=by
 refine enter aB Tryz.func28 (aV rfl) rfl rfl rfl ?_
 refine aG.mk _ _ (l7 _ _ _ _) ?_
 refine aG.mk _ _ (aY _ _ _ _ _) ?_
 have n:bO w w.heap.size ((kS s).map Nd.cells).flatten 50 (w.alloc (.cells #[.int .u8 4,.string ⟨#[]⟩,.string s,.int .i64 (-1)] 50)):=⟨rfl,rfl⟩
 exact⟨nX n rfl (fun x hx=>by rw[List.mem_singleton.1 hx];exact⟨by simp,by simp,by simp[ByteArray.size],hs⟩) (by simp[kS]),n.ext⟩
def kT(s:ByteArray):List Nd:=[⟨3,s,⟨#[]⟩,-1⟩]
def pW(e:Int)(n:Nat)(last:ByteArray)(l:List Pt):Bool:=
 decide ((bX dG l).1=e)&&decide ((bX dG l).2.length=n)&&(decide (n=0)||decide ((nd (bX dG l).2 ((n-1:Nat):Int)).value=last))
theorem says_con(e:Int)(n:Nat)(last:ByteArray)(vl:Value)(l:List Pt)(w:World)(hl:PartsAt w vl l)(hG:jV w)(hn:n≤1000000)(hnl:∀p∈l,p.nodes.length≤100000) :
  bV Tryz.prog 27 #[.int .i64 e,.int .i64 n,.string last,vl] w (fun v w'=>v=.bool (pW e n last l)∧Ext w w'):=by
 refine enter aB Tryz.func27 (aV rfl) rfl rfl rfl ?_
 refine aA.mk _ (small_con w) ?_
 rintro v1 w1 ⟨hs,hE1⟩
 refine aA.mk _ (rC v1 vl dG l w1 hs (hl.ext hE1) (hG.ext hE1) hnl) ?_
 rintro v w2 ⟨vo,hv,-,hN,hE2⟩
 subst hv
 have hE:=hE1.trans hE2
 have hsp:pW e n last l=(decide ((bX dG l).1=e)&&decide ((bX dG l).2.length=n)&&(decide (n=0)||decide ((nd (bX dG l).2 ((n-1:Nat):Int)).value=last))):=rfl
 generalize bX dG l=a at *
 obtain⟨o,c,rfl,h1,h2,h3,h4⟩:=hN.open_
 refine aK.bB (fun g1=>?_) (fun g1=>?_)
 ·repeat (first|refine gA ?_|refine gB ?_|refine gC ?_)
  refine aK.bB (fun g2=>?_) (fun g2=>?_)
  ·have hal:a.2.length=n:=by omega
   repeat (first|refine gA ?_|refine gB ?_|refine gC ?_)
   refine aK.bH (fun g3=>?_) (fun g3=>?_)
   ·repeat (first|refine gA ?_|refine gB ?_|refine gC ?_)
    refine Ar.aM (n-1) (by omega) (by omega) ?_
    repeat (first|refine gA ?_|refine gB ?_|refine gC ?_)
    obtain⟨ad,ha,hc⟩:=h4 w2 (Ext.refl _) (n-1) (by omega)
    refine Idx.mk ad ha (by omega) (by omega) ?_
    repeat (first|refine gA ?_|refine gB ?_|refine gC ?_)
    refine Load.here (hc.one (k:=2) rfl) ?_
    repeat (first|refine gA ?_|refine gB ?_|refine gC ?_)
    refine And.intro ?_ hE
    have hn0:¬n=0:=by omega
    have hnd:nd a.2 ((n-1:Nat):Int)=a.2[n-1]:=eT (by omega)
    rw[hsp,hnd]
    simp[aC,g1,hal,hn0]
   ·have hn0:n=0:=by omega
    repeat (first|refine gA ?_|refine gB ?_|refine gC ?_)
    refine And.intro ?_ hE
    rw[hsp]
    simp[aC,g1,hal,hn0]
  ·have hal:¬a.2.length=n:=by omega
   repeat (first|refine gA ?_|refine gB ?_|refine gC ?_)
   refine And.intro ?_ hE
   rw[hsp]
   simp[aC,g1,hal]
 ·repeat (first|refine gA ?_|refine gB ?_|refine gC ?_)
  refine And.intro ?_ hE
  rw[hsp]
  simp[aC,g1]
theorem yT(w:World)(k t:Int)(o:Option Addr)(n c:Nat):(Instr.build 41 #[(0,.int .u8 k),(1,.int .i64 t),(3,.slice o n c)]).run Tryz.prog w=.ok (.agg #[.int .u8 k,.int .i64 t,.string ⟨#[]⟩,.slice o n c]) w:=by kernel_rfl
theorem run_b41k(w:World)(k:Int):(Instr.build 41 #[(0,.int .u8 k)]).run Tryz.prog w=.ok (.agg #[.int .u8 k,.int .i64 0,.string ⟨#[]⟩,.slice none 0 0]) w:=by kernel_rfl
theorem uO(w:World)(k t:Int):(Instr.build 41 #[(0,.int .u8 k),(1,.int .i64 t)]).run Tryz.prog w=.ok (.agg #[.int .u8 k,.int .i64 t,.string ⟨#[]⟩,.slice none 0 0]) w:=by kernel_rfl
theorem run_bs22(w:World)(k t:Int)(s:ByteArray)(o:Option Addr)(n c:Nat):(Instr.buildSlice 22 1 #[(0,.agg #[.int .u8 k,.int .i64 t,.string s,.slice o n c])]).run Tryz.prog w=.ok (.slice (some ⟨w.heap.size,0,none⟩) 1 1) (w.alloc (.cells (([⟨k,t,s,.slice o n c⟩]:List aR).map aR.cells).flatten.toArray 41)):=by kernel_rfl
theorem run_bs22b(w:World)(k t:Int)(s:ByteArray)(o:Option Addr)(n c:Nat)(k' t':Int)(s':ByteArray)(o':Option Addr)(n' c':Nat):(Instr.buildSlice 22 2 #[(0,.agg #[.int .u8 k,.int .i64 t,.string s,.slice o n c]),(1,.agg #[.int .u8 k',.int .i64 t',.string s',.slice o' n' c'])]).run Tryz.prog w=.ok (.slice (some ⟨w.heap.size,0,none⟩) 2 2) (w.alloc (.cells (([⟨k,t,s,.slice o n c⟩,⟨k',t',s',.slice o' n' c'⟩]:List aR).map aR.cells).flatten.toArray 41)):=by kernel_rfl
theorem aG.part{w:World}{k:Value→World→Prop}(r:aR)(p:Pt)(o:Option Addr)(n c:Nat)(hrn:r.nodes=.slice o n c)(hp:gM w r p)(hk:∀v w',PartsAt w' v [p]→Ext w w'→k v w') :
  aG Tryz.prog (Instr.buildSlice 22 1 #[(0,.agg #[.int .u8 r.kind,.int .i64 r.target,.string r.text,r.nodes])]) w k:=by
 obtain⟨rk,rt,rx,rn⟩:=r
 simp only at hrn ⊢
 subst hrn
 have hn:bO w w.heap.size (([⟨rk,rt,rx,.slice o n c⟩]:List aR).map aR.cells).flatten 41 (w.alloc (.cells (([⟨rk,rt,rx,.slice o n c⟩]:List aR).map aR.cells).flatten.toArray 41)):=⟨rfl,rfl⟩
 exact .mk _ _ (run_bs22 w rk rt rx o n c) (hk _ _ (nY hn rfl (pts_one (hp.ext hn.ext)) (by simp)) hn.ext)
theorem aw1:pW 0 4 ⟨#[120,121]⟩ [⟨1,1,⟨#[]⟩,kS ⟨#[121]⟩⟩]=true:=by kernel_rfl
theorem aw2:pW 280 0 ⟨#[]⟩ [⟨10,0,⟨#[]⟩,[]⟩]=true:=by kernel_rfl
theorem aw3:pW 4 0 ⟨#[]⟩ [⟨10,1,⟨#[]⟩,[]⟩]=true:=by kernel_rfl
theorem aw4:pW 0 3 ⟨#[120]⟩ [⟨10,2,⟨#[]⟩,[]⟩]=true:=by kernel_rfl
theorem aw5:(dA [⟨10,0,⟨#[]⟩,[]⟩,⟨10,0,⟨#[]⟩,[]⟩]).length=1:=by kernel_rfl
theorem kK(e:Int)(n:Nat)(last:ByteArray)(vl:Value)(l:List Pt)(w:World)(hl:PartsAt w vl l)(hG:jV w)(hn:n≤1000000)(hnl:∀p∈l,p.nodes.length≤100000)(h:pW e n last l=true) :
  bV Tryz.prog 27 #[.int .i64 e,.int .i64 n,.string last,vl] w (fun v w'=>v=.bool true∧Ext w w'):=by
 rw[←h]
 exact says_con e n last vl l w hl hG hn hnl
theorem rF(w:World)(hG:jV w):bV Tryz.prog 8 #[] w (fun v w'=>v=.bool true∧Ext w w'):=by
 refine enter aB Tryz.func8 (aV rfl) rfl rfl rfl ?_
 refine aA.mk _ (text_con ⟨#[121]⟩ w (by decide)) ?_
 rintro v1 w1 ⟨hN1,hE1⟩
 obtain⟨o,c,hv1,-,-,-,-⟩:=hN1.open_
 rw[hv1]at hN1 ⊢
 refine aG.mk _ _ (yT _ _ _ _ _ _) ?_
 have hp1:gM w1 ⟨1,1,⟨#[]⟩,.slice o (kS ⟨#[121]⟩).length c⟩ ⟨1,1,⟨#[]⟩,kS ⟨#[121]⟩⟩:=⟨rfl,rfl,rfl,hN1,by simp,by simp,by simp[ByteArray.size]⟩
 refine aG.part ⟨1,1,⟨#[]⟩,.slice o (kS ⟨#[121]⟩).length c⟩ _ o _ c rfl hp1 fun v2 w2 hP2 hE2=>?_
 have hE02:=hE1.trans hE2
 refine aA.mk _ (kK 0 4 ⟨#[120,121]⟩ v2 _ w2 hP2 (hG.ext hE02) (by omega) (by simp[kS]) aw1) ?_
 rintro v w3 ⟨rfl,hE3⟩
 have hE03:=hE02.trans hE3
 repeat (first|refine gA ?_|refine gB ?_|refine gC ?_)
 refine aG.mk _ _ (run_b41k _ _) ?_
 repeat (first|refine gA ?_|refine gB ?_|refine gC ?_)
 refine aG.part ⟨10,0,⟨#[]⟩,.slice none 0 0⟩ ⟨10,0,⟨#[]⟩,[]⟩ none 0 0 rfl (rT w3 10 0 (by omega) (by omega)) fun v4 w4 hP4 hE4=>?_
 have hE04:=hE03.trans hE4
 repeat (first|refine gA ?_|refine gB ?_|refine gC ?_)
 refine aA.mk _ (kK 280 0 ⟨#[]⟩ v4 _ w4 hP4 (hG.ext hE04) (by omega) (by simp) aw2) ?_
 rintro v w5 ⟨rfl,hE5⟩
 have hE05:=hE04.trans hE5
 repeat (first|refine gA ?_|refine gB ?_|refine gC ?_)
 refine aG.mk _ _ (uO _ _ _) ?_
 repeat (first|refine gA ?_|refine gB ?_|refine gC ?_)
 refine aG.part ⟨10,1,⟨#[]⟩,.slice none 0 0⟩ ⟨10,1,⟨#[]⟩,[]⟩ none 0 0 rfl (rT w5 10 1 (by omega) (by omega)) fun v6 w6 hP6 hE6=>?_
 have hE06:=hE05.trans hE6
 repeat (first|refine gA ?_|refine gB ?_|refine gC ?_)
 refine aA.mk _ (kK 4 0 ⟨#[]⟩ v6 _ w6 hP6 (hG.ext hE06) (by omega) (by simp) aw3) ?_
 rintro v w7 ⟨rfl,hE7⟩
 have hE07:=hE06.trans hE7
 repeat (first|refine gA ?_|refine gB ?_|refine gC ?_)
 refine aG.mk _ _ (uO _ _ _) ?_
 repeat (first|refine gA ?_|refine gB ?_|refine gC ?_)
 refine aG.part ⟨10,2,⟨#[]⟩,.slice none 0 0⟩ ⟨10,2,⟨#[]⟩,[]⟩ none 0 0 rfl (rT w7 10 2 (by omega) (by omega)) fun v8 w8 hP8 hE8=>?_
 have hE08:=hE07.trans hE8
 repeat (first|refine gA ?_|refine gB ?_|refine gC ?_)
 refine aA.mk _ (kK 0 3 ⟨#[120]⟩ v8 _ w8 hP8 (hG.ext hE08) (by omega) (by simp) aw4) ?_
 rintro v w9 ⟨rfl,hE9⟩
 have hE09:=hE08.trans hE9
 repeat (first|refine gA ?_|refine gB ?_|refine gC ?_)
 refine aG.mk _ _ (run_b41k _ _) ?_
 repeat (first|refine gA ?_|refine gB ?_|refine gC ?_)
 refine aG.mk _ _ (run_b41k _ _) ?_
 repeat (first|refine gA ?_|refine gB ?_|refine gC ?_)
 have hn:bO w9 w9.heap.size (([⟨10,0,⟨#[]⟩,.slice none 0 0⟩,⟨10,0,⟨#[]⟩,.slice none 0 0⟩]:List aR).map aR.cells).flatten 41 (w9.alloc (.cells (([⟨10,0,⟨#[]⟩,.slice none 0 0⟩,⟨10,0,⟨#[]⟩,.slice none 0 0⟩]:List aR).map aR.cells).flatten.toArray 41)):=⟨rfl,rfl⟩
 refine aG.mk _ _ (run_bs22b w9 _ _ _ _ _ _ _ _ _ _ _ _) ?_
 repeat (first|refine gA ?_|refine gB ?_|refine gC ?_)
 have hE10:=hE09.trans hn.ext
 have hpp:=fun w=>rT w 10 0 (by omega) (by omega)
 have hP10:=nY (l:=[⟨10,0,⟨#[]⟩,[]⟩,⟨10,0,⟨#[]⟩,[]⟩]) (n:=2) hn rfl ⟨rfl,fun i r p h1 h2=>by
  match i,h1,h2 with
  | 0,h1,h2=>cases h1;cases h2;exact hpp _
  | 1,h1,h2=>cases h1;cases h2;exact hpp _⟩ (by simp)
 refine aA.mk _ (p8 _ _ _ hP10 (hG.ext hE10) (by simp) (by simp)) ?_
 rintro v11 w11 ⟨outs,hO,hE11⟩
 have hol:=hO.len
 rw[aw5]at hol
 obtain⟨oo,oc,hoe,-,-,-,-,-⟩:=hO.vec.shape
 rw[List.length_map,hol]at hoe
 rw[hoe]
 repeat (first|refine gA ?_|refine gB ?_|refine gC ?_)
 exact And.intro rfl (hE10.trans hE11)
def wpA(n:Nat)(p:Pt):Nat:=if n≤20000 then n+1+p.text.size+lS p.nodes else n
def l9(t:List Nd)(l:List Pt):Nat:=l.foldl wpA (lS t)
def nI(t:List Nd)(l:List Pt):Bool:=decide (20000<l9 t l)||decide (300<t.length)||decide (100<l.length)
theorem wpA_big{n:Nat}(h:20000<n):∀l:List Pt,l.foldl wpA n=n
 | []=>rfl
 | x::r=>by
   have:wpA n x=n:=by unfold wpA;rw[if_neg (by omega)]
   rw[List.foldl_cons,this]
   exact wpA_big h r
theorem weighP_take{t:List Nd}{l:List Pt}{k:Nat}(h:20000<l9 t (l.take k)):l9 t l=l9 t (l.take k):=by
 conv=>lhs;unfold l9;rw[←List.take_append_drop k l]
 rw[List.foldl_append]
 exact wpA_big h _
theorem weighP_succ{t:List Nd}{l:List Pt}{k:Nat}(hk:k<l.length)(h:l9 t (l.take k)≤20000):l9 t (l.take (k+1))=l9 t (l.take k)+1+(l[k]).text.size+lS (l[k]).nodes:=by
 rw[List.take_succ_eq_append_getElem hk]
 unfold l9 at *
 rw[List.foldl_append]
 simp only[List.foldl_cons,List.foldl_nil]
 generalize List.foldl wpA (lS t) (List.take k l)=m at *
 unfold wpA
 rw[if_pos h]
theorem weigh_ge:∀(l:List Nd) (n:Nat),n≤l.foldl jQ n∧(l.foldl jQ n≤20000→n+10*l.length≤l.foldl jQ n)
 | [],n=>⟨Nat.le_refl _,fun _=>by simp⟩
 | x::r,n=>by
   have ih:=weigh_ge r (jQ n x)
   have h1:n≤jQ n x:=by unfold jQ;split<;>omega
   refine⟨Nat.le_trans h1 ih.1,fun h=>?_⟩
   have h2:=ih.2 h
   have h3:n+10≤jQ n x:=by
    unfold jQ
    split
    ·omega
    ·have:jQ n x=n:=by unfold jQ;rw[if_neg (by omega)]
     have:=ih.1
     simp only[List.foldl_cons]at h
     omega
   simp only[List.foldl_cons,List.length_cons]at h2 ⊢
   omega
theorem weigh_len{l:List Nd}(h:lS l≤20000):l.length≤2000:=by
 have:=(weigh_ge l 0).2 h
 unfold lS at h
 omega
theorem weighP_ge:∀(l:List Pt) (n:Nat),n≤l.foldl wpA n∧(l.foldl wpA n≤20000→∀p∈l,lS p.nodes≤20000)
 | [],n=>⟨Nat.le_refl _,fun _ p hp=>by cases hp⟩
 | x::r,n=>by
   have ih:=weighP_ge r (wpA n x)
   have h1:n≤wpA n x:=by unfold wpA;split<;>omega
   refine⟨Nat.le_trans h1 ih.1,fun h p hp=>?_⟩
   have h4:=ih.1
   simp only[List.foldl_cons]at h
   rcases List.mem_cons.1 hp with rfl|hp
   ·have:n≤20000:=by omega
    have h5:wpA n p=n+1+p.text.size+lS p.nodes:=by unfold wpA;rw[if_pos this]
    omega
   ·exact ih.2 h p hp
theorem not_great{t:List Nd}{l:List Pt}(h:nI t l=false):t.length≤300∧l.length≤100∧∀p∈l,p.nodes.length≤2000:=by
 unfold nI at h
 simp only[Bool.or_eq_false_iff,decide_eq_false_iff_not]at h
 obtain⟨⟨h1,h2⟩,h3⟩:=h
 refine⟨by omega,by omega,fun p hp=>weigh_len ((weighP_ge l (lS t)).2 (by unfold l9 at h1;omega) p hp)⟩
theorem great_con(vt vl:Value)(t:List Nd)(l:List Pt)(w:World)(ht:aJ w vt t)(hl:PartsAt w vl l) :
  bV Tryz.prog 7 #[vt,vl] w (fun v w'=>v=.bool (nI t l)∧Ext w w'):=by
 have hml:maxLen=9223372036854775807:=rfl
 have hll:=hl.len
 have htl:=ht.len
 obtain⟨o,c,rfl,h1,h2,h3,h4⟩:=hl.open_
 refine enter aB Tryz.func7 (aV rfl) rfl rfl rfl ?_
 refine aA.mk _ (weigh_con ht) ?_
 rintro v w1 ⟨rfl,hE1⟩
 refine aH.mk (X:=Nat) (fun k=>[(0,vt),(1,.slice o l.length c),(5,.int .i64 (l9 t (l.take k))),(6,.int .i64 k)])
  (fun k w'=>Ext w w'∧k≤l.length) (fun k=>l.length-k) 0 ⟨hE1,Nat.zero_le _⟩ ⟨rfl,rfl,rfl,rfl,trivial⟩ ?_
 rintro k w2 ⟨hE,hk⟩
 obtain⟨vo,vc,rfl,v1,v2,v3,v4⟩:=ht.open_
 refine aK.bB (fun g1=>?_) (fun g1=>?_)
 ·repeat (first|refine gA ?_|refine gB ?_|refine gC ?_)
  have hkl:k<l.length:=by omega
  refine Cond.dec (fun g2=>?_) (fun g2=>?_)
  ·obtain⟨a,r,rfl,hc,hp⟩:=h4 w2 hE k hkl
   have hs:=weighP_succ (t:=t) hkl (by omega)
   generalize l[k]=p at *
   have htx:=hp.wtext
   have htxe:=hp.text
   have hEd:=Ext.drew w2
   have hwl:=weigh_le hp.nodes.wf
   refine aQ.mk aB mixed (allT 0 14++[(14,false),(15,true),(16,true)]) [] (by kernel_rfl) (fun w'=>Ext w2.drew w') (Ext.refl _) ?_
   refine Ar.i64 (by omega) ?_
   refine Idx.mk a rfl (by omega) (by omega) ?_
   refine .mk _ (fun _ e=>(hc.ext (hEd.trans e)).one (k:=2) rfl) ?_
   rw[htxe]
   refine Ar.i64 (by omega) ?_
   refine Idx.mk a rfl (by omega) (by omega) ?_
   refine .mk _ (fun _ e=>(hc.ext (hEd.trans e)).one (k:=3) rfl) ?_
   refine aA.mk _ (weigh_con (hp.nodes.ext hEd)) ?_
   rintro v w3 ⟨rfl,hE3⟩
   refine Need.mk hE3 ?_
   refine Ar.i64 (by omega) ?_
   refine Ar.aM (k+1) (by omega) (by omega) ?_
   refine⟨k+1,⟨(hE.trans hEd).trans hE3,by omega⟩,by omega,rfl,rfl,?_,rfl,trivial⟩
   rw[hs]
   rfl
  ·have hw:=weighP_take (t:=t) (l:=l) (k:=k) (by omega)
   have hgt:nI t l=true:=by simp[nI];omega
   rw[hgt]
   refine aK.bH (fun g3=>absurd (show(20000:Int)<(l9 t (l.take k):Nat)by omega) g3) (fun g3=>?_)
   repeat (first|refine gA ?_|refine gB ?_|refine gC ?_)
   exact And.intro rfl hE
 ·have hkl:k=l.length:=by omega
  repeat (first|refine gA ?_|refine gB ?_|refine gC ?_)
  refine Cond.no ?_
  rw[hkl,List.take_length]
  refine aK.bH (fun g2=>?_) (fun g2=>?_)
  ·repeat (first|refine gA ?_|refine gB ?_|refine gC ?_)
   refine aK.bH (fun g3=>?_) (fun g3=>?_)
   ·repeat (first|refine gA ?_|refine gB ?_|refine gC ?_)
    refine And.intro ?_ hE
    have e1:¬20000<l9 t l:=by omega
    have e2:¬300<t.length:=by omega
    simp[aC,nI,e1,e2]
    omega
   ·repeat (first|refine gA ?_|refine gB ?_|refine gC ?_)
    refine And.intro ?_ hE
    have e2:300<t.length:=by omega
    simp[aC,nI,e2]
  ·repeat (first|refine gA ?_|refine gB ?_|refine gC ?_)
   refine And.intro ?_ hE
   have e1:20000<l9 t l:=by omega
   simp[aC,nI,e1]
end Go.Proofs.YtelffdgcikceaaaGreatDoor
end
