/- Texts L1, R1, R2, R3, R4, O1, O2, R5. Appends, closely; marks; LentNodes, KeptNodes, OverNodes. -/
import Derived.Test.YtelffdgcikceaaaGreatDoorXB6
import Derived.Laws.Small
import Derived.BigFrame
set_option linter.unusedSimpArgs false
set_option linter.unusedVariables false
section
namespace Go.V
open Go.RowKit (Below)
structure App2(w:World)(v:Value)(n m:Nat)(w':World)(v':Value):Prop where
 ex:(w.grownBy w' none∧∀b,v'.ownBlock=some b→w.heap.size≤b)∨(∃g c,v=.slice (some ⟨g,0,none⟩) n c∧v'=.slice (some ⟨g,0,none⟩) (n+m) c∧w.grownBy w' (some g))
theorem App2.rel{w w':World}{v v':Value}{n m:Nat}(h:App2 w v n m w' v'):iO w v w' v':=by
 rcases h.ex with ⟨h1,h2⟩|⟨g,c,rfl,rfl,h3⟩
 ·exact⟨⟨h1.os,h1.tape,h1.output,h1.size,fun k hk _=>h1.block k hk (by simp)⟩,fun b hb=>.inr (h2 b hb)⟩
 ·exact⟨h3,fun b hb=>.inl hb⟩
theorem Vec.front{w:World}{B e sz:Nat}{o:Option Addr}{n c:Nat}{xs:List (List Value)}(h:Vec w B e sz (.slice o n c) xs){k:Nat}(hk:k≤xs.length)(ho:o≠none):Vec w B e sz (.slice o k c) (xs.take k):=by
 have hl:∀x∈xs.take k,x.length=sz:=fun x hx=>h.len x (List.mem_of_mem_take hx)
 refine⟨⟨eZ hl,?_⟩,hl⟩
 rcases h.own.2 with ⟨h1,h2⟩|⟨g,cap,cur,hv,hg,hh,hle,hcap,hcur,htake⟩
 ·cases h1;exact absurd rfl ho
 ·refine .inr ⟨g,cap,cur,?_,hg,hh,?_,hcap,hcur,?_⟩
  ·simp only[Value.slice.injEq]at hv
   obtain⟨rfl,-,rfl⟩:=hv
   rw[List.length_take,Nat.min_eq_left hk]
  ·rw[List.length_take];omega
  ·have e1:=eZ hl
   have e2:xs.flatten=(xs.take k).flatten++(xs.drop k).flatten:=by rw[←List.flatten_append,List.take_append_drop]
   rw[e2]at htake
   have e3:=congrArg (List.take ((xs.take k).length*sz)) htake
   rw[List.take_take,←e1,List.take_left]at e3
   rw[←e3,e1]
   congr 1
   rw[List.length_take,Nat.min_eq_left hk]
   exact(Nat.min_eq_left (Nat.mul_le_mul_right _ hk)).symm
theorem App2.old{w w':World}{v v':Value}{D e sz:Nat}{xs ys:List (List Value)}(h:App2 w v xs.length ys.length w' v')(hv:Vec w D e sz v xs)(hv':Vec w' D e sz v' (xs++ys)):Vec w' D e sz v xs:=by
 rcases h.ex with ⟨h1,-⟩|⟨g,c,rfl,rfl,h3⟩
 ·exact⟨hv.own.kept h1 (by cases hb:v.ownBlock with
   | none=>exact .inl rfl
   | some b=>exact .inr (by simp)),hv.len⟩
 ·have:=hv'.front (k:=xs.length) (by rw[List.length_append];omega) (by simp)
  rwa [List.take_left]at this
theorem run_append2{P:Program}{t e sz bytes:Nat}(hE:lG P t e sz bytes){w:World}{B:Nat}{v src:Value}{xs ys:List (List Value)}{ty:Nat}(hv:Vec w B e sz v xs)(hs:eO w src sz ys)
  (hly:∀y∈ys,y.length=sz∧∀u∈y,u.oneCell'=true) (hb:(xs.length+ys.length)*bytes≤140737488355328) (h63:xs.length+ys.length≤maxLen) (hB:B≤w.heap.size) (hp:0<ys.length) :
  ∃v' w',(Builtin.append_ #[t,t] ty #[v,src]).run P w=.ok v' w'∧Vec w' B e sz v' (xs++ys)∧App2 w v xs.length ys.length w' v':=by
 obtain⟨v',w',hrun,hvec,hg,hf⟩:=uN hE (ty:=ty) hv hs hly hb h63 hB
 refine⟨v',w',hrun,hvec,?_⟩
 obtain⟨i,z,hi,hz,hsz,hby,hzs⟩:=hE.info
 obtain⟨o,cap,hsrc,hle,hcap,hnil⟩:=hs.ex
 have hl:∀y∈ys,y.length=sz:=fun y hy=>(hly y hy).1
 have hfl:=eZ hl
 have hml:maxLen=9223372036854775807:=rfl
 cases o with
 | none=>have:=hnil rfl;omega
 | some a=>
   have hel:=vD (hs.el _ _ _ hsrc) hl hE.pos
   subst hsrc
   rcases hv.own.2 with ⟨h1,h2⟩|⟨g,cp,cur,h1,hbg,hg',hnc,hcm,hcs,htake⟩
   ·have hx:xs=[]:=List.eq_nil_of_length_eq_zero h2
    subst hx
    subst h1
    refine⟨.inl ⟨hg,fun b hb=>?_⟩⟩
    rcases hf b hb with h|h
    ·cases h
    ·exact h
   ·subst h1
    by_cases hr:xs.length+ys.length≤cp
    ·have hfit:xs.length*i.size+ys.flatten.length≤cur.size:=by rw[hfl,hcs,hsz,←Nat.add_mul];exact Nat.mul_le_mul_right _ hr
     have:=run_append_room (P:=P) w t ty e i hE.sl hi g xs.length cp cur hg' a ys.length cap ys.flatten (by rw[hsz];exact hfl) hel (fun u hu=>by
      obtain⟨y,hy,huy⟩:=List.mem_flatten.1 hu
      exact(hly y hy).2 u huy) hr hfit
     rw[this]at hrun
     cases hrun
     exact⟨.inr ⟨g,cp,rfl,rfl,hg⟩⟩
    ·have holds:∀j u,xs.flatten[j]? = some u→w.cell? ((⟨g,0,none⟩:Addr).add j)=some u:=hv.own.cells (g:=g) rfl
     have:=run_append_grow (P:=P) w t ty e i z hE.sl hi hz ⟨g,0,none⟩ xs.length cp xs.flatten (by rw[hsz];exact eZ hv.len) holds a ys.length cap ys.flatten (by rw[hsz];exact hfl) hel (by omega) (by omega) (growslice_fits (by omega) (by rw[hby];exact hb))
     rw[this]at hrun
     cases hrun
     refine⟨.inl ⟨⟨rfl,rfl,rfl,by simp,fun k hk _=>heap_alloc_old w.drew _ hk⟩,fun b hb=>?_⟩⟩
     have e1:some w.heap.size=some b:=hb
     cases e1
     exact Nat.le_refl _
theorem bD.append2{P:Program}{t e sz bytes:Nat}(hE:lG P t e sz bytes){w:World}{v src:Value}{ty:Nat}{consts:Array Bool}{k:Value→World→Prop}(B:Nat)(xs ys:List (List Value))(hv:Vec w B e sz v xs)
  (hs:eO w src sz ys) (hly:∀y∈ys,y.length=sz∧∀u∈y,u.oneCell'=true) (hb:(xs.length+ys.length)*bytes≤140737488355328) (h63:xs.length+ys.length≤maxLen) (hB:B≤w.heap.size) (hp:0<ys.length)
  (hk:∀v' w',Vec w' B e sz v' (xs++ys)→App2 w v xs.length ys.length w' v'→k v' w'):bD P (builtin .append #[t,t] ty consts #[v,src]) w k:=by
 obtain⟨v',w',hrun,h1,h2⟩:=run_append2 hE (ty:=ty) hv hs hly hb h63 hB hp
 refine .mk v' w' ?_ (hk _ _ h1 h2)
 simp only[builtin,Sem.run_bind,hrun,Result.andThen_ok,Sem.run_pure]
theorem bA.kR{P:Program}{w:World}{B e sz:Nat}{o:Option Addr}{n c k:Nat}{xs:List (List Value)}{a:Addr}{val:Value}{K:World→Prop}(vs:List Value)(hs:jM P e vs.length=true)(h:Vec w B e sz (.slice o n c) xs)(ha:o=some a)(hk:k<xs.length)
  (hl:vs.length=sz) (hc:val.cells=vs.toArray) (h1:∀u∈vs,u.oneCell'=true)
  (hK:∀w' g cs,mK w g cs e w'→B≤g→(Value.slice o n c).ownBlock=some g→Vec w' B e sz (.slice o n c) (xs.set k vs)→K w') :
  bA P (storeVar e (a.add (k*sz)) val) w K:=by
 obtain⟨g,cp,cur,hgv,hg1,hg2,hgb,hgl,hgo,hput⟩:=h.put (k:=k) hk vs (off:=0) (by omega)
 simp only[Value.slice.injEq]at hgv
 obtain⟨e1,_,_⟩:=hgv
 rw[e1]at ha
 cases ha
 refine bA.store g (k*sz+0) cur vs e (by rw[bW,Nat.zero_add];rfl) hc hs hgb hgl h1 fun w' hU=>hK w' g _ hU hg1 hgo ?_
 have:=hput w' hU
 have hx:splice xs[k] 0 vs=vs:=by
  have:=h.len _ (List.getElem_mem hk)
  unfold splice
  rw[List.take_zero,List.nil_append,List.drop_eq_nil_of_le (by omega),List.append_nil]
 rwa [hx]at this
theorem aG.make0{P:Program}{t e sz bytes:Nat}(hE:lG P t e sz bytes){w:World}{n:Nat}{K:Value→World→Prop}(B:Nat)(hB:B≤w.heap.size)(hn:n*bytes≤140737488355328)(hm:n≤maxLen)
  (h:∀v w',Vec w' B e sz v []→Ext w w'→(∀b,v.ownBlock=some b→w.heap.size≤b)→K v w'):aG P (Instr.makeSlice t (.int .i64 0) (.int .i64 n)) w K:=by
 obtain⟨i,z,hi,hz,hsz,hby,hzs⟩:=hE.info
 obtain⟨w',hr,ho,hg⟩:=run_make_own (P:=P) w B t e i z sz hE.sl hi hz hsz .i64 .i64 n (by rw[hby,Nat.mul_comm];omega) hm hB
 refine .mk _ _ hr (h _ _ ⟨ho,by simp⟩ ((Below.refl _ w).grown hg (Nat.le_refl _) (fun k hk=>by cases hk)) fun b hb=>?_)
 have e1:some w.heap.size=some b:=hb
 cases e1
 exact Nat.le_refl _
theorem aG.makeN{P:Program}{t e sz bytes:Nat}(hE:lG P t e sz bytes){w:World}{n:Nat}{K:Value→World→Prop}(B:Nat)(hB:B≤w.heap.size)(hn:n*bytes≤140737488355328)(hm:n≤maxLen)(zc:List Value)(hzc:∀i z,P.info? e=some i→i.zero=some z→z.cells=zc.toArray)
  (h:∀v w',Vec w' B e sz v (List.replicate n zc)→Ext w w'→(∀b,v.ownBlock=some b→w.heap.size≤b)→K v w'):aG P (Instr.makeSlice t (.int .i64 n) (.int .i64 n)) w K:=by
 obtain⟨i,z,hi,hz,hsz,hby,hzs⟩:=hE.info
 obtain⟨w',hr,ho,hg⟩:=run_make_full (P:=P) w B t e i z sz hE.sl hi hz hsz .i64 .i64 n (by rw[hby,Nat.mul_comm];omega) hm hB
 have hzz:=hzc i z hi hz
 have hzl:zc.length=sz:=by rw[hzz]at hzs;simpa using hzs
 have hsp:=hE.pos
 have hfl:(madeCells z.cells (n*sz)).toList=(List.replicate n zc).flatten:=by
  have hl:∀x∈List.replicate n zc,x.length=sz:=fun x hx=>by rw[List.eq_of_mem_replicate hx];exact hzl
  apply List.ext_getElem?
  intro j
  rcases Nat.lt_or_ge j (n*sz)with hj|hj
  ·have hq:j / sz<n:=by rw[Nat.div_lt_iff_lt_mul hsp];exact hj
   have hm':j % sz<sz:=Nat.mod_lt _ hsp
   have e:j / sz*sz+j % sz=j:=by rw[Nat.mul_comm];exact Nat.div_add_mod j sz
   have:=lJ hl (i:=j / sz) (j:=j % sz) (x:=zc) (u:=zc[j % sz]'(by omega)) (by rw[List.getElem?_replicate,if_pos hq]) (List.getElem?_eq_getElem (by omega))
   rw[e]at this
   rw[this,hzz]
   simp[madeCells,hj,hzl,hm']
  ·have h1:(List.replicate n zc).flatten.length≤j:=by rw[eZ hl];simpa using hj
   have h2:(madeCells z.cells (n*sz)).toList.length≤j:=by rw[Array.length_toList,size_madeCells];exact hj
   rw[List.getElem?_eq_none h1,List.getElem?_eq_none h2]
 refine .mk _ _ hr (h _ _ ⟨⟨?_,?_⟩,fun x hx=>by rw[List.eq_of_mem_replicate hx];exact hzl⟩ ((Below.refl _ w).grown hg (Nat.le_refl _) (fun k hk=>by cases hk)) fun b hb=>?_)
 ·rw[←hfl];have:=ho.1;simpa using this
 ·have:=ho.2
  rw[hfl]at this
  rw[List.length_replicate]
  exact this
 ·have e1:some w.heap.size=some b:=hb
  cases e1
  exact Nat.le_refl _
end Go.V
end
section
namespace Go.Proofs.YtelffdgcikceaaaGreatDoor
open Go.V
open Go.RowKit (Below)
theorem fE(r:Int):eY r=true↔((65≤r∧r≤90)∨r=95∨(97≤r∧r≤122)∨(192≤r∧r≤214)∨(216≤r∧r≤246)∨(248≤r∧r≤767)∨(880≤r∧r≤893)∨(895≤r∧r≤8191)∨(8204≤r∧r≤8205)∨(8304≤r∧r≤8591)∨(11264≤r∧r≤12271)∨(12289≤r∧r≤55295)∨(63744≤r∧r≤64975)∨(65008≤r∧r≤65533)∨(65536≤r∧r≤983039)):=by
 unfold eY oV zB
 simp only[List.any_cons,List.any_nil,Bool.or_eq_true,Bool.and_eq_true,decide_eq_true_eq,Bool.false_eq_true,or_false]
 omega
theorem char_iff(r:Int):dQ r=true↔(eY r=true∨(45≤r∧r≤46)∨(48≤r∧r≤57)∨r=183∨(768≤r∧r≤879)∨(8255≤r∧r≤8256)):=by
 unfold dQ oV yI
 simp only[List.any_cons,List.any_nil,Bool.or_eq_true,Bool.and_eq_true,decide_eq_true_eq,Bool.false_eq_true,or_false]
 constructor
 ·rintro(h|h)
  ·exact .inl h
  ·right;omega
 ·rintro(h|h)
  ·exact .inl h
  ·right;omega
theorem oG(r:Int):kM r=true↔(r=9∨r=10∨r=13∨(32≤r∧r≤55295)∨(57344≤r∧r≤65533)∨(65536≤r∧r≤1114111)):=by
 unfold kM
 repeat' split
 all_goals (first|(simp only[decide_eq_true_eq,Bool.or_eq_true,Bool.and_eq_true];omega)|omega|(simp;omega))
theorem cB(r a b:Int)(w:World):bV Tryz.prog 183 #[.int .i32 r,.int .i32 a,.int .i32 b] w (fun v w'=>v=.bool (decide (a≤r∧r≤b))∧w'=w):=by
 refine enter aB Tryz.func183 (aV rfl) rfl rfl rfl ?_
 refine aK.bB (fun g1=>?_) (fun g1=>?_)
 ·repeat (first|refine gA ?_|refine gB ?_|refine gC ?_)
  refine And.intro ?_ rfl
  exact congrArg Value.bool (by rw[Bool.eq_iff_iff,decide_eq_true_eq,decide_eq_true_eq];omega)
 ·repeat (first|refine gA ?_|refine gB ?_|refine gC ?_)
  refine And.intro ?_ rfl
  exact congrArg Value.bool (by rw[Bool.eq_iff_iff,decide_eq_true_eq];exact⟨(fun h=>by cases h),(fun h=>absurd h.1 (by omega))⟩)
theorem rStart_con(r:Int)(w:World):bV Tryz.prog 141 #[.int .i32 r] w (fun v w'=>v=.bool (eY r)∧w'=w):=by
 refine enter aB Tryz.func141 (aV rfl) rfl rfl rfl ?_
 refine aA.mk _ (cB r 97 122 w) ?_
 rintro v w1 ⟨hv1,hw1⟩
 have hw2:=hw1.symm
 subst hv1 hw2
 refine aK.bH (fun g=>?_) (fun g=>?_)
 rotate_left
 ·repeat (first|refine gA ?_|refine gB ?_|refine gC ?_)
  refine Cond.yes ?_
  exact And.intro (congrArg Value.bool (Bool.eq_iff_iff.2 ⟨fun _=>(fE r).2 (by omega),fun _=>rfl⟩)) rfl
 repeat (first|refine gA ?_|refine gB ?_|refine gC ?_)
 refine aA.mk _ (cB r 65 90 w) ?_
 rintro v w1 ⟨hv1,hw1⟩
 have hw2:=hw1.symm
 subst hv1 hw2
 refine aK.bH (fun g=>?_) (fun g=>?_)
 rotate_left
 ·repeat (first|refine gA ?_|refine gB ?_|refine gC ?_)
  refine Cond.yes ?_
  exact And.intro (congrArg Value.bool (Bool.eq_iff_iff.2 ⟨fun _=>(fE r).2 (by omega),fun _=>rfl⟩)) rfl
 repeat (first|refine gA ?_|refine gB ?_|refine gC ?_)
 refine aK.bH (fun g=>?_) (fun g=>?_)
 rotate_left
 ·repeat (first|refine gA ?_|refine gB ?_|refine gC ?_)
  refine Cond.yes ?_
  exact And.intro (congrArg Value.bool (Bool.eq_iff_iff.2 ⟨fun _=>(fE r).2 (by omega),fun _=>rfl⟩)) rfl
 repeat (first|refine gA ?_|refine gB ?_|refine gC ?_)
 refine aA.mk _ (cB r 192 214 w) ?_
 rintro v w1 ⟨hv1,hw1⟩
 have hw2:=hw1.symm
 subst hv1 hw2
 refine aK.bH (fun g=>?_) (fun g=>?_)
 rotate_left
 ·repeat (first|refine gA ?_|refine gB ?_|refine gC ?_)
  refine Cond.yes ?_
  exact And.intro (congrArg Value.bool (Bool.eq_iff_iff.2 ⟨fun _=>(fE r).2 (by omega),fun _=>rfl⟩)) rfl
 repeat (first|refine gA ?_|refine gB ?_|refine gC ?_)
 refine aA.mk _ (cB r 216 246 w) ?_
 rintro v w1 ⟨hv1,hw1⟩
 have hw2:=hw1.symm
 subst hv1 hw2
 refine aK.bH (fun g=>?_) (fun g=>?_)
 rotate_left
 ·repeat (first|refine gA ?_|refine gB ?_|refine gC ?_)
  refine Cond.yes ?_
  exact And.intro (congrArg Value.bool (Bool.eq_iff_iff.2 ⟨fun _=>(fE r).2 (by omega),fun _=>rfl⟩)) rfl
 repeat (first|refine gA ?_|refine gB ?_|refine gC ?_)
 refine aA.mk _ (cB r 248 767 w) ?_
 rintro v w1 ⟨hv1,hw1⟩
 have hw2:=hw1.symm
 subst hv1 hw2
 refine Cond.dec (fun g=>?_) (fun g=>?_)
 ·exact And.intro (congrArg Value.bool (Bool.eq_iff_iff.2 ⟨fun _=>(fE r).2 (by omega),fun _=>rfl⟩)) rfl
 refine aA.mk _ (cB r 880 893 w) ?_
 rintro v w1 ⟨hv1,hw1⟩
 have hw2:=hw1.symm
 subst hv1 hw2
 refine aK.bH (fun g=>?_) (fun g=>?_)
 rotate_left
 ·repeat (first|refine gA ?_|refine gB ?_|refine gC ?_)
  refine Cond.yes ?_
  exact And.intro (congrArg Value.bool (Bool.eq_iff_iff.2 ⟨fun _=>(fE r).2 (by omega),fun _=>rfl⟩)) rfl
 repeat (first|refine gA ?_|refine gB ?_|refine gC ?_)
 refine aA.mk _ (cB r 895 8191 w) ?_
 rintro v w1 ⟨hv1,hw1⟩
 have hw2:=hw1.symm
 subst hv1 hw2
 refine aK.bH (fun g=>?_) (fun g=>?_)
 rotate_left
 ·repeat (first|refine gA ?_|refine gB ?_|refine gC ?_)
  refine Cond.yes ?_
  exact And.intro (congrArg Value.bool (Bool.eq_iff_iff.2 ⟨fun _=>(fE r).2 (by omega),fun _=>rfl⟩)) rfl
 repeat (first|refine gA ?_|refine gB ?_|refine gC ?_)
 refine aK.bH (fun g=>?_) (fun g=>?_)
 rotate_left
 ·repeat (first|refine gA ?_|refine gB ?_|refine gC ?_)
  refine Cond.yes ?_
  exact And.intro (congrArg Value.bool (Bool.eq_iff_iff.2 ⟨fun _=>(fE r).2 (by omega),fun _=>rfl⟩)) rfl
 repeat (first|refine gA ?_|refine gB ?_|refine gC ?_)
 refine aK.bH (fun g=>?_) (fun g=>?_)
 rotate_left
 ·repeat (first|refine gA ?_|refine gB ?_|refine gC ?_)
  refine Cond.yes ?_
  exact And.intro (congrArg Value.bool (Bool.eq_iff_iff.2 ⟨fun _=>(fE r).2 (by omega),fun _=>rfl⟩)) rfl
 repeat (first|refine gA ?_|refine gB ?_|refine gC ?_)
 refine aA.mk _ (cB r 8304 8591 w) ?_
 rintro v w1 ⟨hv1,hw1⟩
 have hw2:=hw1.symm
 subst hv1 hw2
 refine aK.bH (fun g=>?_) (fun g=>?_)
 rotate_left
 ·repeat (first|refine gA ?_|refine gB ?_|refine gC ?_)
  refine Cond.yes ?_
  exact And.intro (congrArg Value.bool (Bool.eq_iff_iff.2 ⟨fun _=>(fE r).2 (by omega),fun _=>rfl⟩)) rfl
 repeat (first|refine gA ?_|refine gB ?_|refine gC ?_)
 refine aA.mk _ (cB r 11264 12271 w) ?_
 rintro v w1 ⟨hv1,hw1⟩
 have hw2:=hw1.symm
 subst hv1 hw2
 refine Cond.dec (fun g=>?_) (fun g=>?_)
 ·exact And.intro (congrArg Value.bool (Bool.eq_iff_iff.2 ⟨fun _=>(fE r).2 (by omega),fun _=>rfl⟩)) rfl
 refine aA.mk _ (cB r 12289 55295 w) ?_
 rintro v w1 ⟨hv1,hw1⟩
 have hw2:=hw1.symm
 subst hv1 hw2
 refine aK.bH (fun g=>?_) (fun g=>?_)
 rotate_left
 ·repeat (first|refine gA ?_|refine gB ?_|refine gC ?_)
  exact And.intro (congrArg Value.bool (Bool.eq_iff_iff.2 ⟨fun _=>(fE r).2 (by omega),fun _=>rfl⟩)) rfl
 repeat (first|refine gA ?_|refine gB ?_|refine gC ?_)
 refine aA.mk _ (cB r 63744 64975 w) ?_
 rintro v w1 ⟨hv1,hw1⟩
 have hw2:=hw1.symm
 subst hv1 hw2
 refine aK.bH (fun g=>?_) (fun g=>?_)
 rotate_left
 ·repeat (first|refine gA ?_|refine gB ?_|refine gC ?_)
  exact And.intro (congrArg Value.bool (Bool.eq_iff_iff.2 ⟨fun _=>(fE r).2 (by omega),fun _=>rfl⟩)) rfl
 repeat (first|refine gA ?_|refine gB ?_|refine gC ?_)
 refine aA.mk _ (cB r 65008 65533 w) ?_
 rintro v w1 ⟨hv1,hw1⟩
 have hw2:=hw1.symm
 subst hv1 hw2
 refine aK.bH (fun g=>?_) (fun g=>?_)
 rotate_left
 ·repeat (first|refine gA ?_|refine gB ?_|refine gC ?_)
  exact And.intro (congrArg Value.bool (Bool.eq_iff_iff.2 ⟨fun _=>(fE r).2 (by omega),fun _=>rfl⟩)) rfl
 repeat (first|refine gA ?_|refine gB ?_|refine gC ?_)
 refine aA.mk _ (cB r 65536 983039 w) ?_
 rintro v w1 ⟨hv1,hw1⟩
 have hw2:=hw1.symm
 subst hv1 hw2
 repeat (first|refine gA ?_|refine gB ?_|refine gC ?_)
 refine And.intro ?_ rfl
 exact congrArg Value.bool (by rw[Bool.eq_iff_iff,fE,decide_eq_true_eq];omega)
theorem rChars_con(r:Int)(w:World):bV Tryz.prog 184 #[.int .i32 r] w (fun v w'=>v=.bool (kM r)∧w'=w):=by
 refine enter aB Tryz.func184 (aV rfl) rfl rfl rfl ?_
 refine aK.bH (fun g=>?_) (fun g=>?_)
 rotate_left
 ·repeat (first|refine gA ?_|refine gB ?_|refine gC ?_)
  exact And.intro (congrArg Value.bool (Bool.eq_iff_iff.2 ⟨fun _=>(oG r).2 (by omega),fun _=>rfl⟩)) rfl
 repeat (first|refine gA ?_|refine gB ?_|refine gC ?_)
 refine aK.bH (fun g=>?_) (fun g=>?_)
 rotate_left
 ·repeat (first|refine gA ?_|refine gB ?_|refine gC ?_)
  exact And.intro (congrArg Value.bool (Bool.eq_iff_iff.2 ⟨fun _=>(oG r).2 (by omega),fun _=>rfl⟩)) rfl
 repeat (first|refine gA ?_|refine gB ?_|refine gC ?_)
 refine aK.bH (fun g=>?_) (fun g=>?_)
 rotate_left
 ·repeat (first|refine gA ?_|refine gB ?_|refine gC ?_)
  exact And.intro (congrArg Value.bool (Bool.eq_iff_iff.2 ⟨fun _=>(oG r).2 (by omega),fun _=>rfl⟩)) rfl
 repeat (first|refine gA ?_|refine gB ?_|refine gC ?_)
 refine aA.mk _ (cB r 32 55295 w) ?_
 rintro v w1 ⟨hv1,hw1⟩
 have hw2:=hw1.symm
 subst hv1 hw2
 refine aK.bH (fun g=>?_) (fun g=>?_)
 rotate_left
 ·repeat (first|refine gA ?_|refine gB ?_|refine gC ?_)
  exact And.intro (congrArg Value.bool (Bool.eq_iff_iff.2 ⟨fun _=>(oG r).2 (by omega),fun _=>rfl⟩)) rfl
 repeat (first|refine gA ?_|refine gB ?_|refine gC ?_)
 refine aA.mk _ (cB r 57344 65533 w) ?_
 rintro v w1 ⟨hv1,hw1⟩
 have hw2:=hw1.symm
 subst hv1 hw2
 refine aK.bH (fun g=>?_) (fun g=>?_)
 rotate_left
 ·repeat (first|refine gA ?_|refine gB ?_|refine gC ?_)
  exact And.intro (congrArg Value.bool (Bool.eq_iff_iff.2 ⟨fun _=>(oG r).2 (by omega),fun _=>rfl⟩)) rfl
 repeat (first|refine gA ?_|refine gB ?_|refine gC ?_)
 refine aA.mk _ (cB r 65536 1114111 w) ?_
 rintro v w1 ⟨hv1,hw1⟩
 have hw2:=hw1.symm
 subst hv1 hw2
 repeat (first|refine gA ?_|refine gB ?_|refine gC ?_)
 refine And.intro ?_ rfl
 exact congrArg Value.bool (by rw[Bool.eq_iff_iff,oG,decide_eq_true_eq];omega)
theorem rChar_con(r:Int)(w:World):bV Tryz.prog 140 #[.int .i32 r] w (fun v w'=>v=.bool (dQ r)∧w'=w):=by
 refine enter aB Tryz.func140 (aV rfl) rfl rfl rfl ?_
 refine aA.mk _ (rStart_con r w) ?_
 rintro v w1 ⟨hv1,hw1⟩
 have hw2:=hw1.symm
 subst hv1 hw2
 refine aK.mk (fun g0=>?_) (fun g0=>?_)
 rotate_left
 ·rw[g0]
  repeat (first|refine gA ?_|refine gB ?_|refine gC ?_)
  exact And.intro (congrArg Value.bool (Bool.eq_iff_iff.2 ⟨fun _=>(char_iff r).2 (.inl g0),fun _=>rfl⟩)) rfl
 rw[g0]
 have hc:dQ r=true↔((45≤r∧r≤46)∨(48≤r∧r≤57)∨r=183∨(768≤r∧r≤879)∨(8255≤r∧r≤8256)):=by
  rw[char_iff,g0]
  simp
 repeat (first|refine gA ?_|refine gB ?_|refine gC ?_)
 refine aK.bH (fun g=>?_) (fun g=>?_)
 rotate_left
 ·repeat (first|refine gA ?_|refine gB ?_|refine gC ?_)
  exact And.intro (congrArg Value.bool (Bool.eq_iff_iff.2 ⟨fun _=>hc.2 (by omega),fun _=>rfl⟩)) rfl
 repeat (first|refine gA ?_|refine gB ?_|refine gC ?_)
 refine aK.bH (fun g=>?_) (fun g=>?_)
 rotate_left
 ·repeat (first|refine gA ?_|refine gB ?_|refine gC ?_)
  exact And.intro (congrArg Value.bool (Bool.eq_iff_iff.2 ⟨fun _=>hc.2 (by omega),fun _=>rfl⟩)) rfl
 repeat (first|refine gA ?_|refine gB ?_|refine gC ?_)
 refine aA.mk _ (cB r 48 57 w) ?_
 rintro v w1 ⟨hv1,hw1⟩
 have hw2:=hw1.symm
 subst hv1 hw2
 refine aK.bH (fun g=>?_) (fun g=>?_)
 rotate_left
 ·repeat (first|refine gA ?_|refine gB ?_|refine gC ?_)
  exact And.intro (congrArg Value.bool (Bool.eq_iff_iff.2 ⟨fun _=>hc.2 (by omega),fun _=>rfl⟩)) rfl
 repeat (first|refine gA ?_|refine gB ?_|refine gC ?_)
 refine aK.bH (fun g=>?_) (fun g=>?_)
 rotate_left
 ·repeat (first|refine gA ?_|refine gB ?_|refine gC ?_)
  exact And.intro (congrArg Value.bool (Bool.eq_iff_iff.2 ⟨fun _=>hc.2 (by omega),fun _=>rfl⟩)) rfl
 repeat (first|refine gA ?_|refine gB ?_|refine gC ?_)
 refine aA.mk _ (cB r 768 879 w) ?_
 rintro v w1 ⟨hv1,hw1⟩
 have hw2:=hw1.symm
 subst hv1 hw2
 refine aK.bH (fun g=>?_) (fun g=>?_)
 rotate_left
 ·repeat (first|refine gA ?_|refine gB ?_|refine gC ?_)
  exact And.intro (congrArg Value.bool (Bool.eq_iff_iff.2 ⟨fun _=>hc.2 (by omega),fun _=>rfl⟩)) rfl
 repeat (first|refine gA ?_|refine gB ?_|refine gC ?_)
 refine aK.bH (fun g=>?_) (fun g=>?_)
 rotate_left
 ·repeat (first|refine gA ?_|refine gB ?_|refine gC ?_)
  exact And.intro (congrArg Value.bool (Bool.eq_iff_iff.2 ⟨fun _=>hc.2 (by omega),fun _=>rfl⟩)) rfl
 repeat (first|refine gA ?_|refine gB ?_|refine gC ?_)
 repeat (first|refine gA ?_|refine gB ?_|refine gC ?_)
 refine And.intro ?_ rfl
 exact congrArg Value.bool (by rw[Bool.eq_iff_iff,hc,decide_eq_true_eq];omega)
def mI(avail b0 b1 b2 b3:Int):Int × Int:=
 if b0<128 then(b0,1)
 else if 194≤b0∧b0≤223 then(if 2≤avail∧(128≤b1∧b1≤191)then(64*(b0-192)+b1-128,2)else(0,0))
 else if 224≤b0∧b0≤239 then(if 3≤avail∧(128≤b1∧b1≤191)∧(128≤b2∧b2≤191)∧¬(64*(64*(b0-224)+b1-128)+b2-128<2048∨(55296≤64*(64*(b0-224)+b1-128)+b2-128∧64*(64*(b0-224)+b1-128)+b2-128≤57343))then(64*(64*(b0-224)+b1-128)+b2-128,3)else(0,0))
 else if 240≤b0∧b0≤244 then(if 4≤avail∧(128≤b1∧b1≤191)∧(128≤b2∧b2≤191)∧(128≤b3∧b3≤191)∧¬(64*(64*(64*(b0-240)+b1-128)+b2-128)+b3-128<65536∨1114111<64*(64*(64*(b0-240)+b1-128)+b2-128)+b3-128)then(64*(64*(64*(b0-240)+b1-128)+b2-128)+b3-128,4)else(0,0))
 else(0,0)
def kX(s:ByteArray)(i:Nat):Int × Int:=mI (s.size-i:Int) (aI s i) (aI s (i+1)) (aI s (i+2)) (aI s (i+3))
def j4(d:Nat × Nat):Int × Int:=if d.2=1∧d.1=65533 then(0,0)else(d.1,d.2)
theorem xU(s:ByteArray)(n:Nat):aI s n=((s.get! n).toNat:Int):=by
 unfold aI
 show _=((s.data[n]!).toNat:Int)
 rw[getElem!_def]
 cases s.data[n]?<;>rfl
theorem xV(s:ByteArray)(n:Nat):0≤aI s n∧aI s n≤255:=by
 unfold aI
 have:=(s.data[n]?.getD 0).toNat_lt
 omega
def decN(i z b0 b1 b2 b3:Nat):Nat × Nat:=
 if b0<128 then(b0,1)
 else if b0 / 32 == 6&&(decide (i+1<z)&&b1 / 64 == 2)then(if b0 % 32*64+b1 % 64 ≥ 128 then(b0 % 32*64+b1 % 64,2)else(65533,1))
 else if b0 / 16 == 14&&(decide (i+1<z)&&b1 / 64 == 2)&&(decide (i+2<z)&&b2 / 64 == 2)then(if b0 % 16*4096+b1 % 64*64+b2 % 64 ≥ 2048&&Utf8.valid ((b0 % 16*4096+b1 % 64*64+b2 % 64:Nat):Int)then(b0 % 16*4096+b1 % 64*64+b2 % 64,3)else(65533,1))
 else if b0 / 8 == 30&&(decide (i+1<z)&&b1 / 64 == 2)&&(decide (i+2<z)&&b2 / 64 == 2)&&(decide (i+3<z)&&b3 / 64 == 2)then(if b0 % 8*262144+b1 % 64*4096+b2 % 64*64+b3 % 64 ≥ 65536&&Utf8.valid ((b0 % 8*262144+b1 % 64*4096+b2 % 64*64+b3 % 64:Nat):Int)then(b0 % 8*262144+b1 % 64*4096+b2 % 64*64+b3 % 64,4)else(65533,1))
 else(65533,1)
theorem decN_eq(s:ByteArray)(i:Nat):Utf8.decode s i=decN i s.size (s.get! i).toNat (s.get! (i+1)).toNat (s.get! (i+2)).toNat (s.get! (i+3)).toNat:=rfl
theorem next_nat(i z b0 b1 b2 b3:Nat)(h:i<z)(c0:b0<256)(c1:b1<256)(c2:b2<256)(c3:b3<256):mI (z-i:Int) b0 b1 b2 b3=j4 (decN i z b0 b1 b2 b3):=by
 unfold decN
 simp only[Bool.and_eq_true,beq_iff_eq,decide_eq_true_eq,Utf8.valid,Utf8.runeError,ge_iff_le,Bool.or_eq_true]
 by_cases g0:b0<128
 ·rw[if_pos g0]
  unfold mI j4
  rw[if_pos (by omega),if_neg (by simp;omega)]
  rfl
 rw[if_neg g0]
 by_cases g1:b0 / 32=6∧i+1<z∧b1 / 64=2
 ·rw[if_pos g1]
  by_cases g2:128≤b0 % 32*64+b1 % 64
  ·rw[if_pos g2]
   unfold mI j4
   rw[if_neg (by omega),if_pos (by omega),if_pos (by omega),if_neg (by simp)]
   simp only[Prod.mk.injEq]
   omega
  ·rw[if_neg g2]
   unfold mI j4
   rw[if_neg (by omega),if_neg (by omega),if_neg (by omega),if_neg (by omega),if_pos (by simp)]
 rw[if_neg g1]
 by_cases g2:(b0 / 16=14∧i+1<z∧b1 / 64=2)∧i+2<z∧b2 / 64=2
 ·rw[if_pos g2]
  by_cases g3:2048≤b0 % 16*4096+b1 % 64*64+b2 % 64∧¬(55296≤b0 % 16*4096+b1 % 64*64+b2 % 64∧b0 % 16*4096+b1 % 64*64+b2 % 64≤57343)
  ·rw[if_pos (by simp;omega)]
   unfold mI j4
   rw[if_neg (by omega),if_neg (by omega),if_pos (by omega),if_pos (by omega),if_neg (by simp)]
   simp only[Prod.mk.injEq]
   omega
  ·rw[if_neg (by simp;omega)]
   unfold mI j4
   rw[if_neg (by omega),if_neg (by omega),if_pos (by omega),if_neg (by omega),if_pos (by simp)]
 rw[if_neg g2]
 by_cases g3:((b0 / 8=30∧i+1<z∧b1 / 64=2)∧i+2<z∧b2 / 64=2)∧i+3<z∧b3 / 64=2
 ·rw[if_pos g3]
  by_cases g4:65536≤b0 % 8*262144+b1 % 64*4096+b2 % 64*64+b3 % 64∧b0 % 8*262144+b1 % 64*4096+b2 % 64*64+b3 % 64≤1114111
  ·rw[if_pos (by simp;omega)]
   unfold mI j4
   rw[if_neg (by omega),if_neg (by omega),if_neg (by omega),if_pos (by omega),if_pos (by omega),if_neg (by simp)]
   simp only[Prod.mk.injEq]
   omega
  ·rw[if_neg (by simp;omega)]
   unfold mI j4
   rw[if_neg (by omega),if_neg (by omega),if_neg (by omega)]
   by_cases g5:b0≤244
   ·rw[if_pos (by omega),if_neg (by omega),if_pos (by simp)]
   ·rw[if_neg (by omega),if_pos (by simp)]
 rw[if_neg g3]
 unfold mI j4
 rw[if_neg (by omega),if_pos (show(65533,1).2=1∧(65533,1).1=65533 by simp)]
 by_cases k1:194≤(b0:Int)∧(b0:Int)≤223
 ·rw[if_pos k1,if_neg (by omega)]
 rw[if_neg k1]
 by_cases k2:224≤(b0:Int)∧(b0:Int)≤239
 ·rw[if_pos k2,if_neg (by omega)]
 rw[if_neg k2]
 by_cases k3:240≤(b0:Int)∧(b0:Int)≤244
 ·rw[if_pos k3,if_neg (by omega)]
 rw[if_neg k3]
theorem next_decode(s:ByteArray)(i:Nat)(h:i<s.size):kX s i=j4 (Utf8.decode s i):=by
 rw[decN_eq,←next_nat _ _ _ _ _ _ h (s.get! i).toNat_lt (s.get! (i+1)).toNat_lt (s.get! (i+2)).toNat_lt (s.get! (i+3)).toNat_lt]
 unfold kX
 rw[xU s i,xU s (i+1),xU s (i+2),xU s (i+3)]
def yB(b:Int):Option (Int × Int):=if 194≤b∧b≤223 then some (2,b-192)else if 224≤b∧b≤239 then some (3,b-224)else if 240≤b∧b≤244 then some (4,b-240)else none
def uH(s:ByteArray)(i:Nat)(r:Int):Nat→Int
 | 0=>r
 | k+1=>64*uH s i r k+aI s (i+(k+1))-128
theorem rNext_con(s:ByteArray)(i:Nat)(w:World)(hi:i<s.size)(hs:s.size≤140737488355328) :
  bV Tryz.prog 139 #[.string s,.int .i64 i] w (fun v w'=>v=.tuple #[.int .i32 (kX s i).1,.int .i64 (kX s i).2]∧w'=w):=by
 have c0:=xV s i
 refine enter aB Tryz.func139 (aV rfl) rfl rfl rfl ?_
 refine Need.mk (by omega) ?_
 rw[Int.toNat_natCast]
 refine Ar.i32 (by omega) ?_
 have fin:∀a b:Int,kX s i=(a,b)→(aC [Value.int .i32 a,Value.int .i64 b]=Value.tuple #[.int .i32 (kX s i).1,.int .i64 (kX s i).2]∧w=w):=fun a b h=>by rw[h];exact⟨rfl,rfl⟩
 have e0:¬aI s i<128→yB (aI s i)=none→kX s i=(0,0):=fun g1 h=>by
  unfold yB at h
  unfold kX mI
  rw[if_neg g1]
  split at h
  ·cases h
  ·rename_i k1
   rw[if_neg k1]
   split at h
   ·cases h
   ·rename_i k2
    rw[if_neg k2]
    split at h
    ·cases h
    ·rename_i k3
     rw[if_neg k3]
 refine Cond.join (X:=Int × Int) (fun x=>[(0,.string s),(1,.int .i64 i),(7,.int .i64 x.1),(8,.int .i32 x.2)]) (fun x w'=>w'=w∧¬aI s i<128∧yB (aI s i)=some x) (fun g1=>?_) (fun g1=>?_) ?_
 ·refine fin _ _ ?_
  unfold kX mI
  rw[if_pos (of_decide_eq_true g1)]
 ·have g1':=of_decide_eq_false g1
  have third:¬(194≤aI s i∧aI s i≤223)→¬(224≤aI s i∧aI s i≤239)→(yB (aI s i)=if 240≤aI s i∧aI s i≤244 then some (4,aI s i-240)else none):=fun h1 h2=>by
   unfold yB
   rw[if_neg h1,if_neg h2]
  have second:¬(194≤aI s i∧aI s i≤223)→(224≤aI s i∧aI s i≤239)→yB (aI s i)=some (3,aI s i-224):=fun h1 h2=>by
   unfold yB
   rw[if_neg h1,if_pos h2]
  refine aK.bB (fun g2=>?_) (fun g2=>?_)
  ·repeat (first|refine gA ?_|refine gB ?_|refine gC ?_)
   refine Cond.dec (fun g3=>?_) (fun g3=>?_)
   ·refine Ar.i32 (by omega) ?_
    refine⟨(2,aI s i-192),⟨rfl,g1',?_⟩,rfl,rfl,rfl,rfl,trivial⟩
    unfold yB
    rw[if_pos ⟨g2,g3⟩]
   ·have h1:¬(194≤aI s i∧aI s i≤223):=fun h=>g3 h.2
    refine aK.bB (fun g4=>?_) (fun g4=>?_)
    ·repeat (first|refine gA ?_|refine gB ?_|refine gC ?_)
     refine Cond.dec (fun g5=>?_) (fun g5=>?_)
     ·refine Ar.i32 (by omega) ?_
      exact⟨(3,aI s i-224),⟨rfl,g1',second h1 ⟨g4,g5⟩⟩,rfl,rfl,rfl,rfl,trivial⟩
     ·have h2:¬(224≤aI s i∧aI s i≤239):=fun h=>g5 h.2
      refine aK.bB (fun g6=>?_) (fun g6=>?_)
      ·repeat (first|refine gA ?_|refine gB ?_|refine gC ?_)
       refine Cond.dec (fun g7=>?_) (fun g7=>?_)
       ·refine Ar.i32 (by omega) ?_
        exact⟨(4,aI s i-240),⟨rfl,g1',by rw[third h1 h2,if_pos ⟨g6,g7⟩]⟩,rfl,rfl,rfl,rfl,trivial⟩
       ·exact fin _ _ (e0 g1' (by rw[third h1 h2,if_neg (fun h=>g7 h.2)]))
      ·exact absurd (show 240≤aI s i by omega) g6
    ·exact absurd (show 224≤aI s i by omega) g4
  ·repeat (first|refine gA ?_|refine gB ?_|refine gC ?_)
   refine Cond.no ?_
   have h1:¬(194≤aI s i∧aI s i≤223):=fun h=>g2 h.1
   refine aK.bB (fun g4=>absurd g4 (by omega)) (fun g4=>?_)
   repeat (first|refine gA ?_|refine gB ?_|refine gC ?_)
   refine Cond.no ?_
   have h2:¬(224≤aI s i∧aI s i≤239):=fun h=>g4 h.1
   refine aK.bB (fun g6=>absurd g6 (by omega)) (fun g6=>?_)
   repeat (first|refine gA ?_|refine gB ?_|refine gC ?_)
   refine Cond.no ?_
   exact fin _ _ (e0 g1' (by rw[third h1 h2,if_neg (fun h=>g6 h.1)]))
 rintro⟨n,r0⟩ w' ⟨hw',g1,hx⟩
 subst hw'
 have hn:(n=2∧r0=aI s i-192∧194≤aI s i∧aI s i≤223)∨(n=3∧r0=aI s i-224∧224≤aI s i∧aI s i≤239)∨(n=4∧r0=aI s i-240∧240≤aI s i∧aI s i≤244):=by
  unfold yB at hx
  split at hx
  ·rename_i k;cases hx;exact .inl ⟨rfl,rfl,k⟩
  ·split at hx
   ·rename_i k;cases hx;exact .inr (.inl ⟨rfl,rfl,k⟩)
   ·split at hx
    ·rename_i k;cases hx;exact .inr (.inr ⟨rfl,rfl,k⟩)
    ·cases hx
 clear e0
 simp only
 have c1:=xV s (i+1)
 have c2:=xV s (i+2)
 have c3:=xV s (i+3)
 refine Ar.i64 (by omega) ?_
 refine Cond.dec (fun g2=>?_) (fun g2=>?_)
 ·refine fin _ _ ?_
  unfold kX mI
  rw[if_neg g1]
  rcases hn with ⟨rfl,rfl,k⟩|⟨rfl,rfl,k⟩|⟨rfl,rfl,k⟩
  ·rw[if_pos k,if_neg (by omega)]
  ·rw[if_neg (by omega),if_pos k,if_neg (by omega)]
  ·rw[if_neg (by omega),if_neg (by omega),if_pos k,if_neg (by omega)]
 refine aH.mk (X:=Nat) (fun k=>[(0,.string s),(1,.int .i64 i),(7,.int .i64 n),(8,.int .i32 (uH s i r0 k)),(9,.int .i64 (k+1:Nat))])
  (fun k w''=>w''=w'∧(k:Int)+1≤n∧∀j,1≤j→j≤k→128≤aI s (i+j)∧aI s (i+j)≤191) (fun k=>4-k) 0 ⟨rfl,by omega,fun j h1 h2=>by omega⟩ ⟨rfl,rfl,rfl,rfl,rfl,trivial⟩ ?_
 rintro k w2 ⟨hw2,hk,hc⟩
 subst hw2
 have hk3:k=0∨k=1∨k=2∨k=3:=by omega
 have bnd:0≤uH s i r0 k∧uH s i r0 k≤8388607∧(k<3→uH s i r0 k≤131071):=by
  rcases hk3 with rfl|rfl|rfl|rfl
  ·simp only[uH,Nat.reduceAdd];omega
  ·have:=hc 1 (by omega) (by omega)
   simp only[uH,Nat.reduceAdd];omega
  ·have:=hc 1 (by omega) (by omega)
   have:=hc 2 (by omega) (by omega)
   simp only[uH,Nat.reduceAdd];omega
  ·have:=hc 1 (by omega) (by omega)
   have:=hc 2 (by omega) (by omega)
   have:=hc 3 (by omega) (by omega)
   simp only[uH,Nat.reduceAdd];omega
 have bad:∀j:Nat,1≤j→(j:Int)<n→¬(128≤aI s (i+j)∧aI s (i+j)≤191)→kX s i=(0,0):=fun j h1 h2 h3=>by
  have hj:j=1∨j=2∨j=3:=by omega
  unfold kX mI
  rw[if_neg g1]
  rcases hn with ⟨rfl,rfl,k⟩|⟨rfl,rfl,k⟩|⟨rfl,rfl,k⟩
  ·rw[if_pos k,if_neg]
   rintro⟨-,h⟩
   rcases hj with rfl|rfl|rfl
   ·exact h3 h
   ·omega
   ·omega
  ·rw[if_neg (by omega),if_pos k,if_neg]
   rintro⟨-,h,h',-⟩
   rcases hj with rfl|rfl|rfl
   ·exact h3 h
   ·exact h3 h'
   ·omega
  ·rw[if_neg (by omega),if_neg (by omega),if_pos k,if_neg]
   rintro⟨-,h,h',h'',-⟩
   rcases hj with rfl|rfl|rfl
   ·exact h3 h
   ·exact h3 h'
   ·exact h3 h''
 refine Cond.dec (fun g3=>?_) (fun g3=>?_)
 ·have cx:=xV s (i+(k+1))
  refine Ar.aM (i+(k+1)) (by omega) (by omega) ?_
  refine Need.mk (by omega) ?_
  rw[Int.toNat_natCast]
  refine Ar.i32 (by omega) ?_
  refine aK.bH (fun g4=>?_) (fun g4=>?_)
  rotate_left
  ·repeat (first|refine gA ?_|refine gB ?_|refine gC ?_)
   refine Cond.yes ?_
   exact fin _ _ (bad (k+1) (by omega) (by omega) (by omega))
  repeat (first|refine gA ?_|refine gB ?_|refine gC ?_)
  refine Cond.dec (fun g5=>?_) (fun g5=>?_)
  ·exact fin _ _ (bad (k+1) (by omega) (by omega) (by omega))
  have hk2:k<3:=by omega
  have:=bnd.2.2 hk2
  refine Ar.i32 (by omega) ?_
  refine Ar.i32 (by omega) ?_
  refine Ar.i32 (by omega) ?_
  refine Ar.aM (k+1+1) (by omega) (by omega) ?_
  refine⟨k+1,⟨rfl,by omega,fun j h1 h2=>?_⟩,by omega,rfl,rfl,rfl,rfl,rfl,trivial⟩
  by_cases e:j=k+1
  ·subst e;omega
  ·exact hc j h1 (by omega)
 ·have hkn:(k:Int)+1=n:=by omega
  have hb:∀j:Nat,1≤j→(j:Int)<n→128≤aI s (i+j)∧aI s (i+j)≤191:=fun j h1 h2=>hc j h1 (by omega)
  rcases hn with ⟨rfl,hr,k1⟩|⟨rfl,hr,k1⟩|⟨rfl,hr,k1⟩
  ·have hk1:k=1:=by omega
   subst hk1 hr
   have b1:=hb 1 (by omega) (by omega)
   repeat (first|refine gA ?_|refine gB ?_|refine gC ?_)
   refine Cond.no ?_
   refine fin _ _ ?_
   unfold kX mI
   rw[if_neg g1,if_pos k1,if_pos ⟨by omega,b1⟩]
   rfl
  ·have hk1:k=2:=by omega
   subst hk1 hr
   have b1:=hb 1 (by omega) (by omega)
   have b2:=hb 2 (by omega) (by omega)
   have er:uH s i (aI s i-224) 2=64*(64*(aI s i-224)+aI s (i+1)-128)+aI s (i+2)-128:=rfl
   rw[er]
   generalize hq:64*(64*(aI s i-224)+aI s (i+1)-128)+aI s (i+2)-128=q at *
   have val:kX s i=if ¬(q<2048∨(55296≤q∧q≤57343))then(q,3)else(0,0):=by
    unfold kX mI
    rw[if_neg g1,if_neg (by omega),if_pos k1,hq]
    by_cases h:q<2048∨(55296≤q∧q≤57343)
    ·rw[if_neg (fun hh=>hh.2.2.2 h),if_neg (fun hh=>hh h)]
    ·rw[if_pos ⟨by omega,b1,b2,h⟩,if_pos h]
   repeat (first|refine gA ?_|refine gB ?_|refine gC ?_)
   refine aK.bH (fun g4=>?_) (fun g4=>?_)
   ·repeat (first|refine gA ?_|refine gB ?_|refine gC ?_)
    refine aA.mk _ (cB q 55296 57343 w2) ?_
    rintro v w3 ⟨hv3,hw3⟩
    have hw3':=hw3.symm
    subst hv3 hw3'
    repeat (first|refine gA ?_|refine gB ?_|refine gC ?_)
    refine aK.bH (fun g5=>?_) (fun g5=>?_)
    ·repeat (first|refine gA ?_|refine gB ?_|refine gC ?_)
     refine Cond.no ?_
     exact fin _ _ (by rw[val,if_pos (fun h=>h.elim g4 g5)])
    ·repeat (first|refine gA ?_|refine gB ?_|refine gC ?_)
     refine Cond.yes ?_
     exact fin _ _ (by rw[val,if_neg (fun h=>h (.inr g5))])
   ·repeat (first|refine gA ?_|refine gB ?_|refine gC ?_)
    refine Cond.yes ?_
    exact fin _ _ (by rw[val,if_neg (fun h=>h (.inl g4))])
  ·have hk1:k=3:=by omega
   subst hk1 hr
   have b1:=hb 1 (by omega) (by omega)
   have b2:=hb 2 (by omega) (by omega)
   have b3:=hb 3 (by omega) (by omega)
   have er:uH s i (aI s i-240) 3=64*(64*(64*(aI s i-240)+aI s (i+1)-128)+aI s (i+2)-128)+aI s (i+3)-128:=rfl
   rw[er]
   generalize hq:64*(64*(64*(aI s i-240)+aI s (i+1)-128)+aI s (i+2)-128)+aI s (i+3)-128=q at *
   have val:kX s i=if ¬(q<65536∨1114111<q)then(q,4)else(0,0):=by
    unfold kX mI
    rw[if_neg g1,if_neg (by omega),if_neg (by omega),if_pos k1,hq]
    by_cases h:q<65536∨1114111<q
    ·rw[if_neg (fun hh=>hh.2.2.2.2 h),if_neg (fun hh=>hh h)]
    ·rw[if_pos ⟨by omega,b1,b2,b3,h⟩,if_pos h]
   repeat (first|refine gA ?_|refine gB ?_|refine gC ?_)
   refine aK.bH (fun g4=>?_) (fun g4=>?_)
   ·repeat (first|refine gA ?_|refine gB ?_|refine gC ?_)
    refine Cond.dec (fun g5=>?_) (fun g5=>?_)
    ·exact fin _ _ (by rw[val,if_neg (fun h=>h (.inr g5))])
    ·exact fin _ _ (by rw[val,if_pos (fun h=>h.elim g4 g5)])
   ·repeat (first|refine gA ?_|refine gB ?_|refine gC ?_)
    refine Cond.yes ?_
    exact fin _ _ (by rw[val,if_neg (fun h=>h (.inl g4))])
theorem vL(s:ByteArray)(i:Nat)(h:i<s.size):kX s i=j4 (Lib.decodeL (s.data.toList.drop i)):=by
 rw[next_decode s i h,uI]
theorem valid_fuel:∀(n m:Nat) (l:List UInt8),l.length≤n→l.length≤m→Lib.validGoD n l=Lib.validGoD m l
 | 0,0,_,_,_=>rfl
 | 0,m+1,l,h,_=>by
   have:l=[]:=List.eq_nil_of_length_eq_zero (by omega)
   simp[Lib.validGoD,this]
 | n+1,0,l,_,h=>by
   have:l=[]:=List.eq_nil_of_length_eq_zero (by omega)
   simp[Lib.validGoD,this]
 | n+1,m+1,l,h1,h2=>by
   simp only[Lib.validGoD]
   by_cases e:l=[]
   ·rw[if_pos e,if_pos e]
   ·rw[if_neg e,if_neg e]
    have hw:=Lib.decodeL_width l
    have hl:0<l.length:=List.length_pos_iff.2 e
    rw[valid_fuel n m (l.drop (Lib.decodeL l).2) (by rw[List.length_drop];omega) (by rw[List.length_drop];omega)]
theorem valid_step{l:List UInt8}(h:l≠[]):Lib.validD l=if(Lib.decodeL l).1=65533∧(Lib.decodeL l).2=1 then false else Lib.validD (l.drop (Lib.decodeL l).2):=by
 have hl:0<l.length:=List.length_pos_iff.2 h
 have hw:=Lib.decodeL_width l
 obtain⟨n,hn⟩:∃n,l.length=n+1:=⟨l.length-1,by omega⟩
 unfold Lib.validD
 rw[hn]
 simp only[Lib.validGoD]
 rw[if_neg h,valid_fuel n (l.drop (Lib.decodeL l).2).length _ (by rw[List.length_drop];omega) (Nat.le_refl _)]
def rJ(p:Int→Bool)(l:List UInt8):Bool:=allR p l&&Lib.validD l
theorem good_nil(p:Int→Bool):rJ p []=true:=rfl
theorem good_step(p:Int→Bool){l:List UInt8}(h:l≠[]):rJ p l=(!decide ((j4 (Lib.decodeL l)).2=0)&&(p (j4 (Lib.decodeL l)).1&&rJ p (l.drop (Lib.decodeL l).2))):=by
 have hw:=Lib.decodeL_width l
 have hl:0<l.length:=List.length_pos_iff.2 h
 unfold rJ allR
 rw[pV h,List.all_cons,valid_step h,runes_all_pos p _ _ 0]
 unfold j4
 by_cases e:(Lib.decodeL l).2=1∧(Lib.decodeL l).1=65533
 ·rw[if_pos ⟨e.2,e.1⟩,if_pos e]
  simp
 ·rw[if_neg (fun h=>e ⟨h.2,h.1⟩),if_neg e]
  have:¬((Lib.decodeL l).2:Int)=0:=by omega
  have this2:¬(Lib.decodeL l).2=0:=by omega
  simp[this,this2,Bool.and_assoc]
theorem next_width{l:List UInt8}(h:l≠[])(h2:¬(j4 (Lib.decodeL l)).2=0):(j4 (Lib.decodeL l)).2=((Lib.decodeL l).2:Int):=by
 unfold j4 at *
 split at h2
 ·exact absurd rfl h2
 ·rw[if_neg ‹_›]
theorem next_le(s:ByteArray)(i:Nat)(h:i<s.size):(kX s i).2≤(s.size-i:Int):=by
 unfold kX mI
 repeat' split
 all_goals (simp only;omega)
theorem drop_ne{s:ByteArray}{i:Nat}(h:i<s.size):s.data.toList.drop i≠[]:=fun e=>by
 have:=congrArg List.length e
 rw[List.length_drop,show s.data.toList.length=s.size from Array.length_toList]at this
 simp only[List.length_nil]at this
 omega
theorem drop_end{s:ByteArray}{i:Nat}(h:s.size≤i):s.data.toList.drop i=[]:=List.drop_eq_nil_of_le (by rw[show s.data.toList.length=s.size from Array.length_toList];exact h)
theorem rTexts_con(s:ByteArray)(w:World)(hs:s.size≤140737488355328) :
  bV Tryz.prog 142 #[.string s] w (fun v w'=>v=.bool (gU s)∧w'=w):=by
 have hlen:s.data.toList.length=s.size:=Array.length_toList
 refine enter aB Tryz.func142 (aV rfl) rfl rfl rfl ?_
 refine aH.mk (X:=Nat) (fun i=>[(0,.string s),(3,.int .i64 i)]) (fun i w'=>w'=w∧i≤s.size∧gU s=rJ kM (s.data.toList.drop i)) (fun i=>s.size-i) 0
  ⟨rfl,Nat.zero_le _,rfl⟩ ⟨rfl,rfl,trivial⟩ ?_
 rintro i w2 ⟨hw2,hi,hg⟩
 subst hw2
 refine Cond.dec (fun g1=>?_) (fun g1=>?_)
 ·have hil:i<s.size:=by omega
  have hne:=drop_ne hil
  have hle:=next_le s i hil
  rw[vL s i hil]at hle
  refine aA.mk _ (rNext_con s i w2 hil hs) ?_
  rintro v w3 ⟨hv,hw3⟩
  have hw3':=hw3.symm
  subst hv hw3'
  rw[vL s i hil]
  have hst:=good_step kM hne
  rw[List.drop_drop]at hst
  have hw:=Lib.decodeL_width (s.data.toList.drop i)
  refine aK.bH (fun g2=>?_) (fun g2=>?_)
  rotate_left
  ·repeat (first|refine gA ?_|refine gB ?_|refine gC ?_)
   refine Cond.yes ?_
   refine And.intro ?_ rfl
   rw[hg,hst,g2]
   rfl
  ·repeat (first|refine gA ?_|refine gB ?_|refine gC ?_)
   refine aA.mk _ (rChars_con _ w2) ?_
   rintro v w3 ⟨hv,hw3⟩
   have hw3':=hw3.symm
   subst hv hw3'
   have hnw:=next_width hne g2
   repeat (first|refine gA ?_|refine gB ?_|refine gC ?_)
   refine Cond.neg (fun h=>?_) (fun h=>?_)
   ·refine And.intro ?_ rfl
    rw[hg,hst,h,Bool.false_and,Bool.and_false]
    rfl
   ·rw[hnw]at hle ⊢
    refine Ar.aM (i+(Lib.decodeL (s.data.toList.drop i)).2) (by omega) (by omega) ?_
    refine⟨i+(Lib.decodeL (s.data.toList.drop i)).2,⟨rfl,by omega,?_⟩,by omega,rfl,rfl,trivial⟩
    rw[hg,hst,h,decide_eq_false g2]
    rfl
 ·refine And.intro ?_ rfl
  rw[hg,drop_end (by omega),good_nil]
  rfl
theorem name_good(s:ByteArray)(h1:1≤s.size)(h2:s.size≤100):dW s=(eY (j4 (Lib.decodeL s.data.toList)).1&&rJ dQ s.data.toList):=by
 have hne:s.data.toList≠[]:=by have:=drop_ne (s:=s) (i:=0) (by omega);simpa using this
 have e1:dW s=(eY ((Lib.decodeL s.data.toList).1:Nat)&&rJ dQ s.data.toList):=by
  unfold dW rJ
  rw[decide_eq_true h2,Bool.and_true,Bool.and_assoc]
  congr 1
  split
  ·rename_i e;exact absurd e hne
  ·rfl
 rw[e1,good_step dQ hne]
 unfold j4
 by_cases e:(Lib.decodeL s.data.toList).2=1∧(Lib.decodeL s.data.toList).1=65533
 ·rw[if_pos e];simp
 ·rw[if_neg e]
theorem kH(s:ByteArray)(w:World)(hs:s.size≤140737488355328) :
  bV Tryz.prog 86 #[.string s] w (fun v w'=>v=.bool (dW s)∧w'=w):=by
 have hlen:s.data.toList.length=s.size:=Array.length_toList
 refine enter aB Tryz.func86 (aV rfl) rfl rfl rfl ?_
 refine aK.bH (fun g1=>?_) (fun g1=>?_)
 rotate_left
 ·repeat (first|refine gA ?_|refine gB ?_|refine gC ?_)
  refine Cond.yes ?_
  refine And.intro ?_ rfl
  have:s.data.toList=[]:=List.eq_nil_of_length_eq_zero (by omega)
  simp[dW,this,aC]
 repeat (first|refine gA ?_|refine gB ?_|refine gC ?_)
 refine Cond.dec (fun g2=>?_) (fun g2=>?_)
 ·refine And.intro ?_ rfl
  have:¬s.size≤100:=by omega
  simp[dW,this,aC]
 have hb:=name_good s (by omega) (by omega)
 refine aH.mk (X:=Nat) (fun i=>[(0,.string s),(3,.int .i64 i)]) (fun i w'=>w'=w∧i≤s.size∧(i=0∨eY (j4 (Lib.decodeL s.data.toList)).1=true)∧rJ dQ s.data.toList=rJ dQ (s.data.toList.drop i)) (fun i=>s.size-i) 0
  ⟨rfl,Nat.zero_le _,.inl rfl,rfl⟩ ⟨rfl,rfl,trivial⟩ ?_
 rintro i w2 ⟨hw2,hi,hz,hg⟩
 subst hw2
 refine Cond.dec (fun g3=>?_) (fun g3=>?_)
 ·have hil:i<s.size:=by omega
  have hne:=drop_ne hil
  have hle:=next_le s i hil
  rw[vL s i hil]at hle
  refine aA.mk _ (rNext_con s i w2 hil hs) ?_
  rintro v w3 ⟨hv,hw3⟩
  have hw3':=hw3.symm
  subst hv hw3'
  rw[vL s i hil]
  have hst:=good_step dQ hne
  rw[List.drop_drop]at hst
  have hw:=Lib.decodeL_width (s.data.toList.drop i)
  have no:rJ dQ (s.data.toList.drop i)=false→(aC [Value.bool false]=Value.bool (dW s)∧w2=w2):=fun h=>by
   rw[hb,hg,h,Bool.and_false]
   exact⟨rfl,rfl⟩
  refine aK.bH (fun g4=>?_) (fun g4=>?_)
  rotate_left
  ·repeat (first|refine gA ?_|refine gB ?_|refine gC ?_)
   refine Cond.yes ?_
   exact no (by rw[hst,g4];rfl)
  ·repeat (first|refine gA ?_|refine gB ?_|refine gC ?_)
   refine aA.mk _ (rChar_con _ w2) ?_
   rintro v w3 ⟨hv,hw3⟩
   have hw3':=hw3.symm
   subst hv hw3'
   have hnw:=next_width hne g4
   repeat (first|refine gA ?_|refine gB ?_|refine gC ?_)
   refine aK.negF (fun h=>?_) (fun h=>?_)
   rotate_left
   ·rw[h]
    repeat (first|refine gA ?_|refine gB ?_|refine gC ?_)
    refine Cond.yes ?_
    exact no (by rw[hst,h,Bool.false_and,Bool.and_false])
   ·repeat (first|refine gA ?_|refine gB ?_|refine gC ?_)
    have next:(i=0→eY (j4 (Lib.decodeL s.data.toList)).1=true)→(eY (j4 (Lib.decodeL s.data.toList)).1=true)∧rJ dQ s.data.toList=rJ dQ (s.data.toList.drop (i+(Lib.decodeL (s.data.toList.drop i)).2)):=fun h0=>by
     refine⟨?_,?_⟩
     ·rcases hz with e|e
      ·exact h0 e
      ·exact e
     ·rw[hg,hst,h,decide_eq_false g4]
      rfl
    refine aK.bB (fun g5=>?_) (fun g5=>?_)
    ·have hi0:i=0:=by omega
     repeat (first|refine gA ?_|refine gB ?_|refine gC ?_)
     refine aA.mk _ (rStart_con _ w2) ?_
     rintro v w3 ⟨hv,hw3⟩
     have hw3':=hw3.symm
     subst hv hw3'
     repeat (first|refine gA ?_|refine gB ?_|refine gC ?_)
     refine Cond.neg (fun k=>?_) (fun k=>?_)
     ·refine And.intro ?_ rfl
      rw[hi0,List.drop_zero]at k
      rw[hb,k]
      rfl
     ·rw[hnw]at hle ⊢
      have hn:=next (fun _=>by rw[hi0,List.drop_zero]at k;exact k)
      refine Ar.aM (i+(Lib.decodeL (s.data.toList.drop i)).2) (by omega) (by omega) ?_
      exact⟨i+(Lib.decodeL (s.data.toList.drop i)).2,⟨rfl,by omega,.inr hn.1,hn.2⟩,by omega,rfl,rfl,trivial⟩
    ·repeat (first|refine gA ?_|refine gB ?_|refine gC ?_)
     refine Cond.no ?_
     rw[hnw]at hle ⊢
     have hn:=next (fun e=>absurd (show(i:Int)=0 by omega) g5)
     refine Ar.aM (i+(Lib.decodeL (s.data.toList.drop i)).2) (by omega) (by omega) ?_
     exact⟨i+(Lib.decodeL (s.data.toList.drop i)).2,⟨rfl,by omega,.inr hn.1,hn.2⟩,by omega,rfl,rfl,trivial⟩
 ·refine And.intro ?_ rfl
  have hz':eY (j4 (Lib.decodeL s.data.toList)).1=true:=by
   rcases hz with e|e
   ·omega
   ·exact e
  rw[hb,hg,hz',drop_end (by omega),good_nil]
  rfl
def mF(t:List Nd)(i:Nat):Int:=if(nd t (i:Int)).parent<0 then 0 else(nd t (nd t (i:Int)).parent).kind
theorem rParent_con(v:Value)(t:List Nd)(i:Nat)(w:World)(ht:aJ w v t)(hi:i<t.length)(hp:(nd t (i:Int)).parent<t.length) :
  bV Tryz.prog 207 #[v,.int .i64 i] w (fun v' w'=>v'=.int .u8 (mF t i)∧w'=w):=by
 obtain⟨o,c,rfl,h1,h2,h3,h4⟩:=ht.open_
 have hl:=ht.len
 obtain⟨a,rfl,hc⟩:=h4 w (Ext.refl _) i hi
 have hn:=eT hi
 rw[←hn]at hc
 refine enter aB Tryz.func207 (aV rfl) rfl rfl rfl ?_
 refine Idx.mk a rfl (by omega) (by omega) ?_
 refine Load.here (hc.one (k:=3) rfl) ?_
 refine Cond.dec (fun g1=>?_) (fun g1=>?_)
 ·refine And.intro ?_ rfl
  simp[aC,mF,g1]
 ·have hlt:(nd t (i:Int)).parent.toNat<t.length:=by omega
  obtain⟨a2,ha2,hc2⟩:=h4 w (Ext.refl _) _ hlt
  cases ha2
  rw[←sN hlt]at hc2
  refine Idx.mk a rfl (by omega) (by omega) ?_
  refine Load.here (hc.one (k:=3) rfl) ?_
  refine Idx.mk a rfl (by omega) (by omega) ?_
  refine Load.here (hc2.one (k:=0) rfl) ?_
  refine And.intro ?_ rfl
  simp[aC,mF,g1]
def kU(t:List Nd)(i:Nat):Nat→Int
 | 0=>-1
 | k+1=>if(nd t (i:Int)).parent<(k:Int)then(if(nd t (k:Int)).parent=(nd t (i:Int)).parent∧(nd t (k:Int)).kind≠3 then(k:Int)else kU t i k)else -1
theorem oC(v:Value)(t:List Nd)(i:Nat)(w:World)(ht:aJ w v t)(hi:i<t.length)(hp:-1≤(nd t (i:Int)).parent) :
  bV Tryz.prog 209 #[v,.int .i64 i] w (fun v' w'=>v'=.int .i64 (kU t i i)∧Ext w w'):=by
 obtain⟨o,c,rfl,h1,h2,h3,h4⟩:=ht.open_
 have hl:=ht.len
 have hn:=eT hi
 refine enter aB Tryz.func209 (aV rfl) rfl rfl rfl ?_
 refine Ar.i64 (by omega) ?_
 refine aH.mk (X:=Nat) (fun k=>[(0,.slice o t.length c),(1,.int .i64 i),(5,.int .i64 ((k:Int)-1))]) (fun k w'=>Ext w w'∧k≤i∧kU t i i=kU t i k) (fun k=>k) i
  ⟨Ext.refl _,Nat.le_refl _,rfl⟩ ⟨rfl,rfl,rfl,trivial⟩ ?_
 rintro k w1 ⟨hE,hk,hs⟩
 obtain⟨a,rfl,hc⟩:=h4 w1 hE i hi
 rw[←hn]at hc
 refine Idx.mk a rfl (by omega) (by omega) ?_
 refine Load.here (hc.one (k:=3) rfl) ?_
 refine Cond.dec (fun g1=>?_) (fun g1=>?_)
 ·obtain⟨m,rfl⟩:∃m,k=m+1:=⟨k-1,by omega⟩
  have hm:m<t.length:=by omega
  have hst:kU t i (m+1)=(if(nd t (m:Int)).parent=(nd t (i:Int)).parent∧(nd t (m:Int)).kind≠3 then(m:Int)else kU t i m):=by
   simp only[kU]
   rw[if_pos (by omega)]
  have em:((m+1:Nat):Int)-1=(m:Int):=by omega
  rw[em]
  have hE2:=hE.trans (Ext.drew w1)
  obtain⟨a',ha',hc'⟩:=h4 _ hE2 i hi
  cases ha'
  rw[←hn]at hc'
  obtain⟨a',ha',hcm⟩:=h4 _ hE2 m hm
  cases ha'
  rw[←eT hm]at hcm
  refine aQ.mk aB mixed (allT 0 19) [] (by kernel_rfl) (fun w'=>w'=w1.drew) rfl ?_
  refine Idx.mk a rfl (by omega) (by omega) ?_
  refine Load.here (hcm.one (k:=3) rfl) ?_
  refine Idx.mk a rfl (by omega) (by omega) ?_
  refine Load.here (hc'.one (k:=3) rfl) ?_
  refine aK.bB (fun g2=>?_) (fun g2=>?_)
  ·repeat (first|refine gA ?_|refine gB ?_|refine gC ?_)
   refine Idx.mk a rfl (by omega) (by omega) ?_
   repeat (first|refine gA ?_|refine gB ?_|refine gC ?_)
   refine Load.here (hcm.one (k:=0) rfl) ?_
   repeat (first|refine gA ?_|refine gB ?_|refine gC ?_)
   refine Cond.dH (fun g3=>?_) (fun g3=>?_)
   ·refine And.intro ?_ hE2
    rw[hs,hst,if_pos ⟨g2,g3⟩]
    rfl
   ·refine Ar.i64 (by omega) ?_
    refine⟨m,⟨hE2,by omega,?_⟩,by omega,rfl,rfl,rfl,trivial⟩
    rw[hs,hst,if_neg (fun h=>h.2 g3)]
  ·repeat (first|refine gA ?_|refine gB ?_|refine gC ?_)
   refine Cond.no ?_
   refine Ar.i64 (by omega) ?_
   refine⟨m,⟨hE2,by omega,?_⟩,by omega,rfl,rfl,rfl,trivial⟩
   rw[hs,hst,if_neg (fun h=>g2 h.1)]
 ·refine And.intro ?_ hE
  rw[hs]
  cases k with
  | zero=>rfl
  | succ m=>
    simp only[kU]
    rw[if_neg (by omega)]
    rfl
def qQ(t:List Nd)(i:Nat)(k:Nat):Bool:=decide ((nd t (k:Int)).parent=(nd t (i:Int)).parent)&&(decide ((nd t (k:Int)).kind=3)&&!decide ((nd t (k:Int)).name=(nd t (i:Int)).name))
def mG(t:List Nd)(i:Nat):Bool:=decide (mF t i=2)&&(dW (nd t (i:Int)).name&&(List.range (i-((nd t (i:Int)).parent+1).toNat)).all fun k=>qQ t i (((nd t (i:Int)).parent+1).toNat+k))
theorem l6(v:Value)(t:List Nd)(i:Nat)(w:World)(ht:aJ w v t)(hi:i<t.length)(hp:-1≤(nd t (i:Int)).parent∧(nd t (i:Int)).parent<i) :
  bV Tryz.prog 208 #[v,.int .i64 i] w (fun v' w'=>v'=.bool (mG t i)∧Ext w w'):=by
 have ht0:=ht
 obtain⟨o,c,rfl,h1,h2,h3,h4⟩:=ht.open_
 have hl:=ht.len
 have hn:=eT hi
 obtain⟨a,ha,hc⟩:=h4 w (Ext.refl _) i hi
 subst ha
 rw[←hn]at hc
 have hwf:=ht.wf _ (List.getElem_mem hi)
 rw[←hn]at hwf
 refine enter aB Tryz.func208 (aV rfl) rfl rfl rfl ?_
 refine Idx.mk a rfl (by omega) (by omega) ?_
 refine Load.here (hc.one (k:=3) rfl) ?_
 refine aA.mk _ (rParent_con _ t i w ht0 hi (by omega)) ?_
 rintro v w1 ⟨hv,hw⟩
 have hw':=hw.symm
 subst hv hw'
 refine aK.bP (fun g1=>?_) (fun g1=>?_)
 rotate_left
 ·repeat (first|refine gA ?_|refine gB ?_|refine gC ?_)
  refine Cond.yes ?_
  refine And.intro ?_ (Ext.refl _)
  unfold mG
  rw[decide_eq_false g1]
  rfl
 repeat (first|refine gA ?_|refine gB ?_|refine gC ?_)
 refine Idx.mk a rfl (by omega) (by omega) ?_
 repeat (first|refine gA ?_|refine gB ?_|refine gC ?_)
 refine Load.here (hc.one (k:=1) rfl) ?_
 repeat (first|refine gA ?_|refine gB ?_|refine gC ?_)
 refine aA.mk _ (kH _ w hwf.name) ?_
 rintro v w1 ⟨hv,hw⟩
 have hw':=hw.symm
 subst hv hw'
 repeat (first|refine gA ?_|refine gB ?_|refine gC ?_)
 refine Cond.neg (fun g2=>?_) (fun g2=>?_)
 ·refine And.intro ?_ (Ext.refl _)
  unfold mG
  rw[g2,Bool.false_and,Bool.and_false]
  rfl
 obtain⟨q,hq⟩:∃q:Nat,q=((nd t (i:Int)).parent+1).toNat:=⟨_,rfl⟩
 have hqi:(nd t (i:Int)).parent+1=(q:Int):=by omega
 have hval:mG t i=(List.range (i-q)).all fun k=>qQ t i (q+k):=by
  unfold mG
  rw[decide_eq_true g1,g2,←hq]
  rfl
 refine Ar.aM q hqi (by omega) ?_
 refine aH.mk (X:=Nat) (fun k=>[(0,.slice (some a) t.length c),(1,.int .i64 i),(5,.int .i64 (nd t (i:Int)).parent),(6,.int .i64 (q+k:Nat))]) (fun k w'=>Ext w w'∧q+k≤i∧(List.range k).all (fun k=>qQ t i (q+k))=true) (fun k=>i-(q+k)) 0
  ⟨Ext.refl _,by omega,rfl⟩ ⟨rfl,rfl,rfl,rfl,trivial⟩ ?_
 rintro k w1 ⟨hE,hk,hs⟩
 refine Cond.dec (fun g3=>?_) (fun g3=>?_)
 ·have hm:q+k<t.length:=by omega
  have hE2:=hE.trans (Ext.drew w1)
  obtain⟨a',ha',hc'⟩:=h4 _ hE2 i hi
  cases ha'
  rw[←hn]at hc'
  obtain⟨a',ha',hcm⟩:=h4 _ hE2 (q+k) hm
  cases ha'
  rw[←eT hm]at hcm
  have no:qQ t i (q+k)=false→(aC [Value.bool false]=Value.bool (mG t i)∧Ext w w1.drew):=fun h=>by
   refine⟨?_,hE2⟩
   have:mG t i=false:=by
    rw[hval,List.all_eq_false]
    exact⟨k,List.mem_range.2 (by omega),by simp[h]⟩
   rw[this]
   rfl
  refine aQ.mk aB mixed (allT 0 28) [] (by kernel_rfl) (fun w'=>w'=w1.drew) rfl ?_
  refine Idx.mk a rfl (by omega) (by omega) ?_
  refine Load.here (hcm.one (k:=3) rfl) ?_
  refine aK.bP (fun g4=>?_) (fun g4=>?_)
  ·repeat (first|refine gA ?_|refine gB ?_|refine gC ?_)
   refine Idx.mk a rfl (by omega) (by omega) ?_
   repeat (first|refine gA ?_|refine gB ?_|refine gC ?_)
   refine Load.here (hcm.one (k:=0) rfl) ?_
   repeat (first|refine gA ?_|refine gB ?_|refine gC ?_)
   refine aK.bP (fun g5=>?_) (fun g5=>?_)
   ·repeat (first|refine gA ?_|refine gB ?_|refine gC ?_)
    refine Idx.mk a rfl (by omega) (by omega) ?_
    repeat (first|refine gA ?_|refine gB ?_|refine gC ?_)
    refine Load.here (hcm.one (k:=1) rfl) ?_
    repeat (first|refine gA ?_|refine gB ?_|refine gC ?_)
    refine Idx.mk a rfl (by omega) (by omega) ?_
    repeat (first|refine gA ?_|refine gB ?_|refine gC ?_)
    refine Load.here (hc'.one (k:=1) rfl) ?_
    repeat (first|refine gA ?_|refine gB ?_|refine gC ?_)
    refine Cond.dec (fun g6=>?_) (fun g6=>?_)
    ·exact no (by unfold qQ;rw[decide_eq_true g6,Bool.not_true,Bool.and_false,Bool.and_false])
    ·refine Ar.aM (q+(k+1)) (by omega) (by omega) ?_
     refine⟨k+1,⟨hE2,by omega,?_⟩,by omega,rfl,rfl,rfl,rfl,trivial⟩
     rw[List.range_succ,List.all_append,hs,List.all_cons,List.all_nil,Bool.and_true,Bool.true_and]
     unfold qQ
     rw[decide_eq_true g4,decide_eq_true g5,decide_eq_false g6]
     rfl
   ·repeat (first|refine gA ?_|refine gB ?_|refine gC ?_)
    refine Cond.yes ?_
    exact no (by unfold qQ;rw[decide_eq_false g5,Bool.false_and,Bool.and_false])
  ·repeat (first|refine gA ?_|refine gB ?_|refine gC ?_)
   refine Cond.yes ?_
   exact no (by unfold qQ;rw[decide_eq_false g4,Bool.false_and])
 ·refine And.intro ?_ hE
  have hk2:i-q=k:=by omega
  rw[hval,hk2,hs]
  rfl
def jR(t:List Nd):Nat→Int→Int
 | 0,_=>0
 | n+1,p=>if 0≤p then(if(nd t p).kind=2 then 1 else 0)+jR t n (nd t p).parent else 0
theorem deepF_fuel{t:List Nd}{N:Nat}(hu:∀j:Nat,j<N→(nd t (j:Int)).parent<j):∀(n m:Nat) (p:Int),p<N→p<n→p<m→jR t n p=jR t m p
 | 0,0,_,_,_,_=>rfl
 | 0,m+1,p,_,h,_=>by
   unfold jR
   rw[if_neg (by omega)]
 | n+1,0,p,_,_,h=>by
   unfold jR
   rw[if_neg (by omega)]
 | n+1,m+1,p,h0,h1,h2=>by
   unfold jR
   by_cases hp:0≤p
   ·rw[if_pos hp,if_pos hp]
    have:=hu p.toNat (by omega)
    rw[show((p.toNat:Nat):Int)=p by omega]at this
    rw[deepF_fuel hu n m _ (by omega) (by omega) (by omega)]
   ·rw[if_neg hp,if_neg hp]
theorem vQ(v:Value)(t:List Nd)(i:Nat)(w:World)(ht:aJ w v t)(hi:i<t.length)(hu:∀j:Nat,j<i+1→(nd t (j:Int)).parent<j) :
  bV Tryz.prog 186 #[v,.int .i64 i] w (fun v' w'=>v'=.int .i64 (jR t (i+1) i)∧w'=w):=by
 obtain⟨o,c,rfl,h1,h2,h3,h4⟩:=ht.open_
 have hl:=ht.len
 refine enter aB Tryz.func186 (aV rfl) rfl rfl rfl ?_
 refine aH.mk (X:=Nat × Int × Int) (fun x=>[(0,.slice o t.length c),(1,.int .i64 i),(5,.int .i64 x.2.1),(6,.int .i64 x.2.2)]) (fun x w'=>w'=w∧x.1≤i+1∧x.2.2<x.1∧0≤x.2.1∧x.2.1+x.1≤i+1∧x.2.1+jR t x.1 x.2.2=jR t (i+1) i) (fun x=>x.1) (i+1,0,i)
  ⟨rfl,Nat.le_refl _,by simp;omega,Int.le_refl _,by simp,by simp⟩ ⟨rfl,rfl,rfl,rfl,trivial⟩ ?_
 rintro⟨k,d,p⟩ w1 ⟨hw,hk,hpk,hd,hdk,hs⟩
 simp only at hk hpk hd hdk hs ⊢
 subst hw
 refine Cond.dec (fun g1=>?_) (fun g1=>?_)
 ·obtain⟨m,rfl⟩:∃m,k=m+1:=⟨k-1,by omega⟩
  have hpl:p.toNat<t.length:=by omega
  obtain⟨a,ha,hc⟩:=h4 w1 (Ext.refl _) _ hpl
  subst ha
  rw[←sN hpl]at hc
  have hup:=hu p.toNat (by omega)
  rw[show((p.toNat:Nat):Int)=p by omega]at hup
  have hst:jR t (m+1) p=(if(nd t p).kind=2 then 1 else 0)+jR t m (nd t p).parent:=by
   show(if 0≤p then(if(nd t p).kind=2 then 1 else 0)+jR t m (nd t p).parent else 0)=_
   rw[if_pos g1]
  rw[hst]at hs
  refine Idx.mk a rfl (by omega) (by omega) ?_
  refine Load.here (hc.one (k:=0) rfl) ?_
  refine Cond.dec (fun g2=>?_) (fun g2=>?_)
  ·rw[if_pos g2]at hs
   refine Ar.i64 (by omega) ?_
   refine Idx.mk a rfl (by omega) (by omega) ?_
   refine Load.here (hc.one (k:=3) rfl) ?_
   exact⟨(m,d+1,(nd t p).parent),⟨rfl,by simp only;omega,by simp only;omega,by simp only;omega,by simp only;omega,by simp only;omega⟩,by simp only;omega,rfl,rfl,rfl,rfl,trivial⟩
  ·rw[if_neg g2]at hs
   refine Idx.mk a rfl (by omega) (by omega) ?_
   refine Load.here (hc.one (k:=3) rfl) ?_
   exact⟨(m,d,(nd t p).parent),⟨rfl,by simp only;omega,by simp only;omega,by simp only;omega,by simp only;omega,by simp only;omega⟩,by simp only;omega,rfl,rfl,rfl,rfl,trivial⟩
 ·refine And.intro ?_ rfl
  have:jR t k p=0:=by
   cases k with
   | zero=>rfl
   | succ m=>unfold jR;rw[if_neg g1]
  rw[←hs,this,Int.add_zero]
  rfl
theorem yM(v:Value)(t:List Nd)(w:World)(ht:aJ w v t) :
  bV Tryz.prog 175 #[v] w (fun v' w'=>v'=.bool ((List.range t.length).all (fB t))∧w'=w):=by
 obtain⟨o,c,rfl,h1,h2,h3,h4⟩:=ht.open_
 have hl:=ht.len
 have hwp:∀(j:Nat) (hj:j<t.length),-9223372036854775808≤(nd t (j:Int)).parent∧(nd t (j:Int)).parent≤9223372036854775807:=fun j hj=>by
  rw[eT hj];exact(ht.wf _ (List.getElem_mem hj)).parent
 refine enter aB Tryz.func175 (aV rfl) rfl rfl rfl ?_
 refine aH.mk (X:=Nat) (fun i=>[(0,.slice o t.length c),(3,.int .i64 i)]) (fun i w'=>w'=w∧i≤t.length∧(List.range i).all (fB t)=true∧∀j:Nat,j<i→-1≤(nd t (j:Int)).parent∧(nd t (j:Int)).parent<j) (fun i=>t.length-i) 0
  ⟨rfl,Nat.zero_le _,rfl,fun j h=>by omega⟩ ⟨rfl,rfl,trivial⟩ ?_
 rintro i w1 ⟨hw,hi,hs,hu⟩
 subst hw
 refine Cond.dec (fun g1=>?_) (fun g1=>?_)
 ·have hil:i<t.length:=by omega
  obtain⟨a,ha,hc⟩:=h4 w1 (Ext.refl _) i hil
  subst ha
  rw[←eT hil]at hc
  refine Ar.i64 (by omega) ?_
  have no:fB t i=false→(aC [Value.bool false]=Value.bool ((List.range t.length).all (fB t))∧w1=w1):=fun h=>by
   have:(List.range t.length).all (fB t)=false:=by
    rw[List.all_eq_false]
    exact⟨i,List.mem_range.2 hil,by simp[h]⟩
   rw[this]
   exact⟨rfl,rfl⟩
  refine aH.mk (X:=Nat × Int) (fun x=>[(0,.slice (some a) t.length c),(3,.int .i64 i),(4,.int .i64 x.2)]) (fun x w'=>w'=w1∧-1≤x.2∧x.2<i∧x.2+1≤x.1∧chase t (nd t (i:Int)).parent x.1 x.2=chase t (nd t (i:Int)).parent i ((i:Int)-1)) (fun x=>(x.2+1).toNat) (i,(i:Int)-1)
   ⟨rfl,by simp only;omega,by simp only;omega,by simp only;omega,rfl⟩ ⟨rfl,rfl,rfl,trivial⟩ ?_
  rintro⟨n,p⟩ w2 ⟨hw,hp0,hp1,hn,hch⟩
  simp only at hp0 hp1 hn hch ⊢
  subst hw
  refine Idx.mk a rfl (by omega) (by omega) ?_
  refine Load.here (hc.one (k:=3) rfl) ?_
  refine Cond.dH (fun g2=>?_) (fun g2=>?_)
  ·refine Cond.dec (fun g3=>?_) (fun g3=>?_)
   ·refine no ?_
    unfold fB
    rw[←hch,oW (by omega)]
    exact decide_eq_false g2
   ·have hpl:p.toNat<t.length:=by omega
    obtain⟨a',ha',hcp⟩:=h4 w2 (Ext.refl _) _ hpl
    cases ha'
    rw[←sN hpl]at hcp
    have hup:=hu p.toNat (by omega)
    rw[show((p.toNat:Nat):Int)=p by omega]at hup
    refine Idx.mk a rfl (by omega) (by omega) ?_
    refine Load.here (hcp.one (k:=3) rfl) ?_
    refine⟨(n-1,(nd t p).parent),⟨rfl,by simp only;omega,by simp only;omega,by simp only;omega,?_⟩,by simp only;omega,rfl,rfl,rfl,trivial⟩
    simp only
    rw[←hch]
    obtain⟨m,rfl⟩:∃m,n=m+1:=⟨n-1,by omega⟩
    simp only[chase]
    rw[if_pos ⟨by omega,g2⟩]
    rfl
  ·have hob:fB t i=true:=by
    unfold fB
    rw[←hch,oW (by omega)]
    exact decide_eq_true g2
   refine Ar.i64 (by omega) ?_
   refine⟨i+1,⟨rfl,by omega,?_,fun j hj=>?_⟩,by omega,rfl,rfl,trivial⟩
   ·rw[List.range_succ,List.all_append,hs,List.all_cons,List.all_nil,hob]
    rfl
   ·by_cases e:j=i
    ·subst e;omega
    ·exact hu j (by omega)
 ·refine And.intro ?_ rfl
  have:i=t.length:=by omega
  rw[←this,hs]
  rfl
def hasF(s p:ByteArray):Bool:=(List.range (s.size+1-p.size)).any fun i=>decide (s.extract i (i+p.size)=p)
theorem rU(s p:ByteArray)(w:World)(hs:s.size≤140737488355328)(hp:p.size≤10) :
  bV Tryz.prog 210 #[.string s,.string p] w (fun v' w'=>v'=.bool (hasF s p)∧w'=w):=by
 refine enter aB Tryz.func210 (aV rfl) rfl rfl rfl ?_
 refine aH.mk (X:=Nat) (fun i=>[(0,.string s),(1,.string p),(5,.int .i64 i)]) (fun i w'=>w'=w∧i≤s.size+1-p.size∧(List.range i).any (fun i=>decide (s.extract i (i+p.size)=p))=false) (fun i=>s.size+1-p.size-i) 0
  ⟨rfl,Nat.zero_le _,rfl⟩ ⟨rfl,rfl,rfl,trivial⟩ ?_
 rintro i w1 ⟨hw,hi,hn⟩
 subst hw
 refine Ar.i64 (by omega) ?_
 refine Cond.dec (fun g1=>?_) (fun g1=>?_)
 ·refine Ar.aM (i+p.size) (by omega) (by omega) ?_
  refine Need.mk (by omega) ?_
  simp only[Int.toNat_natCast]
  refine Cond.dec (fun g2=>?_) (fun g2=>?_)
  ·refine And.intro ?_ rfl
   have:hasF s p=true:=by
    unfold hasF
    rw[List.any_eq_true]
    exact⟨i,List.mem_range.2 (by omega),decide_eq_true g2⟩
   rw[this]
   rfl
  ·refine Ar.i64 (by omega) ?_
   refine⟨i+1,⟨rfl,by omega,?_⟩,by omega,rfl,rfl,rfl,trivial⟩
   rw[List.range_succ,List.any_append,hn,List.any_cons,List.any_nil,decide_eq_false g2]
   rfl
 ·refine And.intro ?_ rfl
  have hi2:i=s.size+1-p.size:=by omega
  unfold hasF
  rw[←hi2,hn]
  rfl
theorem rXml_con(s:ByteArray)(w:World):bV Tryz.prog 211 #[.string s] w (fun v' w'=>v'=.bool (zI s)∧w'=w):=by
 have e0:aI rA 0=120:=rfl
 have e1:aI rA 1=109:=rfl
 have e2:aI rA 2=108:=rfl
 have n0:Int.toNat 0=0:=rfl
 have n1:Int.toNat 1=1:=rfl
 have n2:Int.toNat 2=2:=rfl
 refine enter aB Tryz.func211 (aV rfl) rfl rfl rfl ?_
 refine aK.bB (fun g0=>?_) (fun g0=>?_)
 rotate_left
 ·repeat (first|refine gA ?_|refine gB ?_|refine gC ?_)
  refine And.intro ?_ rfl
  have:¬s.size=3:=by omega
  simp[aC,zI,this]
 have g3:s.size=3:=by omega
 repeat' (first|refine gA ?_|refine gB ?_|refine gC ?_|refine Need.mk (by omega) ?_|refine aK.bH (fun _=>?_) (fun _=>?_)|refine aK.bB (fun _=>?_) (fun _=>?_))
 all_goals (refine And.intro ?_ rfl;simp only[n0,n1,n2]at *;simp[aC,zI,nM,e0,e1,e2, *])
theorem xD(s:ByteArray)(w:World)(hs:s.size=1):bV Tryz.prog 212 #[.string s] w (fun v' w'=>v'=.bool (decide (aI s 0=9∨aI s 0=10∨aI s 0=13∨aI s 0=32))∧w'=w):=by
 refine enter aB Tryz.func212 (aV rfl) rfl rfl rfl ?_
 refine aH.mk (X:=Nat) (fun i=>[(0,.string s),(3,.int .i64 i)]) (fun i w'=>w'=w∧(i=0∨(i=1∧(aI s 0=9∨aI s 0=10∨aI s 0=13∨aI s 0=32)))) (fun i=>1-i) 0
  ⟨rfl,.inl rfl⟩ ⟨rfl,rfl,trivial⟩ ?_
 rintro i w1 ⟨hw,hi⟩
 subst hw
 refine Cond.dec (fun g1=>?_) (fun g1=>?_)
 ·have hi0:i=0:=by omega
  subst hi0
  have nx:(aI s 0=9∨aI s 0=10∨aI s 0=13∨aI s 0=32)→∀w',w'=w1→(w'=w1∧(0+1=0∨(0+1=1∧(aI s 0=9∨aI s 0=10∨aI s 0=13∨aI s 0=32)))):=fun h w' e=>⟨e,.inr ⟨rfl,h⟩⟩
  have z0:((0:Nat):Int).toNat=0:=rfl
  refine Need.mk (by omega) ?_
  refine aK.bU (fun g2=>?_) (fun g2=>?_)
  rotate_left
  ·rw[z0]at g2
   repeat (first|refine gA ?_|refine gB ?_|refine gC ?_)
   refine Cond.no ?_
   refine Ar.aM (0+1) (by omega) (by omega) ?_
   exact⟨0+1,nx (.inl g2) _ rfl,by omega,rfl,rfl,trivial⟩
  repeat (first|refine gA ?_|refine gB ?_|refine gC ?_)
  refine Need.mk (by omega) ?_
  refine gC ?_
  refine aK.bU (fun g3=>?_) (fun g3=>?_)
  rotate_left
  ·rw[z0]at g3
   repeat (first|refine gA ?_|refine gB ?_|refine gC ?_)
   refine Cond.no ?_
   refine Ar.aM (0+1) (by omega) (by omega) ?_
   exact⟨0+1,nx (.inr (.inl g3)) _ rfl,by omega,rfl,rfl,trivial⟩
  repeat (first|refine gA ?_|refine gB ?_|refine gC ?_)
  refine Need.mk (by omega) ?_
  refine gC ?_
  refine aK.bU (fun g4=>?_) (fun g4=>?_)
  rotate_left
  ·rw[z0]at g4
   repeat (first|refine gA ?_|refine gB ?_|refine gC ?_)
   refine Cond.no ?_
   refine Ar.aM (0+1) (by omega) (by omega) ?_
   exact⟨0+1,nx (.inr (.inr (.inl g4))) _ rfl,by omega,rfl,rfl,trivial⟩
  repeat (first|refine gA ?_|refine gB ?_|refine gC ?_)
  refine Need.mk (by omega) ?_
  refine gC ?_
  refine Cond.dH (fun g5=>?_) (fun g5=>?_)
  ·rw[z0]at *
   refine And.intro ?_ rfl
   rw[decide_eq_false (by simp[g2,g3,g4,g5])]
   rfl
  ·rw[z0]at g5
   refine Ar.aM (0+1) (by omega) (by omega) ?_
   exact⟨0+1,nx (.inr (.inr (.inr g5))) _ rfl,by omega,rfl,rfl,trivial⟩
 ·have hi1:i=1∧(aI s 0=9∨aI s 0=10∨aI s 0=13∨aI s 0=32):=by
   rcases hi with h|h
   ·omega
   ·exact h
  refine And.intro ?_ rfl
  rw[decide_eq_true hi1.2]
  rfl
def iI(up:Int):Bool:=decide (up=0∨up=2∨up=1)
def blank1(s:ByteArray):Bool:=decide (aI s 0=9∨aI s 0=10∨aI s 0=13∨aI s 0=32)
def kW(t:List Nd)(i:Nat)(up:Int)(n:Nd):Bool:=
 if n.kind=1 then decide (i=0)&&(decide (n.name=aP)&&decide (n.value=aP))
 else if n.kind=2 then iI up&&(dW n.name&&decide (n.value=aP))
 else if n.kind=3 then mG t i
 else if n.kind=4 then decide (up=0∨up=2)&&(decide (n.name=aP)&&(!decide (n.value=aP)&&(decide (kU t i i<0)||!decide ((nd t (kU t i i)).kind=4))))
 else if n.kind=5 then iI up&&(decide (n.name=aP)&&(!hasF n.value nS&&(decide (n.value=aP)||!decide (aI n.value (n.value.size-1)=45))))
 else if n.kind=6 then iI up&&(dW n.name&&(!zI n.name&&(!hasF n.value endT&&(decide (n.value=aP)||!blank1 (n.value.extract 0 1)))))
 else false
def jK(t:List Nd)(i:Nat):Bool:=gU (nd t (i:Int)).value&&(!decide (65536<(nd t (i:Int)).value.size)&&kW t i (mF t i) (nd t (i:Int)))
theorem sib_lt(t:List Nd)(i:Nat):∀k,-1≤kU t i k∧kU t i k<k
 | 0=>by simp[kU]
 | k+1=>by
   have:=sib_lt t i k
   simp only[kU]
   split
   ·split<;>omega
   ·omega
theorem kD(s:ByteArray):s=aP↔s.size=0:=by
 constructor
 ·intro h;rw[h];rfl
 ·intro h
  obtain⟨d⟩:=s
  have:d=#[]:=Array.eq_empty_of_size_eq_zero h
  rw[this];rfl
set_option maxHeartbeats 2000000 in
theorem rFits_con(v:Value)(t:List Nd)(i:Nat)(w:World)(ht:aJ w v t)(hi:i<t.length)(hp:-1≤(nd t (i:Int)).parent∧(nd t (i:Int)).parent<i) :
  bV Tryz.prog 185 #[v,.int .i64 i] w (fun v' w'=>v'=.bool (jK t i)∧Ext w w'):=by
 have ht0:=ht
 obtain⟨o,c,rfl,h1,h2,h3,h4⟩:=ht.open_
 have hl:=ht.len
 obtain⟨ai,hai,hci⟩:=h4 w (Ext.refl _) i hi
 subst hai
 have hnd:=eT hi
 have hwf:=ht.wf _ (List.getElem_mem hi)
 have hF:jK t i=(gU (t[i]).value&&(!decide (65536<(t[i]).value.size)&&kW t i (mF t i) t[i])):=by unfold jK;rw[hnd]
 have hp':=hp
 rw[hnd]at hp'
 have hSib:=sib_lt t i i
 generalize t[i]=n at *
 obtain⟨kind,name,value,parent⟩:=n
 have hkind:=hwf.kind
 have hname:=hwf.name
 have hvalue:=hwf.value
 simp only at hkind hname hvalue hp' hF
 refine enter aB Tryz.func185 (aV rfl) rfl rfl rfl ?_
 refine Idx.mk ai rfl (by omega) (by omega) ?_
 refine Load.here (hci.all' rfl) ?_
 refine aG.alloc _ [.int .u8 0,.string ⟨#[]⟩,.string ⟨#[]⟩,.int .i64 0] mU rfl fun bn w1 hn1=>?_
 refine bA.store bn 0 _ [.int .u8 kind,.string name,.string value,.int .i64 parent] 50 rfl rfl (by kernel_rfl) hn1.blk (by simp) (by simp[Value.oneCell']) fun w2 hn2=>?_
 have hN:=hn1.upd hn2
 have hcn:=hN.blk.cells
 have hE2:=hN.ext
 have ht2:=ht0.ext hE2
 refine aA.mk _ (rParent_con _ t i w2 ht2 hi (by omega)) ?_
 rintro v w3 ⟨hv,hw⟩
 have hw':=hw.symm
 subst hv hw'
 obtain⟨up,hup⟩:∃up,mF t i=up:=⟨_,rfl⟩
 rw[hup]at hF ⊢
 have fin:∀(b:Bool) (w':World),jK t i=b→Ext w w'→(aC [Value.bool b]=Value.bool (jK t i)∧Ext w w'):=fun b w' h1 h2=>by rw[h1];exact⟨rfl,h2⟩
 refine Load.here (hcn.one (k:=2) rfl) ?_
 refine aA.mk _ (rTexts_con value w2 hvalue) ?_
 rintro v w3 ⟨hv,hw⟩
 have hw':=hw.symm
 subst hv hw'
 refine aK.negF (fun g1=>?_) (fun g1=>?_)
 rotate_left
 ·rw[g1]
  repeat (first|refine gA ?_|refine gB ?_|refine gC ?_)
  refine Cond.yes ?_
  exact fin _ _ (by rw[hF,g1];rfl) hE2
 rw[g1]at hF ⊢
 repeat (first|refine gA ?_|refine gB ?_|refine gC ?_)
 refine Load.here (hcn.one (k:=2) rfl) ?_
 repeat (first|refine gA ?_|refine gB ?_|refine gC ?_)
 refine Cond.dec (fun g2=>?_) (fun g2=>?_)
 ·exact fin _ _ (by rw[hF,decide_eq_true (by omega)];rfl) hE2
 have g2':¬65536<value.size:=by omega
 rw[decide_eq_false g2']at hF
 simp only[Bool.true_and,Bool.not_false]at hF
 have hV1:kind=1→jK t i=(decide (i=0)&&(decide (name=aP)&&decide (value=aP))):=fun k1=>by rw[hF];unfold kW;rw[if_pos k1]
 have hV2:kind=2→jK t i=(iI up&&(dW name&&decide (value=aP))):=fun k=>by rw[hF];unfold kW;rw[if_neg (by simp only;omega),if_pos k]
 have hV3:kind=3→jK t i=mG t i:=fun k=>by rw[hF];unfold kW;rw[if_neg (by simp only;omega),if_neg (by simp only;omega),if_pos k]
 have hV4:kind=4→jK t i=(decide (up=0∨up=2)&&(decide (name=aP)&&(!decide (value=aP)&&(decide (kU t i i<0)||!decide ((nd t (kU t i i)).kind=4))))):=fun k=>by rw[hF];unfold kW;rw[if_neg (by simp only;omega),if_neg (by simp only;omega),if_neg (by simp only;omega),if_pos k]
 have hV5:kind=5→jK t i=(iI up&&(decide (name=aP)&&(!hasF value nS&&(decide (value=aP)||!decide (aI value (value.size-1)=45))))):=fun k=>by rw[hF];unfold kW;rw[if_neg (by simp only;omega),if_neg (by simp only;omega),if_neg (by simp only;omega),if_neg (by simp only;omega),if_pos k]
 have hV6:kind=6→jK t i=(iI up&&(dW name&&(!zI name&&(!hasF value endT&&(decide (value=aP)||!blank1 (value.extract 0 1)))))):=fun k=>by rw[hF];unfold kW;rw[if_neg (by simp only;omega),if_neg (by simp only;omega),if_neg (by simp only;omega),if_neg (by simp only;omega),if_neg (by simp only;omega),if_pos k]
 have hV7:¬kind=1→¬kind=2→¬kind=3→¬kind=4→¬kind=5→¬kind=6→jK t i=false:=fun a b c d e f=>by rw[hF];unfold kW;rw[if_neg a,if_neg b,if_neg c,if_neg d,if_neg e,if_neg f]
 clear hF
 refine aK.bH (fun u0=>?_) (fun hu0=>?_)
 ·repeat (first|refine gA ?_|refine gB ?_|refine gC ?_)
  refine aK.bH (fun u2=>?_) (fun hu2=>?_)
  ·repeat (first|refine gA ?_|refine gB ?_|refine gC ?_)
   by_cases u1:up=1
   ·have hin:iI up=true:=decide_eq_true (.inr (.inr u1))
    repeat (first|refine gA ?_|refine gB ?_|refine gC ?_)
    refine Load.here (hcn.one (k:=0) rfl) ?_
    refine Cond.dec (fun k1=>?_) (fun k1=>?_)
    ·refine aK.bB (fun q1=>?_) (fun q1=>?_)
     ·repeat (first|refine gA ?_|refine gB ?_|refine gC ?_)
      refine Load.here (hcn.one (k:=1) rfl) ?_
      repeat (first|refine gA ?_|refine gB ?_|refine gC ?_)
      refine aK.bB (fun q2=>?_) (fun q2=>?_)
      ·repeat (first|refine gA ?_|refine gB ?_|refine gC ?_)
       refine Load.here (hcn.one (k:=2) rfl) ?_
       repeat (first|refine gA ?_|refine gB ?_|refine gC ?_)
       have q1':i=0:=by omega
       exact fin _ _ (by rw[hV1 k1,decide_eq_true q1',decide_eq_true (show name=aP from q2)];rfl) hE2
      ·repeat (first|refine gA ?_|refine gB ?_|refine gC ?_)
       exact fin _ _ (by rw[hV1 k1,decide_eq_false (show ¬name=aP from q2),Bool.false_and,Bool.and_false]) hE2
     ·repeat (first|refine gA ?_|refine gB ?_|refine gC ?_)
      have q1':¬i=0:=by omega
      exact fin _ _ (by rw[hV1 k1,decide_eq_false q1',Bool.false_and]) hE2
    refine Cond.dec (fun k2=>?_) (fun k2=>?_)
    ·refine aK.bB (fun uu=>?_) (fun uu=>absurd u1 uu)
     repeat (first|refine gA ?_|refine gB ?_|refine gC ?_)
     refine Load.here (hcn.one (k:=1) rfl) ?_
     repeat (first|refine gA ?_|refine gB ?_|refine gC ?_)
     refine aA.mk _ (kH name w2 hname) ?_
     rintro v w4 ⟨hv,hw⟩
     have hw':=hw.symm
     subst hv hw'
     repeat (first|refine gA ?_|refine gB ?_|refine gC ?_)
     refine aK.mk (fun q2=>?_) (fun q2=>?_)
     ·rw[q2]
      repeat (first|refine gA ?_|refine gB ?_|refine gC ?_)
      refine Load.here (hcn.one (k:=2) rfl) ?_
      repeat (first|refine gA ?_|refine gB ?_|refine gC ?_)
      exact fin _ _ (by rw[hV2 k2,hin,q2];rfl) hE2
     ·rw[q2]
      repeat (first|refine gA ?_|refine gB ?_|refine gC ?_)
      exact fin _ _ (by rw[hV2 k2,q2,Bool.not_true,Bool.false_and,Bool.and_false]) hE2
    refine Cond.dec (fun k3=>?_) (fun k3=>?_)
    ·refine aA.mk _ (l6 _ t i w2 ht2 hi hp) ?_
     rintro v w4 ⟨rfl,hE4⟩
     exact fin _ _ (hV3 k3) (hE2.trans hE4)
    refine Cond.dec (fun k4=>?_) (fun k4=>?_)
    ·refine aA.mk _ (oC _ t i w2 ht2 hi hp.1) ?_
     rintro v w4 ⟨rfl,hE4⟩
     have hE04:=hE2.trans hE4
     have hc4:=hcn.ext hE4
     have tail:up=0∨up=2→∀b,(b=(decide (name=aP)&&(!decide (value=aP)&&(decide (kU t i i<0)||!decide ((nd t (kU t i i)).kind=4)))))→jK t i=b:=fun h b hb=>by
      rw[hV4 k4,decide_eq_true h,hb,Bool.true_and]
     refine aK.bH (fun u=>?_) (fun u=>absurd u (by omega))
     repeat (first|refine gA ?_|refine gB ?_|refine gC ?_)
     refine aK.bB (fun u2=>absurd u2 (by omega)) (fun u2=>?_)
     repeat (first|refine gA ?_|refine gB ?_|refine gC ?_)
     exact fin _ _ (by rw[hV4 k4,decide_eq_false (by omega),Bool.false_and]) hE04
    refine Cond.dec (fun k5=>?_) (fun k5=>?_)
    ·refine aK.bB (fun uu=>?_) (fun uu=>absurd u1 uu)
     repeat (first|refine gA ?_|refine gB ?_|refine gC ?_)
     refine Load.here (hcn.one (k:=1) rfl) ?_
     repeat (first|refine gA ?_|refine gB ?_|refine gC ?_)
     refine aK.bB (fun q2=>?_) (fun q2=>?_)
     rotate_left
     ·repeat (first|refine gA ?_|refine gB ?_|refine gC ?_)
      exact fin _ _ (by rw[hV5 k5,decide_eq_false (show ¬name=aP from q2),Bool.false_and,Bool.and_false]) hE2
     repeat (first|refine gA ?_|refine gB ?_|refine gC ?_)
     refine Load.here (hcn.one (k:=2) rfl) ?_
     repeat (first|refine gA ?_|refine gB ?_|refine gC ?_)
     refine aA.mk _ (rU value nS w2 hvalue (by decide)) ?_
     rintro v w4 ⟨hv,hw⟩
     have hw':=hw.symm
     subst hv hw'
     repeat (first|refine gA ?_|refine gB ?_|refine gC ?_)
     refine aK.yF (fun q3=>?_) (fun q3=>?_)
     rotate_left
     ·rw[q3]
      repeat (first|refine gA ?_|refine gB ?_|refine gC ?_)
      exact fin _ _ (by rw[hV5 k5,q3,Bool.not_true,Bool.false_and,Bool.and_false,Bool.and_false]) hE2
     rw[q3]
     repeat (first|refine gA ?_|refine gB ?_|refine gC ?_)
     refine Load.here (hcn.one (k:=2) rfl) ?_
     repeat (first|refine gA ?_|refine gB ?_|refine gC ?_)
     refine aK.bH (fun q4=>?_) (fun q4=>?_)
     rotate_left
     ·repeat (first|refine gA ?_|refine gB ?_|refine gC ?_)
      exact fin _ _ (by rw[hV5 k5,hin,q3,decide_eq_true (show name=aP from q2),decide_eq_true (show value=aP from q4)];rfl) hE2
     have hsz:¬value.size=0:=fun h=>q4 ((kD value).2 h)
     repeat (first|refine gA ?_|refine gB ?_|refine gC ?_)
     refine Load.here (hcn.one (k:=2) rfl) ?_
     repeat (first|refine gA ?_|refine gB ?_|refine gC ?_)
     refine Load.here (hcn.one (k:=2) rfl) ?_
     repeat (first|refine gA ?_|refine gB ?_|refine gC ?_)
     refine Ar.aM (value.size-1) (by omega) (by omega) ?_
     repeat (first|refine gA ?_|refine gB ?_|refine gC ?_)
     refine Need.mk (by omega) ?_
     repeat (first|refine gA ?_|refine gB ?_|refine gC ?_)
     rw[Int.toNat_natCast]
     exact fin _ _ (by rw[hV5 k5,hin,q3,decide_eq_true (show name=aP from q2),decide_eq_false (show ¬value=aP from q4)];rfl) hE2
    refine Cond.dec (fun k6=>?_) (fun k6=>?_)
    ·refine aK.bB (fun uu=>?_) (fun uu=>absurd u1 uu)
     repeat (first|refine gA ?_|refine gB ?_|refine gC ?_)
     refine Load.here (hcn.one (k:=1) rfl) ?_
     repeat (first|refine gA ?_|refine gB ?_|refine gC ?_)
     refine aA.mk _ (kH name w2 hname) ?_
     rintro v w4 ⟨hv,hw⟩
     have hw':=hw.symm
     subst hv hw'
     repeat (first|refine gA ?_|refine gB ?_|refine gC ?_)
     refine aK.mk (fun q2=>?_) (fun q2=>?_)
     rotate_left
     ·rw[q2]
      repeat (first|refine gA ?_|refine gB ?_|refine gC ?_)
      exact fin _ _ (by rw[hV6 k6,q2,Bool.not_true,Bool.false_and,Bool.and_false]) hE2
     rw[q2]
     repeat (first|refine gA ?_|refine gB ?_|refine gC ?_)
     refine Load.here (hcn.one (k:=1) rfl) ?_
     repeat (first|refine gA ?_|refine gB ?_|refine gC ?_)
     refine aA.mk _ (rXml_con name w2) ?_
     rintro v w4 ⟨hv,hw⟩
     have hw':=hw.symm
     subst hv hw'
     repeat (first|refine gA ?_|refine gB ?_|refine gC ?_)
     refine aK.yF (fun q3=>?_) (fun q3=>?_)
     rotate_left
     ·rw[q3]
      repeat (first|refine gA ?_|refine gB ?_|refine gC ?_)
      exact fin _ _ (by rw[hV6 k6,q3,Bool.not_true,Bool.false_and,Bool.and_false,Bool.and_false]) hE2
     rw[q3]
     repeat (first|refine gA ?_|refine gB ?_|refine gC ?_)
     refine Load.here (hcn.one (k:=2) rfl) ?_
     repeat (first|refine gA ?_|refine gB ?_|refine gC ?_)
     refine aA.mk _ (rU value endT w2 hvalue (by decide)) ?_
     rintro v w4 ⟨hv,hw⟩
     have hw':=hw.symm
     subst hv hw'
     repeat (first|refine gA ?_|refine gB ?_|refine gC ?_)
     refine aK.yF (fun q4=>?_) (fun q4=>?_)
     rotate_left
     ·rw[q4]
      repeat (first|refine gA ?_|refine gB ?_|refine gC ?_)
      exact fin _ _ (by rw[hV6 k6,q4,Bool.not_true,Bool.false_and,Bool.and_false,Bool.and_false,Bool.and_false]) hE2
     rw[q4]
     repeat (first|refine gA ?_|refine gB ?_|refine gC ?_)
     refine Load.here (hcn.one (k:=2) rfl) ?_
     repeat (first|refine gA ?_|refine gB ?_|refine gC ?_)
     refine aK.bH (fun q5=>?_) (fun q5=>?_)
     rotate_left
     ·repeat (first|refine gA ?_|refine gB ?_|refine gC ?_)
      exact fin _ _ (by rw[hV6 k6,hin,q2,q3,q4,decide_eq_true (show value=aP from q5)];rfl) hE2
     have hsz:¬value.size=0:=fun h=>q5 ((kD value).2 h)
     repeat (first|refine gA ?_|refine gB ?_|refine gC ?_)
     refine Load.here (hcn.one (k:=2) rfl) ?_
     repeat (first|refine gA ?_|refine gB ?_|refine gC ?_)
     refine Need.mk ⟨by omega,by omega,by omega⟩ ?_
     repeat (first|refine gA ?_|refine gB ?_|refine gC ?_)
     refine aA.mk _ (xD (value.extract 0 1) w2 (by rw[ByteArray.size_extract];omega)) ?_
     rintro v w4 ⟨hv,hw⟩
     have hw':=hw.symm
     subst hv hw'
     repeat (first|refine gA ?_|refine gB ?_|refine gC ?_)
     exact fin _ _ (by rw[hV6 k6,hin,q2,q3,q4,decide_eq_false (show ¬value=aP from q5)];rfl) hE2
    exact fin _ _ (by rw[hV7 k1 k2 k3 k4 k5 k6]) hE2
   ·have hin:iI up=false:=decide_eq_false (by omega)
    repeat (first|refine gA ?_|refine gB ?_|refine gC ?_)
    refine Load.here (hcn.one (k:=0) rfl) ?_
    refine Cond.dec (fun k1=>?_) (fun k1=>?_)
    ·refine aK.bB (fun q1=>?_) (fun q1=>?_)
     ·repeat (first|refine gA ?_|refine gB ?_|refine gC ?_)
      refine Load.here (hcn.one (k:=1) rfl) ?_
      repeat (first|refine gA ?_|refine gB ?_|refine gC ?_)
      refine aK.bB (fun q2=>?_) (fun q2=>?_)
      ·repeat (first|refine gA ?_|refine gB ?_|refine gC ?_)
       refine Load.here (hcn.one (k:=2) rfl) ?_
       repeat (first|refine gA ?_|refine gB ?_|refine gC ?_)
       have q1':i=0:=by omega
       exact fin _ _ (by rw[hV1 k1,decide_eq_true q1',decide_eq_true (show name=aP from q2)];rfl) hE2
      ·repeat (first|refine gA ?_|refine gB ?_|refine gC ?_)
       exact fin _ _ (by rw[hV1 k1,decide_eq_false (show ¬name=aP from q2),Bool.false_and,Bool.and_false]) hE2
     ·repeat (first|refine gA ?_|refine gB ?_|refine gC ?_)
      have q1':¬i=0:=by omega
      exact fin _ _ (by rw[hV1 k1,decide_eq_false q1',Bool.false_and]) hE2
    refine Cond.dec (fun k2=>?_) (fun k2=>?_)
    ·refine aK.bB (fun uu=>absurd uu u1) (fun uu=>?_)
     repeat (first|refine gA ?_|refine gB ?_|refine gC ?_)
     exact fin _ _ (by rw[hV2 k2,hin,Bool.false_and]) hE2
    refine Cond.dec (fun k3=>?_) (fun k3=>?_)
    ·refine aA.mk _ (l6 _ t i w2 ht2 hi hp) ?_
     rintro v w4 ⟨rfl,hE4⟩
     exact fin _ _ (hV3 k3) (hE2.trans hE4)
    refine Cond.dec (fun k4=>?_) (fun k4=>?_)
    ·refine aA.mk _ (oC _ t i w2 ht2 hi hp.1) ?_
     rintro v w4 ⟨rfl,hE4⟩
     have hE04:=hE2.trans hE4
     have hc4:=hcn.ext hE4
     have tail:up=0∨up=2→∀b,(b=(decide (name=aP)&&(!decide (value=aP)&&(decide (kU t i i<0)||!decide ((nd t (kU t i i)).kind=4)))))→jK t i=b:=fun h b hb=>by
      rw[hV4 k4,decide_eq_true h,hb,Bool.true_and]
     refine aK.bH (fun u=>?_) (fun u=>absurd u (by omega))
     repeat (first|refine gA ?_|refine gB ?_|refine gC ?_)
     refine aK.bB (fun u2=>absurd u2 (by omega)) (fun u2=>?_)
     repeat (first|refine gA ?_|refine gB ?_|refine gC ?_)
     exact fin _ _ (by rw[hV4 k4,decide_eq_false (by omega),Bool.false_and]) hE04
    refine Cond.dec (fun k5=>?_) (fun k5=>?_)
    ·refine aK.bB (fun uu=>absurd uu u1) (fun uu=>?_)
     repeat (first|refine gA ?_|refine gB ?_|refine gC ?_)
     exact fin _ _ (by rw[hV5 k5,hin,Bool.false_and]) hE2
    refine Cond.dec (fun k6=>?_) (fun k6=>?_)
    ·refine aK.bB (fun uu=>absurd uu u1) (fun uu=>?_)
     repeat (first|refine gA ?_|refine gB ?_|refine gC ?_)
     exact fin _ _ (by rw[hV6 k6,hin,Bool.false_and]) hE2
    exact fin _ _ (by rw[hV7 k1 k2 k3 k4 k5 k6]) hE2
  ·have hin:iI up=true:=decide_eq_true (.inr (.inl hu2))
   repeat (first|refine gA ?_|refine gB ?_|refine gC ?_)
   refine Load.here (hcn.one (k:=0) rfl) ?_
   refine Cond.dec (fun k1=>?_) (fun k1=>?_)
   ·refine aK.bB (fun q1=>?_) (fun q1=>?_)
    ·repeat (first|refine gA ?_|refine gB ?_|refine gC ?_)
     refine Load.here (hcn.one (k:=1) rfl) ?_
     repeat (first|refine gA ?_|refine gB ?_|refine gC ?_)
     refine aK.bB (fun q2=>?_) (fun q2=>?_)
     ·repeat (first|refine gA ?_|refine gB ?_|refine gC ?_)
      refine Load.here (hcn.one (k:=2) rfl) ?_
      repeat (first|refine gA ?_|refine gB ?_|refine gC ?_)
      have q1':i=0:=by omega
      exact fin _ _ (by rw[hV1 k1,decide_eq_true q1',decide_eq_true (show name=aP from q2)];rfl) hE2
     ·repeat (first|refine gA ?_|refine gB ?_|refine gC ?_)
      exact fin _ _ (by rw[hV1 k1,decide_eq_false (show ¬name=aP from q2),Bool.false_and,Bool.and_false]) hE2
    ·repeat (first|refine gA ?_|refine gB ?_|refine gC ?_)
     have q1':¬i=0:=by omega
     exact fin _ _ (by rw[hV1 k1,decide_eq_false q1',Bool.false_and]) hE2
   refine Cond.dec (fun k2=>?_) (fun k2=>?_)
   ·repeat (first|refine gA ?_|refine gB ?_|refine gC ?_)
    refine Load.here (hcn.one (k:=1) rfl) ?_
    repeat (first|refine gA ?_|refine gB ?_|refine gC ?_)
    refine aA.mk _ (kH name w2 hname) ?_
    rintro v w4 ⟨hv,hw⟩
    have hw':=hw.symm
    subst hv hw'
    repeat (first|refine gA ?_|refine gB ?_|refine gC ?_)
    refine aK.mk (fun q2=>?_) (fun q2=>?_)
    ·rw[q2]
     repeat (first|refine gA ?_|refine gB ?_|refine gC ?_)
     refine Load.here (hcn.one (k:=2) rfl) ?_
     repeat (first|refine gA ?_|refine gB ?_|refine gC ?_)
     exact fin _ _ (by rw[hV2 k2,hin,q2];rfl) hE2
    ·rw[q2]
     repeat (first|refine gA ?_|refine gB ?_|refine gC ?_)
     exact fin _ _ (by rw[hV2 k2,q2,Bool.not_true,Bool.false_and,Bool.and_false]) hE2
   refine Cond.dec (fun k3=>?_) (fun k3=>?_)
   ·refine aA.mk _ (l6 _ t i w2 ht2 hi hp) ?_
    rintro v w4 ⟨rfl,hE4⟩
    exact fin _ _ (hV3 k3) (hE2.trans hE4)
   refine Cond.dec (fun k4=>?_) (fun k4=>?_)
   ·refine aA.mk _ (oC _ t i w2 ht2 hi hp.1) ?_
    rintro v w4 ⟨rfl,hE4⟩
    have hE04:=hE2.trans hE4
    have hc4:=hcn.ext hE4
    have tail:up=0∨up=2→∀b,(b=(decide (name=aP)&&(!decide (value=aP)&&(decide (kU t i i<0)||!decide ((nd t (kU t i i)).kind=4)))))→jK t i=b:=fun h b hb=>by
     rw[hV4 k4,decide_eq_true h,hb,Bool.true_and]
    refine aK.bH (fun u=>?_) (fun u=>absurd u (by omega))
    repeat (first|refine gA ?_|refine gB ?_|refine gC ?_)
    refine aK.bB (fun u2=>?_) (fun u2=>absurd hu2 u2)
    repeat (first|refine gA ?_|refine gB ?_|refine gC ?_)
    refine Load.here (hc4.one (k:=1) rfl) ?_
    repeat (first|refine gA ?_|refine gB ?_|refine gC ?_)
    refine aK.bB (fun q2=>?_) (fun q2=>?_)
    rotate_left
    ·repeat (first|refine gA ?_|refine gB ?_|refine gC ?_)
     exact fin _ _ (tail (.inr hu2) _ (by rw[decide_eq_false (show ¬name=aP from q2),Bool.false_and])) hE04
    repeat (first|refine gA ?_|refine gB ?_|refine gC ?_)
    refine Load.here (hc4.one (k:=2) rfl) ?_
    repeat (first|refine gA ?_|refine gB ?_|refine gC ?_)
    refine aK.bU (fun q3=>?_) (fun q3=>?_)
    rotate_left
    ·repeat (first|refine gA ?_|refine gB ?_|refine gC ?_)
     exact fin _ _ (tail (.inr hu2) _ (by rw[decide_eq_true (show value=aP from q3),Bool.not_true,Bool.false_and,Bool.and_false])) hE04
    repeat (first|refine gA ?_|refine gB ?_|refine gC ?_)
    refine aK.bH (fun q4=>?_) (fun q4=>?_)
    rotate_left
    ·repeat (first|refine gA ?_|refine gB ?_|refine gC ?_)
     exact fin _ _ (tail (.inr hu2) _ (by rw[decide_eq_true (show name=aP from q2),decide_eq_false (show ¬value=aP from q3),decide_eq_true q4];rfl)) hE04
    repeat (first|refine gA ?_|refine gB ?_|refine gC ?_)
    have hsl:(kU t i i).toNat<t.length:=by omega
    obtain⟨as_,has,hcs⟩:=h4 w4 hE04 _ hsl
    cases has
    rw[←sN hsl]at hcs
    refine Idx.mk ai rfl (by omega) (by omega) ?_
    repeat (first|refine gA ?_|refine gB ?_|refine gC ?_)
    refine Load.here (hcs.one (k:=0) rfl) ?_
    repeat (first|refine gA ?_|refine gB ?_|refine gC ?_)
    exact fin _ _ (tail (.inr hu2) _ (by rw[decide_eq_true (show name=aP from q2),decide_eq_false (show ¬value=aP from q3),decide_eq_false q4];rfl)) hE04
   refine Cond.dec (fun k5=>?_) (fun k5=>?_)
   ·repeat (first|refine gA ?_|refine gB ?_|refine gC ?_)
    refine Load.here (hcn.one (k:=1) rfl) ?_
    repeat (first|refine gA ?_|refine gB ?_|refine gC ?_)
    refine aK.bB (fun q2=>?_) (fun q2=>?_)
    rotate_left
    ·repeat (first|refine gA ?_|refine gB ?_|refine gC ?_)
     exact fin _ _ (by rw[hV5 k5,decide_eq_false (show ¬name=aP from q2),Bool.false_and,Bool.and_false]) hE2
    repeat (first|refine gA ?_|refine gB ?_|refine gC ?_)
    refine Load.here (hcn.one (k:=2) rfl) ?_
    repeat (first|refine gA ?_|refine gB ?_|refine gC ?_)
    refine aA.mk _ (rU value nS w2 hvalue (by decide)) ?_
    rintro v w4 ⟨hv,hw⟩
    have hw':=hw.symm
    subst hv hw'
    repeat (first|refine gA ?_|refine gB ?_|refine gC ?_)
    refine aK.yF (fun q3=>?_) (fun q3=>?_)
    rotate_left
    ·rw[q3]
     repeat (first|refine gA ?_|refine gB ?_|refine gC ?_)
     exact fin _ _ (by rw[hV5 k5,q3,Bool.not_true,Bool.false_and,Bool.and_false,Bool.and_false]) hE2
    rw[q3]
    repeat (first|refine gA ?_|refine gB ?_|refine gC ?_)
    refine Load.here (hcn.one (k:=2) rfl) ?_
    repeat (first|refine gA ?_|refine gB ?_|refine gC ?_)
    refine aK.bH (fun q4=>?_) (fun q4=>?_)
    rotate_left
    ·repeat (first|refine gA ?_|refine gB ?_|refine gC ?_)
     exact fin _ _ (by rw[hV5 k5,hin,q3,decide_eq_true (show name=aP from q2),decide_eq_true (show value=aP from q4)];rfl) hE2
    have hsz:¬value.size=0:=fun h=>q4 ((kD value).2 h)
    repeat (first|refine gA ?_|refine gB ?_|refine gC ?_)
    refine Load.here (hcn.one (k:=2) rfl) ?_
    repeat (first|refine gA ?_|refine gB ?_|refine gC ?_)
    refine Load.here (hcn.one (k:=2) rfl) ?_
    repeat (first|refine gA ?_|refine gB ?_|refine gC ?_)
    refine Ar.aM (value.size-1) (by omega) (by omega) ?_
    repeat (first|refine gA ?_|refine gB ?_|refine gC ?_)
    refine Need.mk (by omega) ?_
    repeat (first|refine gA ?_|refine gB ?_|refine gC ?_)
    rw[Int.toNat_natCast]
    exact fin _ _ (by rw[hV5 k5,hin,q3,decide_eq_true (show name=aP from q2),decide_eq_false (show ¬value=aP from q4)];rfl) hE2
   refine Cond.dec (fun k6=>?_) (fun k6=>?_)
   ·repeat (first|refine gA ?_|refine gB ?_|refine gC ?_)
    refine Load.here (hcn.one (k:=1) rfl) ?_
    repeat (first|refine gA ?_|refine gB ?_|refine gC ?_)
    refine aA.mk _ (kH name w2 hname) ?_
    rintro v w4 ⟨hv,hw⟩
    have hw':=hw.symm
    subst hv hw'
    repeat (first|refine gA ?_|refine gB ?_|refine gC ?_)
    refine aK.mk (fun q2=>?_) (fun q2=>?_)
    rotate_left
    ·rw[q2]
     repeat (first|refine gA ?_|refine gB ?_|refine gC ?_)
     exact fin _ _ (by rw[hV6 k6,q2,Bool.not_true,Bool.false_and,Bool.and_false]) hE2
    rw[q2]
    repeat (first|refine gA ?_|refine gB ?_|refine gC ?_)
    refine Load.here (hcn.one (k:=1) rfl) ?_
    repeat (first|refine gA ?_|refine gB ?_|refine gC ?_)
    refine aA.mk _ (rXml_con name w2) ?_
    rintro v w4 ⟨hv,hw⟩
    have hw':=hw.symm
    subst hv hw'
    repeat (first|refine gA ?_|refine gB ?_|refine gC ?_)
    refine aK.yF (fun q3=>?_) (fun q3=>?_)
    rotate_left
    ·rw[q3]
     repeat (first|refine gA ?_|refine gB ?_|refine gC ?_)
     exact fin _ _ (by rw[hV6 k6,q3,Bool.not_true,Bool.false_and,Bool.and_false,Bool.and_false]) hE2
    rw[q3]
    repeat (first|refine gA ?_|refine gB ?_|refine gC ?_)
    refine Load.here (hcn.one (k:=2) rfl) ?_
    repeat (first|refine gA ?_|refine gB ?_|refine gC ?_)
    refine aA.mk _ (rU value endT w2 hvalue (by decide)) ?_
    rintro v w4 ⟨hv,hw⟩
    have hw':=hw.symm
    subst hv hw'
    repeat (first|refine gA ?_|refine gB ?_|refine gC ?_)
    refine aK.yF (fun q4=>?_) (fun q4=>?_)
    rotate_left
    ·rw[q4]
     repeat (first|refine gA ?_|refine gB ?_|refine gC ?_)
     exact fin _ _ (by rw[hV6 k6,q4,Bool.not_true,Bool.false_and,Bool.and_false,Bool.and_false,Bool.and_false]) hE2
    rw[q4]
    repeat (first|refine gA ?_|refine gB ?_|refine gC ?_)
    refine Load.here (hcn.one (k:=2) rfl) ?_
    repeat (first|refine gA ?_|refine gB ?_|refine gC ?_)
    refine aK.bH (fun q5=>?_) (fun q5=>?_)
    rotate_left
    ·repeat (first|refine gA ?_|refine gB ?_|refine gC ?_)
     exact fin _ _ (by rw[hV6 k6,hin,q2,q3,q4,decide_eq_true (show value=aP from q5)];rfl) hE2
    have hsz:¬value.size=0:=fun h=>q5 ((kD value).2 h)
    repeat (first|refine gA ?_|refine gB ?_|refine gC ?_)
    refine Load.here (hcn.one (k:=2) rfl) ?_
    repeat (first|refine gA ?_|refine gB ?_|refine gC ?_)
    refine Need.mk ⟨by omega,by omega,by omega⟩ ?_
    repeat (first|refine gA ?_|refine gB ?_|refine gC ?_)
    refine aA.mk _ (xD (value.extract 0 1) w2 (by rw[ByteArray.size_extract];omega)) ?_
    rintro v w4 ⟨hv,hw⟩
    have hw':=hw.symm
    subst hv hw'
    repeat (first|refine gA ?_|refine gB ?_|refine gC ?_)
    exact fin _ _ (by rw[hV6 k6,hin,q2,q3,q4,decide_eq_false (show ¬value=aP from q5)];rfl) hE2
   exact fin _ _ (by rw[hV7 k1 k2 k3 k4 k5 k6]) hE2
 ·have hin:iI up=true:=decide_eq_true (.inl hu0)
  repeat (first|refine gA ?_|refine gB ?_|refine gC ?_)
  refine Load.here (hcn.one (k:=0) rfl) ?_
  refine Cond.dec (fun k1=>?_) (fun k1=>?_)
  ·refine aK.bB (fun q1=>?_) (fun q1=>?_)
   ·repeat (first|refine gA ?_|refine gB ?_|refine gC ?_)
    refine Load.here (hcn.one (k:=1) rfl) ?_
    repeat (first|refine gA ?_|refine gB ?_|refine gC ?_)
    refine aK.bB (fun q2=>?_) (fun q2=>?_)
    ·repeat (first|refine gA ?_|refine gB ?_|refine gC ?_)
     refine Load.here (hcn.one (k:=2) rfl) ?_
     repeat (first|refine gA ?_|refine gB ?_|refine gC ?_)
     have q1':i=0:=by omega
     exact fin _ _ (by rw[hV1 k1,decide_eq_true q1',decide_eq_true (show name=aP from q2)];rfl) hE2
    ·repeat (first|refine gA ?_|refine gB ?_|refine gC ?_)
     exact fin _ _ (by rw[hV1 k1,decide_eq_false (show ¬name=aP from q2),Bool.false_and,Bool.and_false]) hE2
   ·repeat (first|refine gA ?_|refine gB ?_|refine gC ?_)
    have q1':¬i=0:=by omega
    exact fin _ _ (by rw[hV1 k1,decide_eq_false q1',Bool.false_and]) hE2
  refine Cond.dec (fun k2=>?_) (fun k2=>?_)
  ·repeat (first|refine gA ?_|refine gB ?_|refine gC ?_)
   refine Load.here (hcn.one (k:=1) rfl) ?_
   repeat (first|refine gA ?_|refine gB ?_|refine gC ?_)
   refine aA.mk _ (kH name w2 hname) ?_
   rintro v w4 ⟨hv,hw⟩
   have hw':=hw.symm
   subst hv hw'
   repeat (first|refine gA ?_|refine gB ?_|refine gC ?_)
   refine aK.mk (fun q2=>?_) (fun q2=>?_)
   ·rw[q2]
    repeat (first|refine gA ?_|refine gB ?_|refine gC ?_)
    refine Load.here (hcn.one (k:=2) rfl) ?_
    repeat (first|refine gA ?_|refine gB ?_|refine gC ?_)
    exact fin _ _ (by rw[hV2 k2,hin,q2];rfl) hE2
   ·rw[q2]
    repeat (first|refine gA ?_|refine gB ?_|refine gC ?_)
    exact fin _ _ (by rw[hV2 k2,q2,Bool.not_true,Bool.false_and,Bool.and_false]) hE2
  refine Cond.dec (fun k3=>?_) (fun k3=>?_)
  ·refine aA.mk _ (l6 _ t i w2 ht2 hi hp) ?_
   rintro v w4 ⟨rfl,hE4⟩
   exact fin _ _ (hV3 k3) (hE2.trans hE4)
  refine Cond.dec (fun k4=>?_) (fun k4=>?_)
  ·refine aA.mk _ (oC _ t i w2 ht2 hi hp.1) ?_
   rintro v w4 ⟨rfl,hE4⟩
   have hE04:=hE2.trans hE4
   have hc4:=hcn.ext hE4
   have tail:up=0∨up=2→∀b,(b=(decide (name=aP)&&(!decide (value=aP)&&(decide (kU t i i<0)||!decide ((nd t (kU t i i)).kind=4)))))→jK t i=b:=fun h b hb=>by
    rw[hV4 k4,decide_eq_true h,hb,Bool.true_and]
   refine aK.bH (fun u=>absurd hu0 u) (fun u=>?_)
   repeat (first|refine gA ?_|refine gB ?_|refine gC ?_)
   refine Load.here (hc4.one (k:=1) rfl) ?_
   repeat (first|refine gA ?_|refine gB ?_|refine gC ?_)
   refine aK.bB (fun q2=>?_) (fun q2=>?_)
   rotate_left
   ·repeat (first|refine gA ?_|refine gB ?_|refine gC ?_)
    exact fin _ _ (tail (.inl hu0) _ (by rw[decide_eq_false (show ¬name=aP from q2),Bool.false_and])) hE04
   repeat (first|refine gA ?_|refine gB ?_|refine gC ?_)
   refine Load.here (hc4.one (k:=2) rfl) ?_
   repeat (first|refine gA ?_|refine gB ?_|refine gC ?_)
   refine aK.bU (fun q3=>?_) (fun q3=>?_)
   rotate_left
   ·repeat (first|refine gA ?_|refine gB ?_|refine gC ?_)
    exact fin _ _ (tail (.inl hu0) _ (by rw[decide_eq_true (show value=aP from q3),Bool.not_true,Bool.false_and,Bool.and_false])) hE04
   repeat (first|refine gA ?_|refine gB ?_|refine gC ?_)
   refine aK.bH (fun q4=>?_) (fun q4=>?_)
   rotate_left
   ·repeat (first|refine gA ?_|refine gB ?_|refine gC ?_)
    exact fin _ _ (tail (.inl hu0) _ (by rw[decide_eq_true (show name=aP from q2),decide_eq_false (show ¬value=aP from q3),decide_eq_true q4];rfl)) hE04
   repeat (first|refine gA ?_|refine gB ?_|refine gC ?_)
   have hsl:(kU t i i).toNat<t.length:=by omega
   obtain⟨as_,has,hcs⟩:=h4 w4 hE04 _ hsl
   cases has
   rw[←sN hsl]at hcs
   refine Idx.mk ai rfl (by omega) (by omega) ?_
   repeat (first|refine gA ?_|refine gB ?_|refine gC ?_)
   refine Load.here (hcs.one (k:=0) rfl) ?_
   repeat (first|refine gA ?_|refine gB ?_|refine gC ?_)
   exact fin _ _ (tail (.inl hu0) _ (by rw[decide_eq_true (show name=aP from q2),decide_eq_false (show ¬value=aP from q3),decide_eq_false q4];rfl)) hE04
  refine Cond.dec (fun k5=>?_) (fun k5=>?_)
  ·repeat (first|refine gA ?_|refine gB ?_|refine gC ?_)
   refine Load.here (hcn.one (k:=1) rfl) ?_
   repeat (first|refine gA ?_|refine gB ?_|refine gC ?_)
   refine aK.bB (fun q2=>?_) (fun q2=>?_)
   rotate_left
   ·repeat (first|refine gA ?_|refine gB ?_|refine gC ?_)
    exact fin _ _ (by rw[hV5 k5,decide_eq_false (show ¬name=aP from q2),Bool.false_and,Bool.and_false]) hE2
   repeat (first|refine gA ?_|refine gB ?_|refine gC ?_)
   refine Load.here (hcn.one (k:=2) rfl) ?_
   repeat (first|refine gA ?_|refine gB ?_|refine gC ?_)
   refine aA.mk _ (rU value nS w2 hvalue (by decide)) ?_
   rintro v w4 ⟨hv,hw⟩
   have hw':=hw.symm
   subst hv hw'
   repeat (first|refine gA ?_|refine gB ?_|refine gC ?_)
   refine aK.yF (fun q3=>?_) (fun q3=>?_)
   rotate_left
   ·rw[q3]
    repeat (first|refine gA ?_|refine gB ?_|refine gC ?_)
    exact fin _ _ (by rw[hV5 k5,q3,Bool.not_true,Bool.false_and,Bool.and_false,Bool.and_false]) hE2
   rw[q3]
   repeat (first|refine gA ?_|refine gB ?_|refine gC ?_)
   refine Load.here (hcn.one (k:=2) rfl) ?_
   repeat (first|refine gA ?_|refine gB ?_|refine gC ?_)
   refine aK.bH (fun q4=>?_) (fun q4=>?_)
   rotate_left
   ·repeat (first|refine gA ?_|refine gB ?_|refine gC ?_)
    exact fin _ _ (by rw[hV5 k5,hin,q3,decide_eq_true (show name=aP from q2),decide_eq_true (show value=aP from q4)];rfl) hE2
   have hsz:¬value.size=0:=fun h=>q4 ((kD value).2 h)
   repeat (first|refine gA ?_|refine gB ?_|refine gC ?_)
   refine Load.here (hcn.one (k:=2) rfl) ?_
   repeat (first|refine gA ?_|refine gB ?_|refine gC ?_)
   refine Load.here (hcn.one (k:=2) rfl) ?_
   repeat (first|refine gA ?_|refine gB ?_|refine gC ?_)
   refine Ar.aM (value.size-1) (by omega) (by omega) ?_
   repeat (first|refine gA ?_|refine gB ?_|refine gC ?_)
   refine Need.mk (by omega) ?_
   repeat (first|refine gA ?_|refine gB ?_|refine gC ?_)
   rw[Int.toNat_natCast]
   exact fin _ _ (by rw[hV5 k5,hin,q3,decide_eq_true (show name=aP from q2),decide_eq_false (show ¬value=aP from q4)];rfl) hE2
  refine Cond.dec (fun k6=>?_) (fun k6=>?_)
  ·repeat (first|refine gA ?_|refine gB ?_|refine gC ?_)
   refine Load.here (hcn.one (k:=1) rfl) ?_
   repeat (first|refine gA ?_|refine gB ?_|refine gC ?_)
   refine aA.mk _ (kH name w2 hname) ?_
   rintro v w4 ⟨hv,hw⟩
   have hw':=hw.symm
   subst hv hw'
   repeat (first|refine gA ?_|refine gB ?_|refine gC ?_)
   refine aK.mk (fun q2=>?_) (fun q2=>?_)
   rotate_left
   ·rw[q2]
    repeat (first|refine gA ?_|refine gB ?_|refine gC ?_)
    exact fin _ _ (by rw[hV6 k6,q2,Bool.not_true,Bool.false_and,Bool.and_false]) hE2
   rw[q2]
   repeat (first|refine gA ?_|refine gB ?_|refine gC ?_)
   refine Load.here (hcn.one (k:=1) rfl) ?_
   repeat (first|refine gA ?_|refine gB ?_|refine gC ?_)
   refine aA.mk _ (rXml_con name w2) ?_
   rintro v w4 ⟨hv,hw⟩
   have hw':=hw.symm
   subst hv hw'
   repeat (first|refine gA ?_|refine gB ?_|refine gC ?_)
   refine aK.yF (fun q3=>?_) (fun q3=>?_)
   rotate_left
   ·rw[q3]
    repeat (first|refine gA ?_|refine gB ?_|refine gC ?_)
    exact fin _ _ (by rw[hV6 k6,q3,Bool.not_true,Bool.false_and,Bool.and_false,Bool.and_false]) hE2
   rw[q3]
   repeat (first|refine gA ?_|refine gB ?_|refine gC ?_)
   refine Load.here (hcn.one (k:=2) rfl) ?_
   repeat (first|refine gA ?_|refine gB ?_|refine gC ?_)
   refine aA.mk _ (rU value endT w2 hvalue (by decide)) ?_
   rintro v w4 ⟨hv,hw⟩
   have hw':=hw.symm
   subst hv hw'
   repeat (first|refine gA ?_|refine gB ?_|refine gC ?_)
   refine aK.yF (fun q4=>?_) (fun q4=>?_)
   rotate_left
   ·rw[q4]
    repeat (first|refine gA ?_|refine gB ?_|refine gC ?_)
    exact fin _ _ (by rw[hV6 k6,q4,Bool.not_true,Bool.false_and,Bool.and_false,Bool.and_false,Bool.and_false]) hE2
   rw[q4]
   repeat (first|refine gA ?_|refine gB ?_|refine gC ?_)
   refine Load.here (hcn.one (k:=2) rfl) ?_
   repeat (first|refine gA ?_|refine gB ?_|refine gC ?_)
   refine aK.bH (fun q5=>?_) (fun q5=>?_)
   rotate_left
   ·repeat (first|refine gA ?_|refine gB ?_|refine gC ?_)
    exact fin _ _ (by rw[hV6 k6,hin,q2,q3,q4,decide_eq_true (show value=aP from q5)];rfl) hE2
   have hsz:¬value.size=0:=fun h=>q5 ((kD value).2 h)
   repeat (first|refine gA ?_|refine gB ?_|refine gC ?_)
   refine Load.here (hcn.one (k:=2) rfl) ?_
   repeat (first|refine gA ?_|refine gB ?_|refine gC ?_)
   refine Need.mk ⟨by omega,by omega,by omega⟩ ?_
   repeat (first|refine gA ?_|refine gB ?_|refine gC ?_)
   refine aA.mk _ (xD (value.extract 0 1) w2 (by rw[ByteArray.size_extract];omega)) ?_
   rintro v w4 ⟨hv,hw⟩
   have hw':=hw.symm
   subst hv hw'
   repeat (first|refine gA ?_|refine gB ?_|refine gC ?_)
   exact fin _ _ (by rw[hV6 k6,hin,q2,q3,q4,decide_eq_false (show ¬value=aP from q5)];rfl) hE2
  exact fin _ _ (by rw[hV7 k1 k2 k3 k4 k5 k6]) hE2
end Go.Proofs.YtelffdgcikceaaaGreatDoor
end
section
namespace Go.Proofs.YtelffdgcikceaaaGreatDoor
open Go.V
def sameC(x y:Pt):Bool:=decide (x.kind=y.kind)&&decide (x.target=y.target)
def clsF(o:List Pt)(p:Pt):List Pt:=o.filter (fun q=>sameC q p)
def ordStep(l o:List Pt)(p:Pt):List Pt:=if o.any (fun q=>sameC q p)then o else o++clsF l p
def pt0:Pt:=⟨0,0,⟨#[]⟩,[]⟩
def firstO(l:List Pt)(s k:Nat):Pt:=l.getD ((k+s) % l.length) pt0
def ordK(l:List Pt)(s:Nat):Nat→List Pt
 | 0=>[]
 | k+1=>ordStep l (ordK l s k) (firstO l s k)
theorem sameC_iff{x y:Pt}:sameC x y=true↔x.kind=y.kind∧x.target=y.target:=by simp[sameC]
theorem xE(x:Pt):sameC x x=true:=sameC_iff.2 ⟨rfl,rfl⟩
structure nL(l o:List Pt):Prop where
 cls:∀p,clsF o p=clsF l p
section
variable {l o:List Pt}
theorem nL.mem(h:nL l o){p:Pt}:p∈o↔p∈l:=by
 have e:=h.cls p
 constructor
 ·intro hp
  have:p∈clsF o p:=List.mem_filter.2 ⟨hp,xE p⟩
  rw[e]at this
  exact(List.mem_filter.1 this).1
 ·intro hp
  have:p∈clsF l p:=List.mem_filter.2 ⟨hp,xE p⟩
  rw[←e]at this
  exact(List.mem_filter.1 this).1
theorem nL.perm(h:nL l o):o.Perm l:=by
 rw[List.perm_iff_count]
 intro a
 have key:∀x:List Pt,x.count a=(clsF x a).count a:=fun x=>by
  unfold clsF
  exact(List.count_filter (p:=fun q=>sameC q a) (xE a)).symm
 rw[key o,key l,h.cls a]
theorem nL.len(h:nL l o):o.length=l.length:=h.perm.length_eq
theorem kp_inj{x y:Pt}(hx:-9223372036854775808≤x.target∧x.target≤9223372036854775807)(hy:-9223372036854775808≤y.target∧y.target≤9223372036854775807):kp x=kp y↔sameC x y=true:=by
 rw[sameC_iff]
 unfold kp
 constructor
 ·intro h
  have:x.kind=y.kind:=by omega
  exact⟨this,by omega⟩
 ·rintro⟨h1,h2⟩
  rw[h1,h2]
theorem nL.same(h:nL l o)(hw:∀p∈l,-9223372036854775808≤p.target∧p.target≤9223372036854775807):Same kp o l:=fun κ=>by
 by_cases g:∃x∈l,kp x=κ
 ·obtain⟨x,hx,rfl⟩:=g
  have key:∀z:List Pt,(∀p∈z,p∈l)→z.filter (fun y=>decide (kp y=kp x))=clsF z x:=fun z hz=>by
   refine List.filter_congr fun y hy=>?_
   rw[Bool.eq_iff_iff,decide_eq_true_eq]
   exact kp_inj (hw y (hz y hy)) (hw x hx)
  rw[key o (fun p hp=>h.mem.1 hp),key l (fun p hp=>hp),h.cls x]
 ·rw[List.filter_eq_nil_iff.2 (fun y hy=>by simpa using fun e=>g ⟨y,h.mem.1 hy,e⟩),List.filter_eq_nil_iff.2 (fun y hy=>by simpa using fun e=>g ⟨y,hy,e⟩)]
theorem nL.merge(h:nL l o)(hw:∀p∈l,-9223372036854775808≤p.target∧p.target≤9223372036854775807):dA o=dA l:=by
 unfold dA
 rw[isort_congr (h.same hw)]
 have:(o.all fun p=>aU p.nodes)=(l.all fun p=>aU p.nodes):=by
  rw[Bool.eq_iff_iff,List.all_eq_true,List.all_eq_true]
  exact⟨fun g p hp=>g p (h.mem.2 hp),fun g p hp=>g p (h.mem.1 hp)⟩
 rw[this]
theorem nV{t:List Nd}:∀{l:List Pt},bY t l=0↔∀p∈l,bZ t p=0
 | []=>by simp[bY]
 | p::r=>by
   unfold bY
   by_cases h:bZ t p=0
   ·rw[if_neg (by simpa using h),nV]
    simp[h]
   ·rw[if_pos h]
    constructor
    ·intro g;exact absurd g h
    ·intro g;exact absurd (g p List.mem_cons_self) h
theorem vB(x:Pt)(l:List Pt)(a b:Int):mE (x::l) a b=(if x.kind=a∧x.target=b then 1 else 0)+mE l a b:=by
 unfold mE
 rw[List.filter_cons]
 by_cases h:x.kind=a∧x.target=b
 ·rw[if_pos (by simpa using h),if_pos h,List.length_cons];omega
 ·rw[if_neg (by simpa using h),if_neg h];omega
theorem vM:∀(l s:List Pt),pG s l=true↔∀p∈l,(shapeOf p.kind).once=true→mE s p.kind p.target+mE l p.kind p.target≤1
 | [],s=>by simp[pG]
 | x::r,s=>by
   unfold pG
   rw[Bool.and_eq_true,vM r (s++[x])]
   constructor
   ·rintro⟨h1,h2⟩ p hp ho
    rcases List.mem_cons.1 hp with rfl|hp
    ·have e1:mE s p.kind p.target=0:=by
      rw[ho]at h1
      simpa using h1
     have e2:mE r p.kind p.target=0:=by
      refine Classical.byContradiction fun g=>?_
      have hne:(r.filter fun q=>decide (q.kind=p.kind∧q.target=p.target))≠[]:=fun e=>g (by unfold mE;rw[e];rfl)
      obtain⟨q,hq⟩:=List.exists_mem_of_ne_nil _ hne
      obtain⟨hq1,hq2⟩:=List.mem_filter.1 hq
      have hq3:=of_decide_eq_true hq2
      have:=h2 q hq1 (by rw[hq3.1];exact ho)
      rw[hq3.1,hq3.2,vC,if_pos ⟨rfl,rfl⟩]at this
      omega
     rw[vB,if_pos ⟨rfl,rfl⟩,e1,e2]
     decide
    ·have:=h2 p hp ho
     rw[vC]at this
     rw[vB]
     omega
   ·intro h
    refine⟨?_,fun p hp ho=>?_⟩
    ·cases ho:(shapeOf x.kind).once with
     | false=>simp
     | true=>
       have:=h x List.mem_cons_self ho
       rw[vB,if_pos ⟨rfl,rfl⟩]at this
       have e:mE s x.kind x.target=0:=by omega
       simp[e]
    ·have:=h p (List.mem_cons_of_mem _ hp) ho
     rw[vB]at this
     rw[vC]
     omega
theorem cntP_cls(l:List Pt)(p:Pt):mE l p.kind p.target=(clsF l p).length:=by
 unfold mE clsF
 congr 1
 refine List.filter_congr fun x _=>?_
 rw[Bool.eq_iff_iff,sameC_iff,decide_eq_true_eq]
theorem nL.once(h:nL l o):kY o=kY l:=by
 rw[Bool.eq_iff_iff]
 unfold kY
 rw[vM,vM]
 simp only[cntP_cls,h.cls]
 exact⟨fun g p hp=>g p (h.mem.2 hp),fun g p hp=>g p (h.mem.1 hp)⟩
theorem wW{t:List Nd}{l:List Pt}:dU t l=0↔eG t true=0∧l.length≤1000∧bY t l=0∧kY l=true:=by
 unfold dU
 split
 ·rename_i h
  exact⟨fun g=>absurd g (by decide),fun g=>absurd g.1 h⟩
 ·rename_i h1
  split
  ·rename_i h
   exact⟨fun g=>absurd g (by decide),fun g=>by omega⟩
  ·split
   ·rename_i h
    exact⟨fun g=>absurd g h,fun g=>absurd g.2.2.1 h⟩
   ·rename_i h2 h3
    split
    ·rename_i h
     exact⟨fun _=>⟨Decidable.not_not.1 h1,by omega,Decidable.not_not.1 h3,h⟩,fun _=>rfl⟩
    ·rename_i h
     exact⟨fun g=>absurd g (by decide),fun g=>absurd g.2.2.2 h⟩
theorem nL.check(h:nL l o)(t:List Nd):dU t o=0↔dU t l=0:=by
 rw[wW,wW,h.len,h.once,nV,nV]
 have:(∀p∈o,bZ t p=0)↔∀p∈l,bZ t p=0:=⟨fun g p hp=>g p (h.mem.2 hp),fun g p hp=>g p (h.mem.1 hp)⟩
 rw[this]
theorem nL.apply(h:nL l o)(hw:∀p∈l,-9223372036854775808≤p.target∧p.target≤9223372036854775807)(t:List Nd):(bX t l).2=(bX t o).2∧((bX t l).1=0↔(bX t o).1=0):=by
 by_cases g:dU t l=0
 ·have g':=(h.check t).2 g
  have:bX t o=bX t l:=by
   unfold bX
   rw[h.merge hw,g,g']
  rw[this]
  exact⟨rfl,Iff.rfl⟩
 ·have g':dU t o≠0:=fun e=>g ((h.check t).1 e)
  unfold bX
  rw[if_pos g,if_pos g']
  exact⟨rfl,⟨fun e=>absurd e g,fun e=>absurd e g'⟩⟩
end
theorem insK_lenP{α:Type}{key:α→Int}(x:α):∀l:List α,(uK key x l).length=l.length+1
 | []=>rfl
 | y::r=>by
   unfold uK
   split
   ·rfl
   ·simp only[List.length_cons,insK_lenP x r]
theorem xA{α:Type}{key:α→Int}:∀l:List α,(eH key l).length=l.length
 | []=>rfl
 | x::r=>by
   show(uK key x (eH key r)).length=_
   rw[insK_lenP,xA r,List.length_cons]
theorem rowOut_lenP(r:List Pt):(dP r).length≤r.length:=by
 unfold dP
 split
 ·exact Nat.le_refl _
 ·split
  ·exact Nat.le_refl _
  ·split<;>simp
theorem tN:∀rows:List (List Pt),((rows.map dP).flatten).length≤rows.flatten.length
 | []=>Nat.le_refl _
 | r::rs=>by
   have:=tN rs
   have:=rowOut_lenP r
   simp only[List.map_cons,List.flatten_cons,List.length_append]
   omega
theorem mergeP_len(l:List Pt):(dA l).length≤l.length:=by
 unfold dA
 split
 ·have:=tN (qF fI (eH kp l))
  unfold qF at this ⊢
  rw[qG _ _ (Nat.le_refl _)]at this
  exact Nat.le_trans this (Nat.le_of_eq (xA l))
 ·exact Nat.zero_le _
theorem d9.parts{w:World}{D:Nat}{vo:Value}{outs:List aR}{ps:List Pt}(h:d9 w D vo outs ps)(hl:ps.length≤2513169434916):PartsAt w vo ps:=
 ⟨⟨outs,h.vec.sl,h.len,fun i r p h1 h2=>by
   obtain⟨⟨a,b,c⟩,⟨d,e,f⟩,g,i1,i2,-⟩:=h.el i r p h1 h2
   exact⟨a,b,c,⟨g.sl,i1,i2⟩,d,e,f⟩⟩,hl⟩
theorem lK{t:List Nd}:∀(N:Nat),(List.range N).all (fB t)=true→∀j:Nat,j<N→-1≤(nd t (j:Int)).parent∧(nd t (j:Int)).parent<j
 | 0,_,j,h=>absurd h (Nat.not_lt_zero _)
 | N+1,h,j,hj=>by
   rw[List.range_succ,List.all_append,Bool.and_eq_true]at h
   have ih:=lK N h.1
   by_cases e:j=N
   ·subst e
    have ho:fB t j=true:=by simpa using h.2
    have ho':=of_decide_eq_true ho
    have:=chase_le (t:=t) (q:=(nd t (j:Int)).parent) (i:=j) (fun m hm=>⟨(ih m hm).2,(ih m hm).1⟩) j ((j:Int)-1) (by omega) (by omega)
    omega
   ·exact ih j (by omega)
def okR(t:List Nd)(root:Bool)(i:Nat):Bool:=jK t i&&(decide ((nd t (i:Int)).kind=1) == (root&&decide (i=0)))
def lQ(t:List Nd)(k:Nat):Nat:=(List.range k).countP fun i:Nat=>decide ((nd t (i:Int)).parent<0)
def eU(t:List Nd)(k:Nat):Nat:=(List.range k).countP fun i:Nat=>decide ((nd t (i:Int)).parent=0)&&decide ((nd t (i:Int)).kind=2)
def gF(t:List Nd)(k:Nat):Bool:=(List.range k).any fun i:Nat=>decide ((nd t (i:Int)).kind=2)&&decide (60<jR t (i+1) i)
def jF(t:List Nd)(root:Bool):Int:=
 if 16384<t.length then 3
 else if(List.range t.length).all (fB t)=false then 4
 else if(List.range t.length).all (okR t root)=false then 4
 else if root=true∧(lQ t t.length≠1∨eU t t.length≠1)then 4
 else if gF t t.length=true then 131 else 0
theorem qB(p:Nat→Bool)(k:Nat):(List.range (k+1)).countP p=(List.range k).countP p+if p k=true then 1 else 0:=by
 rw[List.range_succ,List.countP_append,List.countP_cons,List.countP_nil]
 split<;>simp
theorem tL(p:Nat→Bool)(k:Nat):(List.range k).countP p≤k:=by
 have:=List.countP_le_length (p:=p) (l:=List.range k)
 simpa using this
theorem run_neqBool(gx gy:Operand)(a b:Bool)(w:World):(do eqGuard .neq 4 gx gy (.bool a) (.bool b);binOp .neq 4 (.bool a) (.bool b)).run Tryz.prog w=.ok (.bool (!(a == b))) w:=by
 cases a<;>cases b<;>kernel_rfl
theorem rCheck_con(v:Value)(t:List Nd)(root:Bool)(w:World)(ht:aJ w v t) :
  bV Tryz.prog 143 #[v,.bool root] w (fun v' w'=>v'=.int .i64 (jF t root)∧Ext w w'):=by
 have ht0:=ht
 obtain⟨o,c,rfl,h1,h2,h3,h4⟩:=ht.open_
 have hl:=ht.len
 refine enter aB Tryz.func143 (aV rfl) rfl rfl rfl ?_
 refine Cond.dec (fun g1=>?_) (fun g1=>?_)
 ·refine And.intro ?_ (Ext.refl _)
  unfold jF
  rw[if_pos (by omega)]
  rfl
 refine aA.mk _ (yM _ t w ht0) ?_
 rintro v w1 ⟨hv,hw⟩
 have hw':=hw.symm
 subst hv hw'
 refine Cond.neg (fun g2=>?_) (fun g2=>?_)
 ·refine And.intro ?_ (Ext.refl _)
  unfold jF
  rw[if_neg (by omega),if_pos g2]
  rfl
 have hpar:=lK t.length g2
 refine aH.mk (X:=Nat) (fun i=>[(0,.slice o t.length c),(1,.bool root),(5,.int .i64 (lQ t i)),(6,.int .i64 (eU t i)),(7,.bool (gF t i)),(8,.int .i64 i)]) (fun i w'=>Ext w w'∧i≤t.length∧(List.range i).all (okR t root)=true) (fun i=>t.length-i) 0
  ⟨Ext.refl _,Nat.zero_le _,rfl⟩ ⟨rfl,rfl,rfl,rfl,rfl,rfl,trivial⟩ ?_
 rintro i w1 ⟨hE,hi,hs⟩
 refine Cond.dec (fun g3=>?_) (fun g3=>?_)
 ·have hil:i<t.length:=by omega
  have hpi:=hpar i hil
  have ct:lQ t i≤i:=tL _ i
  have ce:eU t i≤i:=tL _ i
  refine aA.mk _ (rFits_con _ t i w1 (ht0.ext hE) hil hpi) ?_
  rintro v w2 ⟨rfl,hE2⟩
  have hE02:=hE.trans hE2
  obtain⟨a,ha,hc⟩:=h4 w2 hE02 i hil
  subst ha
  rw[←eT hil]at hc
  have no:okR t root i=false→(aC [Value.int .i64 4]=Value.int .i64 (jF t root)∧Ext w w2):=fun h=>by
   refine⟨?_,hE02⟩
   have:(List.range t.length).all (okR t root)=false:=by
    rw[List.all_eq_false]
    exact⟨i,List.mem_range.2 hil,by simp[h]⟩
   unfold jF
   rw[if_neg (by omega),if_neg (by rw[g2];simp),if_pos this]
   rfl
  refine aK.negF (fun g4=>?_) (fun g4=>?_)
  rotate_left
  ·rw[g4]
   repeat (first|refine gA ?_|refine gB ?_|refine gC ?_)
   refine Cond.yes ?_
   exact no (by unfold okR;rw[g4];rfl)
  rw[g4]
  repeat (first|refine gA ?_|refine gB ?_|refine gC ?_)
  refine Idx.mk a rfl (by omega) (by omega) ?_
  repeat (first|refine gA ?_|refine gB ?_|refine gC ?_)
  refine Load.here (hc.one (k:=0) rfl) ?_
  have ei:decide ((i:Int)=0)=decide (i=0):=decide_eq_decide.2 (by omega)
  have rest:okR t root i=true→∀E:Env,True:=fun _ _=>trivial
  have hT:lQ t (i+1)=lQ t i+if(nd t (i:Int)).parent<0 then 1 else 0:=by
   unfold lQ
   rw[qB]
   simp
  have hM:eU t (i+1)=eU t i+if(nd t (i:Int)).parent=0∧(nd t (i:Int)).kind=2 then 1 else 0:=by
   unfold eU
   rw[qB]
   simp
  have hD:gF t (i+1)=(gF t i||(decide ((nd t (i:Int)).kind=2)&&decide (60<jR t (i+1) i))):=by
   unfold gF
   rw[List.range_succ,List.any_append]
   simp
  cases root with
  | true=>
    repeat (first|refine gA ?_|refine gB ?_|refine gC ?_)
    refine sG.here (run_neqBool _ _ _ _ _) ?_
    repeat (first|refine gA ?_|refine gB ?_|refine gC ?_)
    rw[ei]
    refine Cond.neg (fun g5=>?_) (fun g5=>?_)
    ·exact no (by unfold okR;rw[g4,Bool.true_and,Bool.true_and,g5])
    have hok:okR t true i=true:=by unfold okR;rw[g4,Bool.true_and,Bool.true_and,g5]
    refine Idx.mk a rfl (by omega) (by omega) ?_
    refine Load.here (hc.one (k:=3) rfl) ?_
    refine Cond.join (X:=Unit) (fun _=>[(0,.slice (some a) t.length c),(1,.bool true),(5,.int .i64 (lQ t (i+1))),(6,.int .i64 (eU t i)),(7,.bool (gF t i)),(8,.int .i64 i)]) (fun _ w'=>w'=w2) (fun g6=>?_) (fun g6=>?_) ?_
    ·have g6':=of_decide_eq_true g6
     refine Ar.aM (lQ t i+1) (by omega) (by omega) ?_
     exact⟨(),rfl,rfl,rfl,by rw[hT,if_pos g6'];rfl,rfl,rfl,rfl,trivial⟩
    ·have g6':=of_decide_eq_false g6
     exact⟨(),rfl,rfl,rfl,by rw[hT,if_neg g6'];rfl,rfl,rfl,rfl,trivial⟩
    rintro _ w3 hw3
    subst hw3
    have hsn:(List.range (i+1)).all (okR t true)=true:=by rw[List.range_succ,List.all_append,hs,List.all_cons,List.all_nil,hok];rfl
    refine Idx.mk a rfl (by omega) (by omega) ?_
    refine Load.here (hc.one (k:=3) rfl) ?_
    by_cases k2:(nd t (i:Int)).kind=2
    ·refine aK.bB (fun g7=>?_) (fun g7=>?_)
     ·repeat (first|refine gA ?_|refine gB ?_|refine gC ?_)
      refine Idx.mk a rfl (by omega) (by omega) ?_
      repeat (first|refine gA ?_|refine gB ?_|refine gC ?_)
      refine Load.here (hc.one (k:=0) rfl) ?_
      repeat (first|refine gA ?_|refine gB ?_|refine gC ?_)
      refine Cond.dec (fun _=>?_) (fun h=>absurd k2 h)
      refine Ar.aM (eU t i+1) (by omega) (by omega) ?_
      have hMv:eU t (i+1)=eU t i+1:=by rw[hM,if_pos ⟨g7,k2⟩]
      refine Idx.mk a rfl (by omega) (by omega) ?_
      refine Load.here (hc.one (k:=0) rfl) ?_
      refine aK.bB (fun _=>?_) (fun h=>absurd k2 h)
      repeat (first|refine gA ?_|refine gB ?_|refine gC ?_)
      refine aA.mk _ (vQ _ t i w3 (ht0.ext hE02) hil (fun j hj=>(hpar j (by omega)).2)) ?_
      rintro v w4 ⟨hv,hw⟩
      have hw':=hw.symm
      subst hv hw'
      repeat (first|refine gA ?_|refine gB ?_|refine gC ?_)
      refine Cond.dec (fun g8=>?_) (fun g8=>?_)
      ·have hDv:gF t (i+1)=true:=by rw[hD,decide_eq_true k2,decide_eq_true g8,Bool.true_and,Bool.or_true]
       refine Ar.aM (i+1) (by omega) (by omega) ?_
       exact⟨i+1,⟨hE02,by omega,hsn⟩,by omega,rfl,rfl,rfl,by rw[hMv];rfl,by rw[hDv];rfl,rfl,trivial⟩
      ·have hDv:gF t (i+1)=gF t i:=by rw[hD,decide_eq_false g8,Bool.and_false,Bool.or_false]
       refine Ar.aM (i+1) (by omega) (by omega) ?_
       exact⟨i+1,⟨hE02,by omega,hsn⟩,by omega,rfl,rfl,rfl,by rw[hMv];rfl,by rw[hDv];rfl,rfl,trivial⟩
     ·repeat (first|refine gA ?_|refine gB ?_|refine gC ?_)
      refine Cond.no ?_
      have hMv:eU t (i+1)=eU t i:=by rw[hM,if_neg (fun h=>g7 h.1)];rfl
      refine Idx.mk a rfl (by omega) (by omega) ?_
      refine Load.here (hc.one (k:=0) rfl) ?_
      refine aK.bB (fun _=>?_) (fun h=>absurd k2 h)
      repeat (first|refine gA ?_|refine gB ?_|refine gC ?_)
      refine aA.mk _ (vQ _ t i w3 (ht0.ext hE02) hil (fun j hj=>(hpar j (by omega)).2)) ?_
      rintro v w4 ⟨hv,hw⟩
      have hw':=hw.symm
      subst hv hw'
      repeat (first|refine gA ?_|refine gB ?_|refine gC ?_)
      refine Cond.dec (fun g8=>?_) (fun g8=>?_)
      ·have hDv:gF t (i+1)=true:=by rw[hD,decide_eq_true k2,decide_eq_true g8,Bool.true_and,Bool.or_true]
       refine Ar.aM (i+1) (by omega) (by omega) ?_
       exact⟨i+1,⟨hE02,by omega,hsn⟩,by omega,rfl,rfl,rfl,by rw[hMv];rfl,by rw[hDv];rfl,rfl,trivial⟩
      ·have hDv:gF t (i+1)=gF t i:=by rw[hD,decide_eq_false g8,Bool.and_false,Bool.or_false]
       refine Ar.aM (i+1) (by omega) (by omega) ?_
       exact⟨i+1,⟨hE02,by omega,hsn⟩,by omega,rfl,rfl,rfl,by rw[hMv];rfl,by rw[hDv];rfl,rfl,trivial⟩
    ·have hMv:eU t (i+1)=eU t i:=by rw[hM,if_neg (fun h=>k2 h.2)];rfl
     have hDv:gF t (i+1)=gF t i:=by rw[hD,decide_eq_false k2,Bool.false_and,Bool.or_false]
     have rest2:True:=trivial
     refine aK.bB (fun g7=>?_) (fun g7=>?_)
     ·repeat (first|refine gA ?_|refine gB ?_|refine gC ?_)
      refine Idx.mk a rfl (by omega) (by omega) ?_
      repeat (first|refine gA ?_|refine gB ?_|refine gC ?_)
      refine Load.here (hc.one (k:=0) rfl) ?_
      repeat (first|refine gA ?_|refine gB ?_|refine gC ?_)
      refine Cond.dec (fun h=>absurd h k2) (fun _=>?_)
      refine Idx.mk a rfl (by omega) (by omega) ?_
      refine Load.here (hc.one (k:=0) rfl) ?_
      refine aK.bB (fun h=>absurd h k2) (fun _=>?_)
      repeat (first|refine gA ?_|refine gB ?_|refine gC ?_)
      refine Cond.no ?_
      refine Ar.aM (i+1) (by omega) (by omega) ?_
      exact⟨i+1,⟨hE02,by omega,hsn⟩,by omega,rfl,rfl,rfl,by rw[hMv];rfl,by rw[hDv];rfl,rfl,trivial⟩
     ·repeat (first|refine gA ?_|refine gB ?_|refine gC ?_)
      refine Cond.no ?_
      refine Idx.mk a rfl (by omega) (by omega) ?_
      refine Load.here (hc.one (k:=0) rfl) ?_
      refine aK.bB (fun h=>absurd h k2) (fun _=>?_)
      repeat (first|refine gA ?_|refine gB ?_|refine gC ?_)
      refine Cond.no ?_
      refine Ar.aM (i+1) (by omega) (by omega) ?_
      exact⟨i+1,⟨hE02,by omega,hsn⟩,by omega,rfl,rfl,rfl,by rw[hMv];rfl,by rw[hDv];rfl,rfl,trivial⟩
  | false=>
    repeat (first|refine gA ?_|refine gB ?_|refine gC ?_)
    refine sG.here (run_neqBool _ _ _ _ _) ?_
    repeat (first|refine gA ?_|refine gB ?_|refine gC ?_)
    refine Cond.neg (fun g5=>?_) (fun g5=>?_)
    ·exact no (by unfold okR;rw[g4,Bool.true_and,Bool.false_and,g5])
    have hok:okR t false i=true:=by unfold okR;rw[g4,Bool.true_and,Bool.false_and,g5]
    refine Idx.mk a rfl (by omega) (by omega) ?_
    refine Load.here (hc.one (k:=3) rfl) ?_
    refine Cond.join (X:=Unit) (fun _=>[(0,.slice (some a) t.length c),(1,.bool false),(5,.int .i64 (lQ t (i+1))),(6,.int .i64 (eU t i)),(7,.bool (gF t i)),(8,.int .i64 i)]) (fun _ w'=>w'=w2) (fun g6=>?_) (fun g6=>?_) ?_
    ·have g6':=of_decide_eq_true g6
     refine Ar.aM (lQ t i+1) (by omega) (by omega) ?_
     exact⟨(),rfl,rfl,rfl,by rw[hT,if_pos g6'];rfl,rfl,rfl,rfl,trivial⟩
    ·have g6':=of_decide_eq_false g6
     exact⟨(),rfl,rfl,rfl,by rw[hT,if_neg g6'];rfl,rfl,rfl,rfl,trivial⟩
    rintro _ w3 hw3
    subst hw3
    have hsn:(List.range (i+1)).all (okR t false)=true:=by rw[List.range_succ,List.all_append,hs,List.all_cons,List.all_nil,hok];rfl
    refine Idx.mk a rfl (by omega) (by omega) ?_
    refine Load.here (hc.one (k:=3) rfl) ?_
    by_cases k2:(nd t (i:Int)).kind=2
    ·refine aK.bB (fun g7=>?_) (fun g7=>?_)
     ·repeat (first|refine gA ?_|refine gB ?_|refine gC ?_)
      refine Idx.mk a rfl (by omega) (by omega) ?_
      repeat (first|refine gA ?_|refine gB ?_|refine gC ?_)
      refine Load.here (hc.one (k:=0) rfl) ?_
      repeat (first|refine gA ?_|refine gB ?_|refine gC ?_)
      refine Cond.dec (fun _=>?_) (fun h=>absurd k2 h)
      refine Ar.aM (eU t i+1) (by omega) (by omega) ?_
      have hMv:eU t (i+1)=eU t i+1:=by rw[hM,if_pos ⟨g7,k2⟩]
      refine Idx.mk a rfl (by omega) (by omega) ?_
      refine Load.here (hc.one (k:=0) rfl) ?_
      refine aK.bB (fun _=>?_) (fun h=>absurd k2 h)
      repeat (first|refine gA ?_|refine gB ?_|refine gC ?_)
      refine aA.mk _ (vQ _ t i w3 (ht0.ext hE02) hil (fun j hj=>(hpar j (by omega)).2)) ?_
      rintro v w4 ⟨hv,hw⟩
      have hw':=hw.symm
      subst hv hw'
      repeat (first|refine gA ?_|refine gB ?_|refine gC ?_)
      refine Cond.dec (fun g8=>?_) (fun g8=>?_)
      ·have hDv:gF t (i+1)=true:=by rw[hD,decide_eq_true k2,decide_eq_true g8,Bool.true_and,Bool.or_true]
       refine Ar.aM (i+1) (by omega) (by omega) ?_
       exact⟨i+1,⟨hE02,by omega,hsn⟩,by omega,rfl,rfl,rfl,by rw[hMv];rfl,by rw[hDv];rfl,rfl,trivial⟩
      ·have hDv:gF t (i+1)=gF t i:=by rw[hD,decide_eq_false g8,Bool.and_false,Bool.or_false]
       refine Ar.aM (i+1) (by omega) (by omega) ?_
       exact⟨i+1,⟨hE02,by omega,hsn⟩,by omega,rfl,rfl,rfl,by rw[hMv];rfl,by rw[hDv];rfl,rfl,trivial⟩
     ·repeat (first|refine gA ?_|refine gB ?_|refine gC ?_)
      refine Cond.no ?_
      have hMv:eU t (i+1)=eU t i:=by rw[hM,if_neg (fun h=>g7 h.1)];rfl
      refine Idx.mk a rfl (by omega) (by omega) ?_
      refine Load.here (hc.one (k:=0) rfl) ?_
      refine aK.bB (fun _=>?_) (fun h=>absurd k2 h)
      repeat (first|refine gA ?_|refine gB ?_|refine gC ?_)
      refine aA.mk _ (vQ _ t i w3 (ht0.ext hE02) hil (fun j hj=>(hpar j (by omega)).2)) ?_
      rintro v w4 ⟨hv,hw⟩
      have hw':=hw.symm
      subst hv hw'
      repeat (first|refine gA ?_|refine gB ?_|refine gC ?_)
      refine Cond.dec (fun g8=>?_) (fun g8=>?_)
      ·have hDv:gF t (i+1)=true:=by rw[hD,decide_eq_true k2,decide_eq_true g8,Bool.true_and,Bool.or_true]
       refine Ar.aM (i+1) (by omega) (by omega) ?_
       exact⟨i+1,⟨hE02,by omega,hsn⟩,by omega,rfl,rfl,rfl,by rw[hMv];rfl,by rw[hDv];rfl,rfl,trivial⟩
      ·have hDv:gF t (i+1)=gF t i:=by rw[hD,decide_eq_false g8,Bool.and_false,Bool.or_false]
       refine Ar.aM (i+1) (by omega) (by omega) ?_
       exact⟨i+1,⟨hE02,by omega,hsn⟩,by omega,rfl,rfl,rfl,by rw[hMv];rfl,by rw[hDv];rfl,rfl,trivial⟩
    ·have hMv:eU t (i+1)=eU t i:=by rw[hM,if_neg (fun h=>k2 h.2)];rfl
     have hDv:gF t (i+1)=gF t i:=by rw[hD,decide_eq_false k2,Bool.false_and,Bool.or_false]
     have rest2:True:=trivial
     refine aK.bB (fun g7=>?_) (fun g7=>?_)
     ·repeat (first|refine gA ?_|refine gB ?_|refine gC ?_)
      refine Idx.mk a rfl (by omega) (by omega) ?_
      repeat (first|refine gA ?_|refine gB ?_|refine gC ?_)
      refine Load.here (hc.one (k:=0) rfl) ?_
      repeat (first|refine gA ?_|refine gB ?_|refine gC ?_)
      refine Cond.dec (fun h=>absurd h k2) (fun _=>?_)
      refine Idx.mk a rfl (by omega) (by omega) ?_
      refine Load.here (hc.one (k:=0) rfl) ?_
      refine aK.bB (fun h=>absurd h k2) (fun _=>?_)
      repeat (first|refine gA ?_|refine gB ?_|refine gC ?_)
      refine Cond.no ?_
      refine Ar.aM (i+1) (by omega) (by omega) ?_
      exact⟨i+1,⟨hE02,by omega,hsn⟩,by omega,rfl,rfl,rfl,by rw[hMv];rfl,by rw[hDv];rfl,rfl,trivial⟩
     ·repeat (first|refine gA ?_|refine gB ?_|refine gC ?_)
      refine Cond.no ?_
      refine Idx.mk a rfl (by omega) (by omega) ?_
      refine Load.here (hc.one (k:=0) rfl) ?_
      refine aK.bB (fun h=>absurd h k2) (fun _=>?_)
      repeat (first|refine gA ?_|refine gB ?_|refine gC ?_)
      refine Cond.no ?_
      refine Ar.aM (i+1) (by omega) (by omega) ?_
      exact⟨i+1,⟨hE02,by omega,hsn⟩,by omega,rfl,rfl,rfl,by rw[hMv];rfl,by rw[hDv];rfl,rfl,trivial⟩
 ·have hi2:i=t.length:=by omega
  have hall:(List.range t.length).all (okR t root)=true:=by rw[←hi2];exact hs
  have val:jF t root=if root=true∧(lQ t t.length≠1∨eU t t.length≠1)then 4 else if gF t t.length=true then 131 else 0:=by
   unfold jF
   rw[if_neg (by omega),if_neg (by rw[g2];simp),if_neg (by rw[hall];simp)]
  rw[hi2]
  have fin:∀x:Int,jF t root=x→(aC [Value.int .i64 x]=Value.int .i64 (jF t root)∧Ext w w1):=fun x h=>by rw[h];exact⟨rfl,hE⟩
  have deepEnd:(jF t root=if gF t t.length=true then 131 else 0)→∀b,gF t t.length=b→jF t root=if b=true then 131 else 0:=fun h b hb=>by rw[h,hb]
  cases root with
  | true=>
    repeat (first|refine gA ?_|refine gB ?_|refine gC ?_)
    refine aK.bP (fun g4=>?_) (fun g4=>?_)
    ·repeat (first|refine gA ?_|refine gB ?_|refine gC ?_)
     refine Cond.dH (fun g5=>?_) (fun g5=>?_)
     ·refine fin _ ?_
      rw[val,if_pos ⟨rfl,.inr (by omega)⟩]
     ·have v2:jF t true=if gF t t.length=true then 131 else 0:=by
       rw[val,if_neg]
       rintro⟨-,h|h⟩
       ·omega
       ·omega
      refine Cond.mk (fun g6=>?_) (fun g6=>?_)
      ·exact fin _ (by rw[v2,if_pos g6])
      ·exact fin _ (by rw[v2,if_neg (by rw[g6];simp)])
    ·repeat (first|refine gA ?_|refine gB ?_|refine gC ?_)
     refine Cond.yes ?_
     refine fin _ ?_
     rw[val,if_pos ⟨rfl,.inl (by omega)⟩]
  | false=>
    repeat (first|refine gA ?_|refine gB ?_|refine gC ?_)
    refine Cond.no ?_
    have v2:jF t false=if gF t t.length=true then 131 else 0:=by
     rw[val,if_neg (by simp)]
    refine Cond.mk (fun g6=>?_) (fun g6=>?_)
    ·exact fin _ (by rw[v2,if_pos g6])
    ·exact fin _ (by rw[v2,if_neg (by rw[g6];simp)])
theorem qV(v:Value)(t:List Nd)(w:World)(ht:aJ w v t):bV Tryz.prog 88 #[v] w (fun v' w'=>v'=.int .i64 (jF t false)∧Ext w w'):=by
 refine enter aB Tryz.func88 (aV rfl) rfl rfl rfl ?_
 refine aA.mk _ (rCheck_con v t false w ht) ?_
 rintro v' w1 ⟨rfl,hE⟩
 exact And.intro rfl hE
theorem rCheckT_con(v:Value)(t:List Nd)(w:World)(ht:aJ w v t):bV Tryz.prog 122 #[v] w (fun v' w'=>v'=.int .i64 (jF t true)∧Ext w w'):=by
 refine enter aB Tryz.func122 (aV rfl) rfl rfl rfl ?_
 refine aA.mk _ (rCheck_con v t true w ht) ?_
 rintro v' w1 ⟨rfl,hE⟩
 exact And.intro rfl hE
end Go.Proofs.YtelffdgcikceaaaGreatDoor
end
