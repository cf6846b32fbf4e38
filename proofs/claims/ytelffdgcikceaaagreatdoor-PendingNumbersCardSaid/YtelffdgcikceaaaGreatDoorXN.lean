/- PendingNumbers: with the tables as the program's text lays them, the closed law returns true and changes nothing that was there. -/
import Derived.Test.YtelffdgcikceaaaGreatDoorXN4
import Derived.Shelf.Strings.Repeat
import Derived.Test.YtelffdgcikceaaaGreatDoorTie
import Derived.Test.YtelffdgcikceaaaGreatDoorCards
import Derived.SevenTiedAt
set_option linter.unusedSimpArgs false
set_option linter.unusedVariables false
section
namespace Go.Proofs.YtelffdgcikceaaaGreatDoor
open Go.V
open Go.RowKit (Below)
theorem run_n03(w:World)(k p:Int):(Instr.build 50 #[(0,.int .u8 k),(3,.int .i64 p)]).run Tryz.prog w=.ok (.agg #[.int .u8 k,.string ⟨#[]⟩,.string ⟨#[]⟩,.int .i64 p]) w:=by kernel_rfl
theorem run_n0123(w:World)(k:Int)(s x:ByteArray)(p:Int):(Instr.build 50 #[(0,.int .u8 k),(1,.string s),(2,.string x),(3,.int .i64 p)]).run Tryz.prog w=.ok (.agg #[.int .u8 k,.string s,.string x,.int .i64 p]) w:=by kernel_rfl
theorem run_whole(w:World):(Instr.buildSlice 31 10 #[(0,.agg #[.int .u8 1,.string ⟨#[]⟩,.string ⟨#[]⟩,.int .i64 (-1)]),(1,.agg #[.int .u8 5,.string ⟨#[]⟩,.string ⟨#[99]⟩,.int .i64 0]),(2,.agg #[.int .u8 2,.string ⟨#[97]⟩,.string ⟨#[]⟩,.int .i64 0]),(3,.agg #[.int .u8 3,.string ⟨#[120]⟩,.string ⟨#[49]⟩,.int .i64 2]),(4,.agg #[.int .u8 3,.string ⟨#[121]⟩,.string ⟨#[]⟩,.int .i64 2]),(5,.agg #[.int .u8 4,.string ⟨#[]⟩,.string ⟨#[116]⟩,.int .i64 2]),(6,.agg #[.int .u8 2,.string ⟨#[98]⟩,.string ⟨#[]⟩,.int .i64 2]),(7,.agg #[.int .u8 4,.string ⟨#[]⟩,.string ⟨#[117]⟩,.int .i64 6]),(8,.agg #[.int .u8 6,.string ⟨#[112]⟩,.string ⟨#[113]⟩,.int .i64 2]),(9,.agg #[.int .u8 4,.string ⟨#[]⟩,.string ⟨#[118]⟩,.int .i64 2])]).run Tryz.prog w =
  .ok (.slice (some ⟨w.heap.size,0,none⟩) 10 10) (w.alloc (.cells (iF.map Nd.cells).flatten.toArray 50)):=by kernel_rfl
def wfB(n:Nd):Bool:=decide (0≤n.kind)&&(decide (n.kind≤255)&&(decide (-9223372036854775808≤n.parent)&&(decide (n.parent≤9223372036854775807)&&(decide (n.name.size≤140737488355328)&&decide (n.value.size≤140737488355328)))))
theorem wf_of{l:List Nd}(h:l.all wfB=true):∀x∈l,x.Wf:=fun x hx=>by
 have:=List.all_eq_true.1 h x hx
 unfold wfB at this
 simp only[Bool.and_eq_true,decide_eq_true_eq]at this
 exact⟨⟨this.1,this.2.1⟩,⟨this.2.2.1,this.2.2.2.1⟩,this.2.2.2.2.1,this.2.2.2.2.2⟩
theorem whole_con(w:World):bV Tryz.prog 21 #[] w (fun v w'=>aJ w' v iF∧Ext w w'):=by
 refine enter aB Tryz.func21 (aV rfl) rfl rfl rfl ?_
 refine aG.mk _ _ (run_n03 _ _ _) ?_
 refine aG.mk _ _ (l7 _ _ _ _) ?_
 refine aG.mk _ _ (jL _ _ _ _) ?_
 refine aG.mk _ _ (run_n0123 _ _ _ _ _) ?_
 refine aG.mk _ _ (jL _ _ _ _) ?_
 refine aG.mk _ _ (l7 _ _ _ _) ?_
 refine aG.mk _ _ (jL _ _ _ _) ?_
 refine aG.mk _ _ (l7 _ _ _ _) ?_
 refine aG.mk _ _ (run_n0123 _ _ _ _ _) ?_
 refine aG.mk _ _ (l7 _ _ _ _) ?_
 refine aG.mk _ _ (run_whole _) ?_
 have n:bO w w.heap.size (iF.map Nd.cells).flatten 50 (w.alloc (.cells (iF.map Nd.cells).flatten.toArray 50)):=⟨rfl,rfl⟩
 exact⟨nX n rfl (wf_of (by kernel_rfl)) (by decide),n.ext⟩
structure Own(w w':World)(v:Value)(l:List Nd):Prop where
 vec:Vec w' w.heap.size 50 4 v (l.map Nd.cells)
 at_:aJ w' v l
 ext:Ext w w'
theorem Own.of{w w':World}{b:Nat}{l:List Nd}{n:Nat}(h:bO w b (l.map Nd.cells).flatten 50 w')(hn:n=l.length)(hw:∀x∈l,x.Wf)(hl:l.length≤1000000000):Own w w' (.slice (some ⟨b,0,none⟩) n n) l:=by
 have hv:=Vec.wM (B:=w.heap.size) (xs:=l.map Nd.cells) (sz:=4) h rfl (fun x hx=>by
  obtain⟨y,-,rfl⟩:=List.mem_map.1 hx
  rfl) (by rw[List.length_map];simp only[maxLen];omega) (Nat.le_refl _)
 rw[List.length_map,←hn]at hv
 exact⟨hv,nX h hn hw hl,h.ext⟩
theorem oM(s:ByteArray)(w:World)(hs:s.size≤140737488355328):bV Tryz.prog 28 #[.string s] w (fun v w'=>Own w w' v (kS s)):=by
 refine enter aB Tryz.func28 (aV rfl) rfl rfl rfl ?_
 refine aG.mk _ _ (l7 _ _ _ _) ?_
 refine aG.mk _ _ (aY _ _ _ _ _) ?_
 have n:bO w w.heap.size ((kS s).map Nd.cells).flatten 50 (w.alloc (.cells #[.int .u8 4,.string ⟨#[]⟩,.string s,.int .i64 (-1)] 50)):=⟨rfl,rfl⟩
 exact Own.of n rfl (fun x hx=>by rw[List.mem_singleton.1 hx];exact⟨by simp,by simp,by simp[ByteArray.size],hs⟩) (by simp[kS])
theorem jZ(s:ByteArray)(w:World)(hs:s.size≤140737488355328):bV Tryz.prog 30 #[.string s] w (fun v w'=>Own w w' v (kT s)):=by
 refine enter aB Tryz.func30 (aV rfl) rfl rfl rfl ?_
 refine aG.mk _ _ (jL _ _ _ _) ?_
 refine aG.mk _ _ (aY _ _ _ _ _) ?_
 have n:bO w w.heap.size ((kT s).map Nd.cells).flatten 50 (w.alloc (.cells #[.int .u8 3,.string s,.string ⟨#[]⟩,.int .i64 (-1)] 50)):=⟨rfl,rfl⟩
 exact Own.of n rfl (fun x hx=>by rw[List.mem_singleton.1 hx];exact⟨by simp,by simp,hs,by simp[ByteArray.size]⟩) (by simp[kT])
theorem bD.join{w w1 w2:World}{va vb:Value}{la lb:List Nd}{ty:Nat}{consts:Array Bool}{k:Value→World→Prop}(ha:Own w w1 va la)(hb:Own w1 w2 vb lb)(hla:la.length≤100000)(hlb:lb.length≤100000)
  (hk:∀v w',Own w w' v (la++lb)→k v w'):bD Tryz.prog (builtin .append #[31,31] ty consts #[va,vb]) w2 k:=by
 refine bD.append bI w.heap.size _ _ (ha.vec.ext hb.ext) hb.at_.sl (nd_one lb) (by rw[List.length_map,List.length_map];omega) (by rw[List.length_map,List.length_map];simp only[maxLen];omega) (Nat.le_trans ha.ext.sz hb.ext.sz) fun v w' hv har=>?_
 have hE:Ext w w':=Below.trans (ha.ext.trans hb.ext) (har.below (Nat.le_trans ha.ext.sz hb.ext.sz) fun b h=>(ha.vec.ge h).1)
 rw[←List.map_append]at hv
 refine hk _ _ ⟨hv,hv.nodes (fun x hx=>?_) (by rw[List.length_append];omega),hE⟩
 rcases List.mem_append.1 hx with h|h
 ·exact ha.at_.wf x h
 ·exact hb.at_.wf x h
structure RowsAt(w:World)(v:Value)(cs:List (List Nd)):Prop where
 ex:∃o c,v=.slice o cs.length c∧∀(i:Nat) (h:i<cs.length),∃a v',o=some a∧Cells w (a.add (i*1)) [v']∧aJ w v' cs[i]
theorem RowsAt.ext{w w':World}{v:Value}{cs:List (List Nd)}(h:RowsAt w v cs)(hE:Ext w w'):RowsAt w' v cs:=by
 obtain⟨o,c,e,hx⟩:=h.ex
 refine⟨o,c,e,fun i hi=>?_⟩
 obtain⟨a,v',h1,h2,h3⟩:=hx i hi
 exact⟨a,v',h1,h2.ext hE,h3.ext hE⟩
theorem run_five(w:World):(Instr.buildSlice 31 5 #[(0,.agg #[.int .u8 3,.string ⟨#[122]⟩,.string ⟨#[]⟩,.int .i64 (-1)]),(1,.agg #[.int .u8 2,.string ⟨#[101]⟩,.string ⟨#[]⟩,.int .i64 (-1)]),(2,.agg #[.int .u8 3,.string ⟨#[122]⟩,.string ⟨#[]⟩,.int .i64 1]),(3,.agg #[.int .u8 4,.string ⟨#[]⟩,.string ⟨#[119]⟩,.int .i64 1]),(4,.agg #[.int .u8 5,.string ⟨#[]⟩,.string ⟨#[]⟩,.int .i64 (-1)])]).run Tryz.prog w =
  .ok (.slice (some ⟨w.heap.size,0,none⟩) 5 5) (w.alloc (.cells ((gD[4]).map Nd.cells).flatten.toArray 50)):=by kernel_rfl
theorem run_two(w:World):(Instr.buildSlice 31 2 #[(0,.agg #[.int .u8 3,.string ⟨#[122]⟩,.string ⟨#[]⟩,.int .i64 (-1)]),(1,.agg #[.int .u8 4,.string ⟨#[]⟩,.string ⟨#[119]⟩,.int .i64 0])]).run Tryz.prog w =
  .ok (.slice (some ⟨w.heap.size,0,none⟩) 2 2) (w.alloc (.cells ((gD[9]).map Nd.cells).flatten.toArray 50)):=by kernel_rfl
theorem run_rows(w:World)(o1 o2 o3 o4 o5 o6 o7 o8 o9 oa:Option Addr)(n1 n2 n3 n4 n5 n6 n7 n8 n9 na c1 c2 c3 c4 c5 c6 c7 c8 c9 ca:Nat) :
  (Instr.buildSlice 44 11 #[(0,.slice none 0 0),(1,.slice o1 n1 c1),(2,.slice o2 n2 c2),(3,.slice o3 n3 c3),(4,.slice o4 n4 c4),(5,.slice o5 n5 c5),(6,.slice o6 n6 c6),(7,.slice o7 n7 c7),(8,.slice o8 n8 c8),(9,.slice o9 n9 c9),(10,.slice oa na ca)]).run Tryz.prog w =
  .ok (.slice (some ⟨w.heap.size,0,none⟩) 11 11) (w.alloc (.cells #[.slice none 0 0,.slice o1 n1 c1,.slice o2 n2 c2,.slice o3 n3 c3,.slice o4 n4 c4,.slice o5 n5 c5,.slice o6 n6 c6,.slice o7 n7 c7,.slice o8 n8 c8,.slice o9 n9 c9,.slice oa na ca] 31)):=by kernel_rfl
theorem mV{w:World}{v:Value}{l:List Nd}(h:aJ w v l):∃o n c,v=.slice o n c:=by
 obtain⟨o,c,rfl,-⟩:=h.open_
 exact⟨_,_,_,rfl⟩
set_option maxHeartbeats 1600000 in
theorem contents_con(w:World):bV Tryz.prog 22 #[] w (fun v w'=>RowsAt w' v gD∧Ext w w'):=by
 refine enter aB Tryz.func22 (aV rfl) rfl rfl rfl ?_
 refine aA.mk _ (oM ⟨#[110]⟩ w (by decide)) ?_
 rintro v1 w1 h1
 refine aA.mk _ (jZ ⟨#[120]⟩ w1 (by decide)) ?_
 rintro v2 w2 h2
 refine aA.mk _ (jZ ⟨#[122]⟩ w2 (by decide)) ?_
 rintro v3 w3 h3
 refine aG.mk _ _ (jL _ _ _ _) ?_
 refine aG.mk _ _ (jL _ _ _ _) ?_
 refine aG.mk _ _ (jL _ _ _ _) ?_
 refine aG.mk _ _ (l7 _ _ _ _) ?_
 refine aG.mk _ _ (run_n03 _ _ _) ?_
 refine aG.mk _ _ (run_five _) ?_
 obtain⟨w4,hw4⟩:∃w',w'=w3.alloc (.cells ((gD[4]).map Nd.cells).flatten.toArray 50):=⟨_,rfl⟩
 have h4:Own w3 w4 (.slice (some ⟨w3.heap.size,0,none⟩) 5 5) gD[4]:=Own.of (b:=w3.heap.size) ⟨rfl,hw4⟩ rfl (wf_of (by kernel_rfl)) (by decide)
 refine(show _ from ?_:aA _ _ _ w4 _) |> fun h=>by rw[hw4]at h;exact h
 refine aA.mk _ (oM ⟨#[]⟩ w4 (by decide)) ?_
 rintro v5 w5 h5
 refine aA.mk _ (oM ⟨#[110]⟩ w5 (by decide)) ?_
 rintro va wa ha
 refine aA.mk _ (jZ ⟨#[120]⟩ wa (by decide)) ?_
 rintro vb wb hb
 refine bD.join ha hb (by decide) (by decide) fun v6 w6 h6=>?_
 refine aG.mk _ _ (run_n03 _ _ _) ?_
 refine aG.mk _ _ (aY _ _ _ _ _) ?_
 obtain⟨w7,hw7⟩:∃w',w'=w6.alloc (.cells #[.int .u8 1,.string ⟨#[]⟩,.string ⟨#[]⟩,.int .i64 (-1)] 50):=⟨_,rfl⟩
 have h7:Own w6 w7 (.slice (some ⟨w6.heap.size,0,none⟩) 1 1) gD[7]:=Own.of (b:=w6.heap.size) ⟨rfl,hw7⟩ rfl (wf_of (by kernel_rfl)) (by decide)
 refine(show _ from ?_:aG _ _ w7 _) |> fun h=>by rw[hw7]at h;exact h
 refine aG.mk _ _ (jL _ _ _ _) ?_
 refine aG.mk _ _ (aY _ _ _ _ _) ?_
 obtain⟨w8,hw8⟩:∃w',w'=w7.alloc (.cells #[.int .u8 3,.string ⟨#[49]⟩,.string ⟨#[]⟩,.int .i64 (-1)] 50):=⟨_,rfl⟩
 have h8:Own w7 w8 (.slice (some ⟨w7.heap.size,0,none⟩) 1 1) gD[8]:=Own.of (b:=w7.heap.size) ⟨rfl,hw8⟩ rfl (wf_of (by kernel_rfl)) (by decide)
 refine(show _ from ?_:aG _ _ w8 _) |> fun h=>by rw[hw8]at h;exact h
 refine aG.mk _ _ (jL _ _ _ _) ?_
 refine aG.mk _ _ (l7 _ _ _ _) ?_
 refine aG.mk _ _ (run_two _) ?_
 obtain⟨w9,hw9⟩:∃w',w'=w8.alloc (.cells ((gD[9]).map Nd.cells).flatten.toArray 50):=⟨_,rfl⟩
 have h9:Own w8 w9 (.slice (some ⟨w8.heap.size,0,none⟩) 2 2) gD[9]:=Own.of (b:=w8.heap.size) ⟨rfl,hw9⟩ rfl (wf_of (by kernel_rfl)) (by decide)
 refine(show _ from ?_:aA _ _ _ w9 _) |> fun h=>by rw[hw9]at h;exact h
 refine aA.mk _ (jZ ⟨#[122]⟩ w9 (by decide)) ?_
 rintro vc wc hc
 refine aA.mk _ (jZ ⟨#[122]⟩ wc (by decide)) ?_
 rintro vd wd hd
 refine bD.join hc hd (by decide) (by decide) fun vA wA hA=>?_
 have e9:=hA.ext
 have e8:=h9.ext.trans e9
 have e7:=h8.ext.trans e8
 have e6:=h7.ext.trans e7
 have e5:=h6.ext.trans e6
 have e4:=h5.ext.trans e5
 have e3:=h4.ext.trans e4
 have e2:=h3.ext.trans e3
 have e1:=h2.ext.trans e2
 obtain⟨o1,n1,c1,rfl⟩:=mV h1.at_
 obtain⟨o2,n2,c2,rfl⟩:=mV h2.at_
 obtain⟨o3,n3,c3,rfl⟩:=mV h3.at_
 obtain⟨o5,n5,c5,rfl⟩:=mV h5.at_
 obtain⟨o6,n6,c6,rfl⟩:=mV h6.at_
 obtain⟨oA,nA,cA,rfl⟩:=mV hA.at_
 refine aG.mk _ _ (run_rows _ _ _ _ _ _ _ _ _ _ _ _ _ _ _ _ _ _ _ _ _ _ _ _ _ _ _ _ _ _ _) ?_
 obtain⟨wB,hwB⟩:∃w',w'=wA.alloc (.cells #[.slice none 0 0,.slice o1 n1 c1,.slice o2 n2 c2,.slice o3 n3 c3,.slice (some ⟨w3.heap.size,0,none⟩) 5 5,.slice o5 n5 c5,.slice o6 n6 c6,.slice (some ⟨w6.heap.size,0,none⟩) 1 1,.slice (some ⟨w7.heap.size,0,none⟩) 1 1,.slice (some ⟨w8.heap.size,0,none⟩) 2 2,.slice oA nA cA] 31):=⟨_,rfl⟩
 have nB:bO wA wA.heap.size [.slice none 0 0,.slice o1 n1 c1,.slice o2 n2 c2,.slice o3 n3 c3,.slice (some ⟨w3.heap.size,0,none⟩) 5 5,.slice o5 n5 c5,.slice o6 n6 c6,.slice (some ⟨w6.heap.size,0,none⟩) 1 1,.slice (some ⟨w7.heap.size,0,none⟩) 1 1,.slice (some ⟨w8.heap.size,0,none⟩) 2 2,.slice oA nA cA] 31 wB:=⟨rfl,hwB⟩
 rw[←hwB]
 refine And.intro ⟨some ⟨wA.heap.size,0,none⟩,11,rfl,?_⟩ ((h1.ext.trans e1).trans nB.ext)
 have hcell:∀(i:Nat) (v:Value),[Value.slice none 0 0,.slice o1 n1 c1,.slice o2 n2 c2,.slice o3 n3 c3,.slice (some ⟨w3.heap.size,0,none⟩) 5 5,.slice o5 n5 c5,.slice o6 n6 c6,.slice (some ⟨w6.heap.size,0,none⟩) 1 1,.slice (some ⟨w7.heap.size,0,none⟩) 1 1,.slice (some ⟨w8.heap.size,0,none⟩) 2 2,.slice oA nA cA][i]? = some v→Cells wB ((⟨wA.heap.size,0,none⟩:Addr).add (i*1)) [v]:=fun i v hv j u hj=>by
  match j,hj with
  | 0,hj=>
    cases hj
    rw[add_zero,Nat.mul_one]
    exact nB.blk.cells i v hv
  | j+1,hj=>simp at hj
 intro i hi
 have hi':i<11:=hi
 match i,hi,hi' with
 | 0,_,_=>exact⟨_,_,rfl,hcell 0 _ rfl,lM _⟩
 | 1,_,_=>exact⟨_,_,rfl,hcell 1 _ rfl,h1.at_.ext (e1.trans nB.ext)⟩
 | 2,_,_=>exact⟨_,_,rfl,hcell 2 _ rfl,h2.at_.ext (e2.trans nB.ext)⟩
 | 3,_,_=>exact⟨_,_,rfl,hcell 3 _ rfl,h3.at_.ext (e3.trans nB.ext)⟩
 | 4,_,_=>exact⟨_,_,rfl,hcell 4 _ rfl,h4.at_.ext (e4.trans nB.ext)⟩
 | 5,_,_=>exact⟨_,_,rfl,hcell 5 _ rfl,h5.at_.ext (e5.trans nB.ext)⟩
 | 6,_,_=>exact⟨_,_,rfl,hcell 6 _ rfl,h6.at_.ext (e6.trans nB.ext)⟩
 | 7,_,_=>exact⟨_,_,rfl,hcell 7 _ rfl,h7.at_.ext (e7.trans nB.ext)⟩
 | 8,_,_=>exact⟨_,_,rfl,hcell 8 _ rfl,h8.at_.ext (e8.trans nB.ext)⟩
 | 9,_,_=>exact⟨_,_,rfl,hcell 9 _ rfl,h9.at_.ext (e9.trans nB.ext)⟩
 | 10,_,_=>exact⟨_,_,rfl,hcell 10 _ rfl,hA.at_.ext nB.ext⟩
 | n+11,_,h=>exact absurd h (by omega)
set_option maxHeartbeats 1600000 in
theorem part_con(k:Nat)(s:ByteArray)(w:World)(hk:1≤k∧k≤10)(hs:s.size≤1000) :
  bV Tryz.prog 25 #[.int .i64 k,.string s] w (fun v w'=>∃r o n c,v=.agg r.cells.toArray∧r.nodes=.slice o n c∧gM w' r (pI k s)∧Ext w w'):=by
 refine enter aB Tryz.func25 (aV rfl) rfl rfl rfl ?_
 refine aG.alloc _ [.int .u8 0,.int .i64 0,.string ⟨#[]⟩,.slice none 0 0] jI rfl fun b4 w1 n1=>?_
 refine Ar.u8 (by omega) ?_
 refine aG.mk _ _ (uO _ _ _) ?_
 refine aG.alloc _ [.int .u8 0,.int .i64 0,.string ⟨#[]⟩,.slice none 0 0] jI rfl fun b5 w2 n2=>?_
 refine bA.store b5 0 _ [.int .u8 k,.int .i64 6,.string ⟨#[]⟩,.slice none 0 0] 41 rfl rfl (by kernel_rfl) n2.blk (by simp) (by simp[Value.oneCell']) fun w3 hU3=>?_
 have n3:=n2.upd hU3
 have hb5:bQ w3 b5 (aR.mk k 6 ⟨#[]⟩ (.slice none 0 0)).cells 41:=n3.blk
 have hE3:=n1.ext.trans n3.ext
 have hb4:bQ w3 b4 [.int .u8 0,.int .i64 0,.string ⟨#[]⟩,.slice none 0 0] 41:=n1.blk.ext n3.ext
 have ne:b4≠b5:=by
  have h1:=n1.blk.lt
  have h2:=n2.b_eq
  omega
 have ge4:w.heap.size≤b4:=by rw[n1.b_eq];exact Nat.le_refl _
 have ge5:w.heap.size≤b5:=by rw[n2.b_eq];exact n1.ext.sz
 refine Load.here (v:=.int .u8 k) (hb5.cells.one (k:=0) rfl) ?_
 have pk:∀(w':World) (t:Int) (x:ByteArray) (v:Value) (l:List Nd),aJ w' v l→(t=5∨t=6)→x.size≤1000→gM w' ⟨k,t,x,v⟩ ⟨k,t,x,l⟩:=fun w' t x v l hv ht hx=>⟨rfl,rfl,rfl,hv,by simp only;omega,by simp only;omega,by simp only;omega⟩
 repeat' (first
  | refine gA ?_|refine gB ?_|refine gC ?_|refine Cond.yes ?_|refine Cond.no ?_|refine aK.bB (fun _=>?_) (fun g=>absurd (by omega) g)|refine aK.bB (fun g=>absurd g (by omega)) (fun _=>?_)|refine aK.bH (fun _=>?_) (fun g=>absurd g (by omega))|refine aK.bH (fun g=>absurd (by omega) g) (fun _=>?_)|refine aK.bP (fun _=>?_) (fun g=>absurd (by omega) g)|refine aK.bP (fun g=>absurd g (by omega)) (fun _=>?_)|refine aK.bU (fun _=>?_) (fun g=>absurd g (by omega))|refine aK.bU (fun g=>absurd (by omega) g) (fun _=>?_)|refine Cond.dec (fun _=>?_) (fun g=>absurd (by omega) g)|refine Cond.dec (fun g=>absurd g (by omega)) (fun _=>?_)|refine Cond.dH (fun _=>?_) (fun g=>absurd g (by omega))|refine Cond.dH (fun g=>absurd (by omega) g) (fun _=>?_)
  | refine Cond.dec (fun _=>?_) (fun _=>?_))
 all_goals try
  have hk2:k=3∨k=9:=by omega
  refine bA.store b5 2 _ [.string s] 41 rfl rfl (by kernel_rfl) hb5 (by simp[aR.cells]) (by simp[Value.oneCell']) fun w4 hU4=>?_
  have hb':bQ w4 b5 (aR.mk k 6 s (.slice none 0 0)).cells 41:=hU4.blk
  refine Load.here (hb'.cells.all' rfl) ?_
  refine bA.store b4 0 _ (aR.mk k 6 s (.slice none 0 0)).cells 41 rfl rfl (by kernel_rfl) (hU4.aF hb4 ne) (by simp[aR.cells]) (by simp[aR.cells,Value.oneCell']) fun w5 hU5=>?_
  have hz:bQ w5 b4 (aR.mk k 6 s (.slice none 0 0)).cells 41:=hU5.blk
  refine Load.here (hz.cells.all' rfl) ?_
  refine⟨⟨k,6,s,.slice none 0 0⟩,none,0,0,rfl,rfl,?_,(hE3.upd hU4 ge5).upd hU5 ge4⟩
  have:pI k s=⟨k,6,s,[]⟩:=by unfold pI;rw[if_pos (by omega)]
  rw[this]
  exact pk _ _ _ _ _ (lM _) (.inr rfl) hs
 all_goals try
  have hk2:k=2:=by omega
  refine bA.store b5 1 _ [.int .i64 5] 41 rfl rfl (by kernel_rfl) hb5 (by simp[aR.cells]) (by simp[Value.oneCell']) fun w4 hU4=>?_
  have hb1:bQ w4 b5 (aR.mk k 5 ⟨#[]⟩ (.slice none 0 0)).cells 41:=hU4.blk
  refine bA.store b5 2 _ [.string s] 41 rfl rfl (by kernel_rfl) hb1 (by simp[aR.cells]) (by simp[Value.oneCell']) fun w5 hU5=>?_
  have hb':bQ w5 b5 (aR.mk k 5 s (.slice none 0 0)).cells 41:=hU5.blk
  refine Load.here (hb'.cells.all' rfl) ?_
  refine bA.store b4 0 _ (aR.mk k 5 s (.slice none 0 0)).cells 41 rfl rfl (by kernel_rfl) (hU5.aF (hU4.aF hb4 ne) ne) (by simp[aR.cells]) (by simp[aR.cells,Value.oneCell']) fun w6 hU6=>?_
  have hz:bQ w6 b4 (aR.mk k 5 s (.slice none 0 0)).cells 41:=hU6.blk
  refine Load.here (hz.cells.all' rfl) ?_
  refine⟨⟨k,5,s,.slice none 0 0⟩,none,0,0,rfl,rfl,?_,((hE3.upd hU4 ge5).upd hU5 ge5).upd hU6 ge4⟩
  have:pI k s=⟨k,5,s,[]⟩:=by unfold pI;rw[if_neg (by omega),if_pos (by omega)]
  rw[this]
  exact pk _ _ _ _ _ (lM _) (.inl rfl) hs
 all_goals try
  have hk2:k=1∨k=6∨k=7:=by omega
  refine aA.mk _ (jZ s w3 (by omega)) ?_
  rintro va wa ha
  refine aA.mk _ (oM s wa (by omega)) ?_
  rintro vb wb hb
  refine bD.join ha hb (by simp[kT]) (by simp[kS]) fun v wc hc=>?_
  obtain⟨o,n,c,rfl⟩:=mV hc.at_
  refine bA.store b5 3 _ [.slice o n c] 41 rfl rfl (by kernel_rfl) (hb5.ext hc.ext) (by simp[aR.cells]) (by simp[Value.oneCell']) fun w4 hU4=>?_
  have hb':bQ w4 b5 (aR.mk k 6 ⟨#[]⟩ (.slice o n c)).cells 41:=hU4.blk
  refine Load.here (hb'.cells.all' rfl) ?_
  refine bA.store b4 0 _ (aR.mk k 6 ⟨#[]⟩ (.slice o n c)).cells 41 rfl rfl (by kernel_rfl) (hU4.aF (hb4.ext hc.ext) ne) (by simp[aR.cells]) (by simp[aR.cells,Value.oneCell']) fun w5 hU5=>?_
  have hz:bQ w5 b4 (aR.mk k 6 ⟨#[]⟩ (.slice o n c)).cells 41:=hU5.blk
  refine Load.here (hz.cells.all' rfl) ?_
  refine⟨⟨k,6,⟨#[]⟩,.slice o n c⟩,o,n,c,rfl,rfl,?_,((hE3.trans hc.ext).upd hU4 ge5).upd hU5 ge4⟩
  have:pI k s=⟨k,6,⟨#[]⟩,kT s++kS s⟩:=by unfold pI;rw[if_neg (by omega),if_neg (by omega),if_pos (by omega)]
  rw[this]
  exact pk _ _ _ _ _ (((hc.vec.upd hU4 (fun e=>by have:=(hc.vec.ge e).1;have:=hb5.lt;omega)).upd hU5 (fun e=>by have:=(hc.vec.ge e).1;have:=hb4.lt;omega)).nodes hc.at_.wf hc.at_.len) (.inr rfl) (by simp[ByteArray.size])
 all_goals try
  have hk2:k=4∨k=5∨k=8:=by omega
  refine aA.mk _ (oM s w3 (by omega)) ?_
  rintro va wc hc
  obtain⟨o,n,c,rfl⟩:=mV hc.at_
  refine bA.store b5 3 _ [.slice o n c] 41 rfl rfl (by kernel_rfl) (hb5.ext hc.ext) (by simp[aR.cells]) (by simp[Value.oneCell']) fun w4 hU4=>?_
  have hb':bQ w4 b5 (aR.mk k 6 ⟨#[]⟩ (.slice o n c)).cells 41:=hU4.blk
  refine Load.here (hb'.cells.all' rfl) ?_
  refine bA.store b4 0 _ (aR.mk k 6 ⟨#[]⟩ (.slice o n c)).cells 41 rfl rfl (by kernel_rfl) (hU4.aF (hb4.ext hc.ext) ne) (by simp[aR.cells]) (by simp[aR.cells,Value.oneCell']) fun w5 hU5=>?_
  have hz:bQ w5 b4 (aR.mk k 6 ⟨#[]⟩ (.slice o n c)).cells 41:=hU5.blk
  refine Load.here (hz.cells.all' rfl) ?_
  refine⟨⟨k,6,⟨#[]⟩,.slice o n c⟩,o,n,c,rfl,rfl,?_,((hE3.trans hc.ext).upd hU4 ge5).upd hU5 ge4⟩
  have:pI k s=⟨k,6,⟨#[]⟩,kS s⟩:=by unfold pI;rw[if_neg (by omega),if_neg (by omega),if_neg (by omega),if_pos (by omega)]
  rw[this]
  exact pk _ _ _ _ _ (((hc.vec.upd hU4 (fun e=>by have:=(hc.vec.ge e).1;have:=hb5.lt;omega)).upd hU5 (fun e=>by have:=(hc.vec.ge e).1;have:=hb4.lt;omega)).nodes hc.at_.wf hc.at_.len) (.inr rfl) (by simp[ByteArray.size])
 refine Load.here (hb5.cells.all' rfl) ?_
 refine bA.store b4 0 _ (aR.mk k 6 ⟨#[]⟩ (.slice none 0 0)).cells 41 rfl rfl (by kernel_rfl) hb4 (by simp[aR.cells]) (by simp[aR.cells,Value.oneCell']) fun w5 hU5=>?_
 have hz:bQ w5 b4 (aR.mk k 6 ⟨#[]⟩ (.slice none 0 0)).cells 41:=hU5.blk
 refine Load.here (hz.cells.all' rfl) ?_
 refine⟨⟨k,6,⟨#[]⟩,.slice none 0 0⟩,none,0,0,rfl,rfl,?_,hE3.upd hU5 ge4⟩
 have:pI k s=⟨k,6,⟨#[]⟩,[]⟩:=by unfold pI;rw[if_neg (by omega),if_neg (by omega),if_neg (by omega),if_neg (by omega)]
 rw[this]
 exact pk _ _ _ _ _ (lM _) (.inr rfl) (by simp[ByteArray.size])
theorem ApartNodes_con(w:World)(D K:Nat)(va vb:Value)(la lb:List Nd)(o:Option Addr)(c:Nat)(hls:eO w (.slice o 2 c) 1 (gP [va,vb]))(hA:Vec w D 50 4 va (la.map Nd.cells))(hB:Vec w K 50 4 vb (lb.map Nd.cells))
  (hDK:D≤K) (hKw:K≤w.heap.size) (hKa:∀g,va.ownBlock=some g→g<K) (hla:la.length≤1000000) (hlb:lb.length≤1000000) :
  bV Tryz.prog 68 #[.slice o 2 c] w (fun v w'=>v=.bool true∧Ch (fun k=>D≤k) w w'):=by
 have hml:maxLen=9223372036854775807:=rfl
 obtain⟨oa,ca,hae,-,-,-,-,-⟩:=hA.shape
 obtain⟨ob,cb,hbe,-,-,-,-,-⟩:=hB.shape
 subst hae hbe
 refine enter aB Tryz.func68 (aV rfl) rfl rfl rfl ?_
 refine aG.mk _ _ (run_build90 _) ?_
 refine aG.box (bagC mZ mZ) rfl fun bb w1 n1=>?_
 have hbw:w.heap.size≤bb:=by rw[n1.b_eq];exact Nat.le_refl _
 have hE1:=n1.ext
 have hBag:Bag w1 w.heap.size bb [] []:=⟨⟨mZ,mZ,n1.blk,Vec.nil _ _ _ _,Vec.nil _ _ _ _⟩,hbw⟩
 refine aH.mk (X:=Nat × List Value) (fun x=>[(0,.slice o 2 c),(3,.pointer (some ⟨bb,0,none⟩)),(4,.int .i64 x.1)])
  (fun x w'=>Ext w w'∧Bag w' w.heap.size bb x.2 []∧((x.1=0∧x.2=[])∨(x.1=1∧x.2=[.slice oa (la.map Nd.cells).length ca])∨(x.1=2∧x.2=[.slice oa (la.map Nd.cells).length ca,.slice ob (lb.map Nd.cells).length cb]))) (fun x=>2-x.1) (0,[])
  ⟨hE1,hBag,.inl ⟨rfl,rfl⟩⟩ ⟨rfl,rfl,rfl,trivial⟩ ?_
 rintro⟨k,VN⟩ w2 ⟨hE2,hBag2,hcase⟩
 simp only at hBag2 hcase ⊢
 refine Cond.dec (fun g1=>?_) (fun g1=>?_)
 ·rcases hcase with ⟨rfl,rfl⟩|⟨rfl,rfl⟩|⟨rfl,rfl⟩
  ·obtain⟨a,ha,hc⟩:=(hls.ext hE2).el _ _ _ rfl 0 _ rfl
   refine Idx.mk a ha (by omega) (by omega) ?_
   refine Load.here (hc.one (k:=0) rfl) ?_
   refine aA.mk _ (sQ bb w.heap.size _ _ _ _ _ w2 hBag2 (by simp) hE2.sz) ?_
   rintro v w3 ⟨hB3,hC3⟩
   refine Ar.aM (1) (by omega) (by omega) ?_
   exact⟨(1,[.slice oa (la.map Nd.cells).length ca]),⟨hE2.cZ (hC3.below hE2.sz (fun k hk=>hk)) (Nat.le_refl _),hB3,.inr (.inl ⟨rfl,rfl⟩)⟩,by simp only;omega,rfl,rfl,rfl,trivial⟩
  ·obtain⟨a,ha,hc⟩:=(hls.ext hE2).el _ _ _ rfl 1 _ rfl
   refine Idx.mk a ha (by omega) (by omega) ?_
   refine Load.here (hc.one (k:=0) rfl) ?_
   refine aA.mk _ (sQ bb w.heap.size _ _ _ _ _ w2 hBag2 (by simp) hE2.sz) ?_
   rintro v w3 ⟨hB3,hC3⟩
   refine Ar.aM (2) (by omega) (by omega) ?_
   exact⟨(2,[.slice oa (la.map Nd.cells).length ca,.slice ob (lb.map Nd.cells).length cb]),⟨hE2.cZ (hC3.below hE2.sz (fun k hk=>hk)) (Nat.le_refl _),hB3,.inr (.inr ⟨rfl,rfl⟩)⟩,by simp only;omega,rfl,rfl,rfl,trivial⟩
  ·exact absurd g1 (by decide)
 ·rcases hcase with ⟨rfl,rfl⟩|⟨rfl,rfl⟩|⟨rfl,rfl⟩
  ·exact absurd (by decide) g1
  ·exact absurd (by decide) g1
  have hA2:=hA.ext hE2
  have hB2:=hB.ext hE2
  refine aA.mk _ (xS bb D w.heap.size _ _ (fun q=>if q=0 then la.length else lb.length) (fun _=>0) w2 hBag2 (by omega) (Nat.le_trans (by omega) hE2.sz) (fun q v hq=>?_) (fun i j u v hu hv hij g hg e=>?_) (by simp) (fun q=>?_) (fun q v hq=>by simp at hq) (fun i j u v hu=>by simp at hu) (by simp) (fun q=>Nat.zero_le _) (fun q v hq e=>?_) (fun q v hq=>by simp at hq)) ?_
  ·match q,hq with
   | 0,hq=>cases hq;exact⟨_,hA2,by simp⟩
   | 1,hq=>cases hq;exact⟨_,hB2.dJ hDK,by simp⟩
   | q+2,hq=>simp at hq
  ·match i,j,hu,hv,hij with
   | 0,0,_,_,hij=>exact hij rfl
   | 1,1,_,_,hij=>exact hij rfl
   | 0,1,hu,hv,_=>
     cases hu;cases hv
     have:=hKa g hg
     have:=(hB.ge e).1
     omega
   | 1,0,hu,hv,_=>
     cases hu;cases hv
     have:=hKa g e
     have:=(hB.ge hg).1
     omega
   | q+2,_,hu,_,_=>simp at hu
   | 0,q+2,_,hv,_=>simp at hv
   | 1,q+2,_,hv,_=>simp at hv
  ·show(if q=0 then la.length else lb.length)≤1000000
   split<;>omega
  ·match q,hq with
   | 0,hq=>cases hq;have:=(hA.ge e).2;omega
   | 1,hq=>cases hq;have:=(hB.ge e).2;omega
   | q+2,hq=>simp at hq
  rintro v w3 ⟨rfl,hC3⟩
  exact And.intro rfl ((Ch.aL hE2).trans hC3)
theorem run_buildNB(o o2:Option Addr)(n c n2 c2:Nat)(w:World):(Instr.buildSlice 44 2 #[(0,.slice o n c),(1,.slice o2 n2 c2)]).run Tryz.prog w=.ok (.slice (some ⟨w.heap.size,0,none⟩) 2 2) (w.alloc (.cells #[.slice o n c,.slice o2 n2 c2] 31)):=by kernel_rfl
theorem LP.ch{M:Nat→Prop}{w w':World}{B:Nat}{r:aR}{p:Pt}(h:LP w B r p)(hC:Ch M w w')(hM:∀g,B≤g→¬M g):LP w' B r p:=
 ⟨h.kind,h.target,h.text,h.nodes.ch hC fun g hg=>hM g (h.nodes.ge hg).1,h.wkind,h.wtarget,h.wtext⟩
theorem applyP_len{t:List Nd}{l:List Pt}:(bX t l).2.length≤16384:=by
 unfold bX
 simp only
 split
 ·simp
 ·split
  ·simp
  ·split
   ·simp
   ·split
    ·simp
    ·rename_i h
     exact(rE (Decidable.of_not_not h)).1
set_option maxHeartbeats 1600000 in
theorem tV(vt vl:Value)(t:List Nd)(l:List Pt)(w:World)(ht:aJ w vt t)(hl:PartsAt w vl l)(hG:jV w)(hg:nI t l=false)(hre:kG t l=bX t l)(hkt:eG t true=0→∀x∈t,1≤x.kind∧x.kind≤6) :
  bV Tryz.prog 23 #[vt,vl] w (fun v w'=>v=.bool true∧Ext w w'):=by
 have hml:maxLen=9223372036854775807:=rfl
 obtain⟨b1,b2,b3⟩:=not_great hg
 have hnl6:∀p∈l,p.nodes.length≤1000000:=fun p hp=>Nat.le_trans (b3 p hp) (by decide)
 have hnl5:∀p∈l,p.nodes.length≤100000:=fun p hp=>Nat.le_trans (b3 p hp) (by decide)
 refine enter aB Tryz.func23 (aV rfl) rfl rfl rfl ?_
 refine aA.mk _ (great_con vt vl t l w ht hl) ?_
 rintro v w1 ⟨rfl,hE1⟩
 rw[hg]
 refine Cond.no ?_
 refine aA.mk _ (qN vt t w1 (ht.ext hE1) (by omega)) ?_
 rintro vx w2 ⟨hX,hE2⟩
 have hE02:=hE1.trans hE2
 refine aA.mk _ (qO vl l w2 (hl.ext hE02) (by omega) hnl6) ?_
 rintro vy w3 ⟨rs,hL,hE3⟩
 have hE03:=hE02.trans hE3
 have hX3:=hX.ext hE3
 refine aA.mk _ (rC vx vy t l w3 hX3.nodes (hL.parts (by omega)) (hG.ext hE03) hnl5) ?_
 rintro v w4 ⟨va,rfl,hVa,hNa,hE4⟩
 have hE04:=hE03.trans hE4
 refine aA.mk _ (rC vx vy t l w4 (hX3.ext hE4).nodes ((hL.ext hE4).parts (by omega)) (hG.ext hE04) hnl5) ?_
 rintro v w5 ⟨vb,rfl,hVb,hNb,hE5⟩
 have hE05:=hE04.trans hE5
 have hE35:=hE4.trans hE5
 refine aA.mk _ (qL vx vt t _ w5 (hX3.ext hE35) (ht.ext hE05) (by omega)) ?_
 rintro v w6 ⟨rfl,hE6⟩
 have hE06:=hE05.trans hE6
 have hE36:=hE35.trans hE6
 repeat (first|refine gA ?_|refine gB ?_|refine gC ?_)
 refine aA.mk _ (qM vy vl rs l _ w6 (hL.ext hE36) (hl.ext hE06) (by omega) hnl6) ?_
 rintro v w7 ⟨rfl,hE7⟩
 have hE07:=hE06.trans hE7
 have hE37:=hE36.trans hE7
 repeat (first|refine gA ?_|refine gB ?_|refine gC ?_)
 refine Cond.no ?_
 have z1:=hE1.sz
 have z2:=hE2.sz
 have z3:=hE3.sz
 have z4:=hE4.sz
 have z5:=hE5.sz
 have z6:=hE6.sz
 have z7:=hE7.sz
 have hxo:∀g,vx.ownBlock=some g→w1.heap.size≤g∧g<w2.heap.size:=fun g hg=>hX.ge hg
 refine aA.mk _ (vZ vx t _ w7 (hX3.ext hE37) (by omega)) ?_
 rintro vu w8 hC8
 have hE08:Ext w w8:=hE07.cZ (hC8.below (B:=w1.heap.size) (by omega) (fun k hk=>(hxo k hk).1)) z1
 have z8:=hC8.size
 have hL8:tZ w8 w2.heap.size vy rs l:=by
  have h7:=hL.ext hE37
  obtain⟨oi,ci,e,hx⟩:=h7.ex
  have hne:∀g,w2.heap.size≤g→¬vx.ownBlock=some g:=fun g hg e=>by have:=(hxo g e).2;omega
  exact⟨⟨oi,ci,e,hC8.vec hx fun g hg=>hne g (hx.ge hg).1⟩,h7.len,fun i r p h1 h2=>(h7.el i r p h1 h2).ch hC8 hne,h7.dif⟩
 refine aA.mk _ (wD vy rs l _ w3.heap.size w8 hL8 (by omega) hnl6 (fun g hg=>?_) (fun i r hr g hg=>?_)) ?_
 ·obtain⟨oi,ci,rfl,hx⟩:=hL.ex
  exact(hx.ge (by rw[oL oi _ l.length];exact hg)).2
 ·have hi:=(List.getElem?_eq_some_iff.1 hr).1
  exact((hL.el i r _ hr (List.getElem?_eq_getElem (by have:=hL.len;omega))).nodes.ge hg).2
 rintro vu2 w9 hC9
 have z9:=hC9.size
 have hE09:Ext w w9:=hE08.cZ (hC9.below (B:=w2.heap.size) (by omega) (fun k hk=>hk.1)) (by omega)
 have hVa9:Vec w9 w3.heap.size 50 4 va ((bX t l).2.map Nd.cells):=hC9.vec (hC8.vec (((hVa.ext hE5).ext hE6).ext hE7) fun g hg e=>by
  have:=(hVa.ge hg).1
  have:=(hxo g e).2
  omega) fun g hg e=>by
  have:=(hVa.ge hg).1
  have:=e.2
  omega
 have hVb9:Vec w9 w4.heap.size 50 4 vb ((bX t l).2.map Nd.cells):=hC9.vec (hC8.vec ((hVb.ext hE6).ext hE7) fun g hg e=>by
  have:=(hVb.ge hg).1
  have:=(hxo g e).2
  omega) fun g hg e=>by
  have:=(hVb.ge hg).1
  have:=e.2
  omega
 refine aA.mk _ (rApply_con vt vl t l w9 (ht.ext hE09) (hl.ext hE09) (by omega) b3 hkt) ?_
 rintro v w10 ⟨vc,rfl,hVc,hNc,hE10⟩
 rw[hre]at hNc ⊢
 have hal:=applyP_len (t:=t) (l:=l)
 generalize bX t l=ap at *
 have hE010:=hE09.trans hE10
 have hNa10:aJ w10 va ap.2:=(hVa9.ext hE10).nodes hNa.wf hNa.len
 have hNb10:aJ w10 vb ap.2:=(hVb9.ext hE10).nodes hNa.wf hNa.len
 refine aA.mk _ (qP hNa10 hNc) ?_
 rintro v w11 ⟨hv,hE11⟩
 rw[decide_eq_true rfl]at hv
 subst hv
 repeat (first|refine gA ?_|refine gB ?_|refine gC ?_)
 refine aA.mk _ (qP (hNb10.ext hE11) (hNc.ext hE11)) ?_
 rintro v w12 ⟨hv,hE12⟩
 rw[decide_eq_true rfl]at hv
 subst hv
 have hE012:=(hE010.trans hE11).trans hE12
 have hE912:=(hE10.trans hE11).trans hE12
 repeat' (first
  | refine gA ?_|refine gB ?_|refine gC ?_|refine Cond.yes ?_|refine Cond.no ?_|refine aK.bB (fun _=>?_) (fun g=>absurd (by omega) g)|refine aK.bB (fun g=>absurd g (by omega)) (fun _=>?_)|refine aK.bH (fun _=>?_) (fun g=>absurd g (by omega))|refine aK.bH (fun g=>absurd (by omega) g) (fun _=>?_)|refine aK.bP (fun _=>?_) (fun g=>absurd (by omega) g)|refine aK.bP (fun g=>absurd g (by omega)) (fun _=>?_)|refine aK.bU (fun _=>?_) (fun g=>absurd g (by omega))|refine aK.bU (fun g=>absurd (by omega) g) (fun _=>?_)|refine Cond.dec (fun _=>?_) (fun g=>absurd (by omega) g)|refine Cond.dec (fun g=>absurd g (by omega)) (fun _=>?_)|refine Cond.dH (fun _=>?_) (fun g=>absurd g (by omega))|refine Cond.dH (fun g=>absurd (by omega) g) (fun _=>?_))
 have hVa12:=hVa9.ext hE912
 have hVb12:=hVb9.ext hE912
 obtain⟨oa,ca,hae,-,-,-,-,-⟩:=hVa12.shape
 obtain⟨ob,cb,hbe,-,-,-,-,-⟩:=hVb12.shape
 subst hae hbe
 refine aG.mk _ _ (run_buildNB _ _ _ _ _ _ _) ?_
 obtain⟨wA,hwA⟩:∃w',w'=w12.alloc (.cells #[.slice oa (ap.2.map Nd.cells).length ca,.slice ob (ap.2.map Nd.cells).length cb] 31):=⟨_,rfl⟩
 have nA:bO w12 w12.heap.size [.slice oa (ap.2.map Nd.cells).length ca,.slice ob (ap.2.map Nd.cells).length cb] 31 wA:=⟨rfl,hwA⟩
 rw[←hwA]
 repeat (first|refine gA ?_|refine gB ?_|refine gC ?_)
 have hsl:=(Vec.wM (B:=0) (xs:=gP [.slice oa (ap.2.map Nd.cells).length ca,.slice ob (ap.2.map Nd.cells).length cb]) (sz:=1) nA rfl (fun x hx=>by
  obtain⟨v,-,rfl⟩:=List.mem_map.1 hx
  rfl) (by simp[gP];omega) (Nat.zero_le _)).sl
 have z12:=hE912.sz
 have zA:=nA.ext.sz
 refine aA.mk _ (ApartNodes_con wA w3.heap.size w4.heap.size _ _ ap.2 ap.2 (some ⟨w12.heap.size,0,none⟩) 2 hsl (hVa12.ext nA.ext) (hVb12.ext nA.ext) z4 (by omega) (fun g hg=>(hVa.ge hg).2) (by omega) (by omega)) ?_
 rintro v wB ⟨rfl,hCB⟩
 repeat (first|refine gA ?_|refine gB ?_|refine gC ?_)
 have hE0B:Ext w wB:=(hE012.trans nA.ext).cZ (hCB.below (B:=w3.heap.size) (by omega) (fun k hk=>hk)) (by omega)
 refine aA.mk _ (rF wB (hG.ext hE0B)) ?_
 rintro v wC ⟨rfl,hEC⟩
 exact And.intro rfl (hE0B.trans hEC)
set_option maxHeartbeats 1600000 in
theorem Checks_con(vt vl:Value)(t:List Nd)(l:List Pt)(w:World)(ht:aJ w vt t)(hl:PartsAt w vl l)(hG:jV w)(hg:nI t l=false)(hkt:eG t true=0→∀x∈t,1≤x.kind∧x.kind≤6) :
  bV Tryz.prog 24 #[vt,vl] w (fun v w'=>v=.bool true∧Ext w w'):=by
 have hml:maxLen=9223372036854775807:=rfl
 obtain⟨b1,b2,b3⟩:=not_great hg
 have hnl6:∀p∈l,p.nodes.length≤1000000:=fun p hp=>Nat.le_trans (b3 p hp) (by decide)
 have hnl9:∀p∈l,p.nodes.length≤1000000000:=fun p hp=>Nat.le_trans (b3 p hp) (by decide)
 refine enter aB Tryz.func24 (aV rfl) rfl rfl rfl ?_
 refine aA.mk _ (great_con vt vl t l w ht hl) ?_
 rintro v w1 ⟨rfl,hE1⟩
 rw[hg]
 refine Cond.no ?_
 refine aA.mk _ (qN vt t w1 (ht.ext hE1) (by omega)) ?_
 rintro vx w2 ⟨hX,hE2⟩
 have hE02:=hE1.trans hE2
 refine aA.mk _ (qO vl l w2 (hl.ext hE02) (by omega) hnl6) ?_
 rintro vy w3 ⟨rs,hL,hE3⟩
 have hE03:=hE02.trans hE3
 have hX3:=hX.ext hE3
 refine aA.mk _ (PCheck_con vx vy t l w3 hX3.nodes (hL.parts (by omega)) (hG.ext hE03)) ?_
 rintro v w4 ⟨rfl,hE4⟩
 have hE04:=hE03.trans hE4
 refine aA.mk _ (yL vt vl t l w4 (ht.ext hE04) (hl.ext hE04) hkt hnl9) ?_
 rintro v w5 ⟨rfl,hE5⟩
 have hE05:=hE04.trans hE5
 have hE35:=hE4.trans hE5
 repeat' (first
  | refine gA ?_|refine gB ?_|refine gC ?_|refine Cond.yes ?_|refine Cond.no ?_|refine aK.bB (fun _=>?_) (fun g=>absurd (by omega) g)|refine aK.bB (fun g=>absurd g (by omega)) (fun _=>?_)|refine aK.bH (fun _=>?_) (fun g=>absurd g (by omega))|refine aK.bH (fun g=>absurd (by omega) g) (fun _=>?_)|refine aK.bP (fun _=>?_) (fun g=>absurd (by omega) g)|refine aK.bP (fun g=>absurd g (by omega)) (fun _=>?_)|refine aK.bU (fun _=>?_) (fun g=>absurd g (by omega))|refine aK.bU (fun g=>absurd (by omega) g) (fun _=>?_)|refine Cond.dec (fun _=>?_) (fun g=>absurd (by omega) g)|refine Cond.dec (fun g=>absurd g (by omega)) (fun _=>?_)|refine Cond.dH (fun _=>?_) (fun g=>absurd g (by omega))|refine Cond.dH (fun g=>absurd (by omega) g) (fun _=>?_))
 refine aA.mk _ (qL vx vt t _ w5 (hX3.ext hE35) (ht.ext hE05) (by omega)) ?_
 rintro v w6 ⟨rfl,hE6⟩
 have hE06:=hE05.trans hE6
 repeat (first|refine gA ?_|refine gB ?_|refine gC ?_)
 refine aA.mk _ (qM vy vl rs l _ w6 (hL.ext (hE35.trans hE6)) (hl.ext hE06) (by omega) hnl6) ?_
 rintro v w7 ⟨rfl,hE7⟩
 have hE07:=hE06.trans hE7
 repeat (first|refine gA ?_|refine gB ?_|refine gC ?_)
 refine aA.mk _ (rF w7 (hG.ext hE07)) ?_
 rintro v w8 ⟨rfl,hE8⟩
 exact And.intro rfl (hE07.trans hE8)
def elE(p:Int):Nd:=⟨2,⟨#[101]⟩,⟨#[]⟩,p⟩
def j6(n:Nat):List Nd:=List.replicate n (elE (-1))
theorem yQ(n:Nat):(j6 n).length=n:=List.length_replicate ..
theorem open_top{t:List Nd}{i:Nat}(hi:i<t.length)(h:∀x∈t,x.parent=-1):fB t i=true:=by
 have hp:∀j (hj:j<t.length),(nd t (j:Int)).parent=-1:=fun j hj=>by rw[eT hj];exact h _ (List.getElem_mem hj)
 unfold fB
 rw[hp i hi,decide_eq_true_eq]
 cases i with
 | zero=>rfl
 | succ i=>
   rw[show((i+1:Nat):Int)-1=(i:Int)by omega]
   simp only[chase]
   rw[if_pos ⟨by omega,by omega⟩,hp i (by omega)]
   exact chase_neg _ _ _ _ (by omega)
theorem rule_el:¬fC 2=kZ:=by decide
theorem rule_tx:¬fC 4=kZ:=by decide
theorem frag_top{t:List Nd}(h:∀x∈t,x.parent=-1)(hk:∀i (hi:i<t.length),((nd t (i:Int)).kind=2∨((nd t (i:Int)).kind=4∧(i=0∨(nd t ((i:Int)-1)).kind=2)))∧rM t (nd t (i:Int))=true)(hl:t.length≤16384):eG t false=0:=by
 have run:∀k,k≤t.length→∃s,gW t false k=some s∧s.deep.length=t.length∧(∀j,k≤j→s.deep.getD j 0=0)∧s.deepest≤1∧s.top=(k:Int)-1:=by
  intro k
  induction k with
  | zero=>exact fun _=>⟨_,rfl,by simp[lX],fun j _=>by simp[lX,List.getD_eq_getElem?_getD,List.getElem?_replicate];split<;>rfl,by simp[lX],rfl⟩
  | succ k ih=>
    intro hk1
    obtain⟨s,h1,h2,h3,h4,h5⟩:=ih (by omega)
    obtain⟨hkk,hhd⟩:=hk k (by omega)
    have hpar:(nd t (k:Int)).parent=-1:=by rw[eT (by omega)];exact h _ (List.getElem_mem _)
    have ho:=open_top (t:=t) (i:=k) (by omega) h
    have hf:kN t (s.last.set k (-1)) s.top k=true:=by
     unfold kN
     simp only
     rw[hhd]
     rcases hkk with e|⟨e,e2⟩
     ·rw[e,decide_eq_true (show(2:Int)<7 by decide),decide_eq_false rule_el]
      unfold iP
      rw[e]
      rfl
     ·rw[e,decide_eq_true (show(4:Int)<7 by decide),decide_eq_false rule_tx]
      unfold iP lT
      rw[e,hpar,if_neg (by decide),if_pos rfl,if_neg (by decide),h5]
      rcases e2 with e2|e2
      ·rw[e2];rfl
      ·rw[e2];simp
    have hs:iC t false s k=some (aD s (s.last.set k (-1)) (nd t (k:Int)) k):=by
     unfold iC
     simp only
     rw[if_neg (by rw[ho];simp),if_neg (by simp),if_neg (by simp),if_neg (by rw[hf];simp)]
    refine⟨_,by simp only[gW,h1,Option.bind_some];exact hs,?_⟩
    have h3k:=h3 k (Nat.le_refl _)
    rcases hkk with e|⟨e,-⟩
    ·have hn:aD s (s.last.set k (-1)) (nd t (k:Int)) k=⟨s.deep.set k 1,s.last.set k (-1),k,s.elements,max s.deepest ((s.deep.set k 1).getD k 0)⟩:=by
      simp only[aD,hpar,e,h3k,Int.reduceNeg,Int.reduceLE,Int.reduceLT,Int.reduceEq,reduceIte,and_false,Int.reduceAdd]
     rw[hn]
     refine⟨by simp[h2],fun j hj=>?_,?_,?_⟩
     ·simp only
      rw[getD_set_ne (by omega)]
      exact h3 j (by omega)
     ·simp only
      rw[dV (by omega)]
      omega
     ·simp only
      omega
    ·have hn:aD s (s.last.set k (-1)) (nd t (k:Int)) k=⟨s.deep,s.last.set k (-1),k,s.elements,s.deepest⟩:=by
      simp only[aD,hpar,e,Int.reduceNeg,Int.reduceLE,Int.reduceLT,Int.reduceEq,reduceIte,and_false]
     rw[hn]
     exact⟨h2,fun j hj=>h3 j (by omega),h4,by simp only;omega⟩
 obtain⟨s,h1,-,-,h4,-⟩:=run t.length (Nat.le_refl _)
 unfold eG
 rw[if_neg (by omega),h1]
 simp only
 rw[if_neg (by simp),if_neg (by omega)]
theorem nameE:dW ⟨#[101]⟩=true:=by kernel_rfl
theorem nameBb:dW ⟨#[98]⟩=true:=by kernel_rfl
theorem nameA:dW ⟨#[97]⟩=true:=by kernel_rfl
theorem nameZ:dW ⟨#[]⟩=false:=by kernel_rfl
theorem textsZ:gU ⟨#[]⟩=true:=by kernel_rfl
theorem textsX:gU ⟨#[120]⟩=true:=by kernel_rfl
theorem textsM:gU ⟨#[33]⟩=true:=by kernel_rfl
theorem rule2E:fC 2=⟨true,false,false,true,true,true⟩:=rfl
theorem rule4E:fC 4=⟨false,true,true,true,false,true⟩:=rfl
theorem head_el(t:List Nd)(s:ByteArray)(p:Int)(hs:dW s=true)(hp:p<0∨(nd t p).kind=1∨(nd t p).kind=2):rM t ⟨2,s,⟨#[]⟩,p⟩=true:=by
 have hw:iA ⟨true,false,false,true,true,true⟩ t p=true:=by
  unfold iA
  rcases hp with h|h|h
  ·rw[if_pos h]
  ·rw[if_pos h];split<;>rfl
  ·rw[h];split<;>rfl
 unfold rM
 simp only
 rw[rule2E,hs,textsZ,hw]
 rfl
theorem head_tx(t:List Nd)(s:ByteArray)(p:Int)(hs:gU s=true)(h0:¬s=aP)(hz:s.size≤65536)(hp:p<0∨(nd t p).kind=2):rM t ⟨4,⟨#[]⟩,s,p⟩=true:=by
 have hw:iA ⟨false,true,true,true,false,true⟩ t p=true:=by
  unfold iA
  rcases hp with h|h
  ·rw[if_pos h]
  ·rw[h];split<;>rfl
 unfold rM
 simp only
 rw[rule4E,nameZ,hs,hw,decide_eq_false h0,decide_eq_false (show ¬65536<s.size by omega)]
 rfl
theorem nd_app1{a b:List Nd}{i:Nat}(h:i<a.length):nd (a++b) (i:Int)=nd a (i:Int):=by
 rw[eT h,eT (by rw[List.length_append];omega),List.getElem_append_left h]
theorem yE(a b:List Nd)(i:Nat):nd (a++b) ((a.length+i:Nat):Int)=nd b (i:Int):=by
 unfold nd
 rw[List.getD_eq_getElem?_getD,List.getD_eq_getElem?_getD,Int.toNat_natCast,Int.toNat_natCast,List.getElem?_append_right (by omega)]
 congr 2
 omega
theorem nd_rep{n i:Nat}(x:Nd)(h:i<n):nd (List.replicate n x) (i:Int)=x:=by
 rw[eT (by simpa using h),List.getElem_replicate]
theorem rest_self{l:List Nd}(h:∀x∈l,x.parent=-1):(l.map (aS 0)=l)∧iE l=(l.drop (bR l)):=by
 have hs:∀(d:Int) (l:List Nd),(∀x∈l,x.parent=-1)→l.map (aS d)=l:=fun d l h=>by
  conv=>rhs;rw[←List.map_id l]
  refine List.map_congr_left fun x hx=>?_
  unfold aS
  rw[if_neg (by rw[h x hx];decide)]
  rfl
 exact⟨hs 0 l h,hs _ _ fun x hx=>h x (List.mem_of_mem_drop hx)⟩
theorem split_top{l:List Nd}(h:∀x∈l,x.parent=-1)(h0:bR l=0)(ha:eG l false=0):aU l=true∧bL l=[]∧bC l=l:=by
 have hr:iE l=l:=by rw[(rest_self h).2,h0];rfl
 have h1:iD l=true:=by unfold iD;rw[h0];rfl
 have h2:gI l=true:=by
  unfold gI
  rw[h0,List.all_eq_true]
  intro x hx
  rw[h x (List.mem_of_mem_drop hx)]
  rfl
 unfold aU bL bC
 rw[h1,h2,hr,h0,ha]
 exact⟨rfl,rfl,rfl⟩
def fZ(n:Nat)(b:Bool):List Nd:=j6 n++(if b then kS ⟨#[33]⟩else [])
theorem vJ(n:Nat)(b:Bool):(fZ n b).length=n+(if b then 1 else 0):=by
 unfold fZ j6
 rw[List.length_append,List.length_replicate]
 cases b<;>rfl
theorem rP(n:Nat)(b:Bool):∀x∈fZ n b,x.parent=-1:=fun x hx=>by
 unfold fZ j6 at hx
 rcases List.mem_append.1 hx with hx|hx
 ·rw[List.eq_of_mem_replicate hx];rfl
 ·cases b with
  | true=>rw[List.mem_singleton.1 hx]
  | false=>cases hx
theorem longE_kind(n:Nat)(b:Bool):∀x∈fZ n b,x.kind=2∨x.kind=4:=fun x hx=>by
 unfold fZ j6 at hx
 rcases List.mem_append.1 hx with hx|hx
 ·rw[List.eq_of_mem_replicate hx];exact .inl rfl
 ·cases b with
  | true=>rw[List.mem_singleton.1 hx];exact .inr rfl
  | false=>cases hx
theorem longE_nd{n:Nat}{b:Bool}{i:Nat}(h:i<n):nd (fZ n b) (i:Int)=elE (-1):=by
 unfold fZ j6
 rw[nd_app1 (by simpa using h),nd_rep _ h]
theorem longE_last(n:Nat):nd (fZ n true) (n:Int)=⟨4,⟨#[]⟩,⟨#[33]⟩,-1⟩:=by
 have:=yE (j6 n) (kS ⟨#[33]⟩) 0
 rw[show(j6 n).length=n by simp[j6]]at this
 exact this
theorem longE_frag{n:Nat}{b:Bool}(hn:n<16384):eG (fZ n b) false=0:=by
 have hl:=vJ n b
 refine frag_top (rP n b) (fun i hi=>?_) (by rw[hl];split<;>omega)
 rw[hl]at hi
 by_cases h:i<n
 ·rw[longE_nd h]
  exact⟨.inl rfl,head_el _ _ _ nameE (.inl (by decide))⟩
 ·cases b with
  | false=>simp at hi;omega
  | true=>
    have:i=n:=by simp at hi;omega
    subst this
    rw[longE_last]
    refine⟨.inr ⟨rfl,?_⟩,head_tx _ _ _ textsM (by decide) (by decide) (.inl (by decide))⟩
    cases i with
    | zero=>exact .inl rfl
    | succ m=>
      right
      rw[show((m+1:Nat):Int)-1=(m:Int)by omega,longE_nd (by omega)]
      rfl
theorem longE_head{n:Nat}(b:Bool):bR (fZ (n+1) b)=0:=by
 unfold bR fZ j6
 rw[List.replicate_succ,List.cons_append,List.takeWhile_cons]
 rfl
def iW(n:Nat)(b:Bool):Pt:=⟨6,1,⟨#[]⟩,fZ n b⟩
theorem longE_split{n:Nat}(b:Bool)(hn:n+1<16384):aU (fZ (n+1) b)=true∧bL (fZ (n+1) b)=[]∧bC (fZ (n+1) b)=fZ (n+1) b:=
 split_top (rP _ _) (longE_head b) (longE_frag hn)
theorem checkE{n:Nat}(b:Bool)(hn:n+1<16384):dU dG [iW (n+1) b]=0:=by
 have hal:iL (iW (n+1) b)=true:=by
  unfold iL iW
  simp only
  rw[(longE_split b hn).1]
  rfl
 have hai:jA dG (iW (n+1) b)=true:=rfl
 have hbe:dM (nd dG 1) (iW (n+1) b)=true:=rfl
 have hpe:bZ dG (iW (n+1) b)=0:=by
  unfold bZ
  rw[if_neg (by rw[hal];simp),if_neg (by rw[hai];simp),if_neg (by rw[show(iW (n+1) b).target=1 from rfl,hbe];simp)]
 have hsm:eG dG true=0:=by kernel_rfl
 unfold dU
 rw[if_neg (by rw[hsm];decide),if_neg (by simp)]
 simp only[bY,hpe]
 rfl
theorem mergeE{n:Nat}(b:Bool)(hn:n+1<16384):dA [iW (n+1) b]=[iW (n+1) b]:=by
 obtain⟨h1,h2,h3⟩:=longE_split b hn
 have hj:bJ [iW (n+1) b]=fZ (n+1) b:=by
  unfold bJ fA
  simp only[List.map_cons,List.map_nil,List.flatten_cons,List.flatten_nil,fH]
  rw[show(iW (n+1) b).nodes=fZ (n+1) b from rfl,h2,h3]
  simp only[List.nil_append,List.append_nil,List.length_nil]
  rw[show((0:Nat):Int)=0 from rfl,(rest_self (rP _ _)).1,(rest_self (rP _ _)).1]
 unfold dA
 rw[if_pos (by simp only[List.all_cons,List.all_nil,Bool.and_true];exact h1)]
 show([dP [iW (n+1) b]]:List (List Pt)).flatten=_
 simp only[dP]
 rw[show gZ (iW (n+1) b).kind=false from rfl,if_neg (by decide),if_neg (show ¬(iW (n+1) b).kind=10 from fun h=>absurd (show(6:Int)=10 from h) (by decide)),hj]
 rfl
theorem apRun_tops{n0:Nat}:∀(l:List Nd) (S:List PN) (a k:List Nat),(∀x∈l,x.parent<0∧x.kind≠3)→fF n0 ⟨S,a,k⟩ l=⟨S++l.map (fun x=>⟨x,none,[],[]⟩),a,k++List.range' S.length l.length⟩
 | [],S,a,k,_=>by simp[fF]
 | x::r,S,a,k,h=>by
   have h1:=h x List.mem_cons_self
   have hs:cK n0 ⟨S,a,k⟩ x=⟨S++[⟨x,none,[],[]⟩],a,k++[S.length]⟩:=by
    unfold cK
    simp only
    rw[if_neg (by omega),if_neg h1.2]
   have:=apRun_tops (n0:=n0) r (S++[⟨x,none,[],[]⟩]) a (k++[S.length]) fun y hy=>h y (List.mem_cons_of_mem _ hy)
   show fF n0 (cK n0 ⟨S,a,k⟩ x) r=_
   rw[hs,this]
   simp[List.range'_succ]
def S0E:List PN:=[⟨⟨1,⟨#[]⟩,⟨#[]⟩,-1⟩,none,[],[1]⟩,⟨⟨2,⟨#[97]⟩,⟨#[]⟩,0⟩,some 0,[],[2,3]⟩,⟨⟨2,⟨#[98]⟩,⟨#[]⟩,1⟩,some 1,[],[]⟩,⟨⟨4,⟨#[]⟩,⟨#[120]⟩,1⟩,some 1,[],[]⟩]
theorem S0E_eq:(dI [] dG).S=S0E:=by kernel_rfl
theorem tgL_leaf(F:Nat→Int→Nat→List Nd)(par:Nat)(g:Nat→Nd):∀(l:List Nat) (pos:Nat),(∀j∈l,∀pos,F j par pos=[g j])→nC F par pos l=l.map g
 | [],_,_=>rfl
 | j::r,pos,h=>by
   simp only[nC,List.map_cons]
   rw[h j List.mem_cons_self,tgL_leaf F par g r _ fun i hi=>h i (List.mem_cons_of_mem _ hi)]
   rfl
theorem tg_some{S:List PN}{i n:Nat}{s:PN}(h:S[i]? = some s)(par:Int)(pos:Nat):tg S (n+1) i par pos=withParent s.row par::nC (tg S n) pos (pos+1) (s.attrs++s.kids):=by simp only[tg,h]
theorem tg_one{S:List PN}{j n:Nat}{s:PN}(h:S[j]? = some s)(ha:s.attrs=[])(hk:s.kids=[])(par:Int)(pos:Nat):tg S (n+1) j par pos=[withParent s.row par]:=by
 simp only[tg,h,ha,hk,List.append_nil,nC]
theorem tw_one{S:List PN}{j:Nat}{s:PN}(h:S[j]? = some s)(ha:s.attrs=[])(hk:s.kids=[])(n:Nat):twB S n j=false:=by
 cases n with
 | zero=>rfl
 | succ n=>simp only[twB,h,ha,hk];rfl
def lC(l:List Nd):List Nd:=[⟨1,⟨#[]⟩,⟨#[]⟩,-1⟩,⟨2,⟨#[97]⟩,⟨#[]⟩,0⟩]++(l.map (fun x=>withParent x 1)++[⟨2,⟨#[98]⟩,⟨#[]⟩,1⟩,⟨4,⟨#[]⟩,⟨#[120]⟩,1⟩])
theorem doE(l:List Nd)(h:∀x∈l,x.parent<0∧x.kind≠3)(tx:ByteArray):dF (tQ S0E ⟨6,1,tx,l⟩ 1)=lC l∧twB (tQ S0E ⟨6,1,tx,l⟩ 1) (tQ S0E ⟨6,1,tx,l⟩ 1).length 0=false:=by
 have hap:dI S0E l=⟨S0E++l.map (fun x=>⟨x,none,[],[]⟩),[],List.range' 4 l.length⟩:=apRun_tops l S0E [] [] h
 obtain⟨kd,hkd⟩:∃kd,kd=List.range' 4 l.length:=⟨_,rfl⟩
 obtain⟨S1,hS1⟩:∃S1:List PN,S1=S0E++l.map (fun x=>⟨x,none,[],[]⟩):=⟨_,rfl⟩
 have hdo:tQ S0E ⟨6,1,tx,l⟩ 1=dR (bE S1 1 kd) 1 fun s=>iG s [] kd:=by
  unfold tQ
  simp only
  rw[if_neg (by decide),if_pos trivial,hap,hS1,hkd]
  rfl
 have hl1:S1.length=4+l.length:=by rw[hS1,List.length_append,List.length_map];rfl
 have hget:∀(i:Nat) (s:PN),S1[i]? = some s→∃s1,(bE S1 1 kd)[i]? = some s1∧s1.row=s.row∧s1.attrs=s.attrs∧s1.kids=s.kids:=fun i s hs=>by
  obtain⟨s1,a,b,c,d,-⟩:=gY (u:=1) (l:=kd) hs
  exact⟨s1,a,b,c,d⟩
 have hS1i:∀i,i<4→S1[i]? = S0E[i]? := fun i hi=>by rw[hS1,List.getElem?_append_left (by exact hi)]
 have hS1l:∀i (hi:i<l.length),S1[4+i]? = some ⟨l[i],none,[],[]⟩:=fun i hi=>by
  rw[hS1,List.getElem?_append_right (by show 4≤4+i;omega),show 4+i-S0E.length=i by show 4+i-4=i;omega,List.getElem?_map,List.getElem?_eq_getElem hi]
  rfl
 obtain⟨s1,h1,h1r,h1a,h1k⟩:=hget 1 _ (hS1i 1 (by decide))
 have hset:tQ S0E ⟨6,1,tx,l⟩ 1=(bE S1 1 kd).set 1 (iG s1 [] kd):=by
  rw[hdo]
  unfold dR
  rw[h1]
 obtain⟨S,hS⟩:∃S,S=(bE S1 1 kd).set 1 (iG s1 [] kd):=⟨_,rfl⟩
 rw[hset,←hS]
 have hSl:S.length=4+l.length:=by rw[hS,List.length_set,aZ,hl1]
 have hS1':S[1]? = some (iG s1 [] kd):=by
  rw[hS,List.getElem?_set_self (by rw[aZ,hl1];omega)]
 have hSo:∀i,i≠1→S[i]? = (bE S1 1 kd)[i]? := fun i hi=>by rw[hS,List.getElem?_set_ne (Ne.symm hi)]
 obtain⟨s0,h0,h0r,h0a,h0k⟩:=hget 0 _ (hS1i 0 (by decide))
 obtain⟨s2,h2,h2r,h2a,h2k⟩:=hget 2 _ (hS1i 2 (by decide))
 obtain⟨s3,h3,h3r,h3a,h3k⟩:=hget 3 _ (hS1i 3 (by decide))
 rw[←hSo 0 (by decide)]at h0
 rw[←hSo 2 (by decide)]at h2
 rw[←hSo 3 (by decide)]at h3
 have hkids:(iG s1 [] kd).kids=kd++[2,3]:=congrArg (kd++·) h1k
 have hatt:(iG s1 [] kd).attrs=[]:=(List.append_nil _).trans h1a
 have hleaf:∀j∈kd++[2,3],∃s,S[j]? = some s∧s.attrs=[]∧s.kids=[]∧s.row=(if j=2 then(⟨2,⟨#[98]⟩,⟨#[]⟩,1⟩:Nd)else if j=3 then⟨4,⟨#[]⟩,⟨#[120]⟩,1⟩else l.getD (j-4) nd0):=fun j hj=>by
  rcases List.mem_append.1 hj with hj|hj
  ·rw[hkd,List.mem_range']at hj
   obtain⟨i,hi,rfl⟩:=hj
   rw[Nat.one_mul]
   obtain⟨s,a,b,c,d⟩:=hget (4+i) _ (hS1l i hi)
   rw[←hSo _ (by omega)]at a
   refine⟨s,a,c,d,?_⟩
   rw[b,if_neg (by omega),if_neg (by omega),show 4+i-4=i by omega,List.getD_eq_getElem?_getD,List.getElem?_eq_getElem hi]
   rfl
  ·simp only[List.mem_cons,List.not_mem_nil,or_false]at hj
   rcases hj with rfl|rfl
   ·exact⟨s2,h2,h2a,h2k,h2r⟩
   ·exact⟨s3,h3,h3a,h3k,h3r⟩
 obtain⟨m,hm⟩:∃m,S.length=m+1+1+1:=⟨l.length+1,by omega⟩
 have hsl:s0.attrs++s0.kids=[1]:=by rw[h0a,h0k];rfl
 constructor
 ·unfold dF
  rw[hm,tg_some h0,hsl]
  simp only[nC]
  rw[tg_some hS1',hatt,hkids,List.nil_append,List.append_nil,tgL_leaf _ _ (fun j=>withParent (if j=2 then(⟨2,⟨#[98]⟩,⟨#[]⟩,1⟩:Nd)else if j=3 then⟨4,⟨#[]⟩,⟨#[120]⟩,1⟩else l.getD (j-4) nd0) 1) _ _ fun j hj pos=>by
   obtain⟨s,a,b,c,d⟩:=hleaf j hj
   rw[tg_one a b c,d]
   rfl]
  have hk:kd.map (fun j=>withParent (if j=2 then(⟨2,⟨#[98]⟩,⟨#[]⟩,1⟩:Nd)else if j=3 then⟨4,⟨#[]⟩,⟨#[120]⟩,1⟩else l.getD (j-4) nd0) 1)=l.map (fun x=>withParent x 1):=by
   rw[hkd]
   refine List.ext_getElem (by simp) fun i h1 h2=>?_
   rw[List.getElem_map,List.getElem_map,List.getElem_range',Nat.one_mul,if_neg (by omega),if_neg (by omega),show 4+i-4=i by omega,List.getD_eq_getElem?_getD,List.getElem?_eq_getElem (by simpa using h2)]
   rfl
  unfold lC
  rw[h0r,List.map_append,show(iG s1 [] kd).row=s1.row from rfl,h1r,hk]
  rfl
 ·rw[hm]
  have e1:∀m,twB S (m+1) 1=false:=fun m=>by
   have hs:twB S (m+1) 1=(dupF [] ((iG s1 [] kd).attrs.map (nameOf S))||(iG s1 [] kd).kids.any (fun j=>twB S m j)):=by simp only[twB,hS1']
   rw[hs,hatt,hkids]
   show(kd++[2,3]).any _=false
   rw[List.any_eq_false]
   intro j hj
   obtain⟨s,a,b,c,-⟩:=hleaf j hj
   rw[tw_one a b c]
   simp
  have hs:twB S (m+1+1+1) 0=(dupF [] (s0.attrs.map (nameOf S))||s0.kids.any (fun j=>twB S (m+1+1) j)):=by simp only[twB,h0]
  rw[hs,h0a,h0k]
  show(twB S (m+1+1) 1||false)=false
  rw[e1]
  rfl
theorem treeE_len(l:List Nd):(lC l).length=l.length+4:=by simp[lC]
theorem flat_tree{t:List Nd}(h0:nd t 0=⟨1,⟨#[]⟩,⟨#[]⟩,-1⟩)(h1:nd t 1=⟨2,⟨#[97]⟩,⟨#[]⟩,0⟩)(hr:∀i:Nat,2≤i→i<t.length→(nd t (i:Int)).parent=1∧((nd t (i:Int)).kind=2∨((nd t (i:Int)).kind=4∧2<i∧(nd t ((i:Int)-1)).kind=2))∧rM t (nd t (i:Int))=true)
  (hl2:2≤t.length) (hl:t.length≤16384):eG t true=0:=by
 have run:∀k,k+2≤t.length→∃s,gW t true (k+2)=some s∧s.deep.length=t.length∧s.last.length=t.length∧s.deep.getD 1 0=1∧s.elements=1∧s.deepest≤2∧(0<k→s.last.getD 1 0=(k:Int)+1):=by
  intro k
  induction k with
  | zero=>
    intro hk
    have s0:gW t true 1=some { lX t.length with last:=(lX t.length).last.set 0 (-1) }:=by
     have h0':nd t ((0:Nat):Int)=⟨1,⟨#[]⟩,⟨#[]⟩,-1⟩:=h0
     have ho0:fB t 0=true:=by unfold fB;rw[h0'];rfl
     have hz:(⟨#[]⟩:ByteArray)=aP:=rfl
     show iC t true (lX t.length) 0=_
     unfold iC
     rw[h0']
     dsimp only
     rw[if_neg (by rw[ho0];simp),if_pos ⟨rfl,rfl⟩,if_pos ⟨rfl,rfl,rfl⟩]
    have ho:fB t 1=true:=by
     unfold fB
     rw[show((1:Nat):Int)=1 from rfl,h1,decide_eq_true_eq]
     exact oW (by decide) 1
    have hf:∀last top,kN t last top 1=true:=fun last top=>by
     unfold kN
     rw[show((1:Nat):Int)=1 from rfl,h1]
     simp only
     rw[head_el t ⟨#[97]⟩ 0 nameA (.inr (.inl (by rw[h0])))]
     rfl
    refine⟨_,by
     show(gW t true 1).bind (fun s=>iC t true s 1)=_
     rw[s0,Option.bind_some]
     unfold iC
     simp only
     rw[if_neg (by rw[ho];simp),if_neg (by simp),if_neg (by rw[show((1:Nat):Int)=1 from rfl,h1];simp),if_neg (by rw[hf];simp)],?_⟩
    have hrep:(List.replicate t.length (0:Int)).getD (Int.toNat 0) 0=0:=by
     rw[List.getD_eq_getElem?_getD,List.getElem?_replicate];split<;>rfl
    have hrp1:((List.replicate t.length (0:Int)).set 1 0).getD 1 0=0:=dV (by simp;omega)
    simp only[aD,show((1:Nat):Int)=1 from rfl,h1,lX,hrep,hrp1,Int.reduceNeg,Int.reduceLE,Int.reduceLT,Int.reduceEq,reduceIte,and_self,Int.reduceAdd]
    refine⟨by simp,by simp,dV (by simp;omega),by simp,?_,fun h=>absurd h (by decide)⟩
    rw[dV (by simp;omega)]
    decide
  | succ k ih=>
    intro hk
    obtain⟨s,a1,a2,a3,a4,a5,a6,a7⟩:=ih (by omega)
    obtain⟨hp,hkk,hh⟩:=hr (k+2) (by omega) (by omega)
    have ho:fB t (k+2)=true:=by
     unfold fB
     rw[hp,decide_eq_true_eq,show((k+2:Nat):Int)-1=((k+1:Nat):Int)by omega]
     simp only[chase]
     split
     ·rename_i g
      have:2≤k+1:=by omega
      rw[(hr (k+1) this (by omega)).1]
      exact oW (by decide) (k+1)
     ·rename_i g
      omega
    have hf:kN t (s.last.set (k+2) (-1)) s.top (k+2)=true:=by
     unfold kN
     simp only
     rw[hh]
     rcases hkk with e|⟨e,e1,e2⟩
     ·rw[e,decide_eq_true (show(2:Int)<7 by decide),decide_eq_false rule_el]
      unfold iP
      rw[e]
      rfl
     ·rw[e,decide_eq_true (show(4:Int)<7 by decide),decide_eq_false rule_tx]
      unfold iP lT
      rw[e,hp,if_neg (by decide),if_pos rfl,if_pos (by decide),show Int.toNat 1=1 from rfl,getD_set_ne (by omega),a7 (by omega),show(k:Int)+1=((k+2:Nat):Int)-1 by omega,e2]
      simp
    refine⟨_,by
     show(gW t true (k+2)).bind (fun s=>iC t true s (k+2))=_
     rw[a1,Option.bind_some]
     unfold iC
     simp only
     rw[if_neg (by rw[ho];simp),if_neg (by simp),if_neg (by rw[hp];simp),if_neg (by rw[hf];simp)],?_⟩
    have hd1:s.deep.getD (Int.toNat 1) 0=1:=a4
    rcases hkk with e|⟨e,-,-⟩
    ·have hn:aD s (s.last.set (k+2) (-1)) (nd t ((k+2:Nat):Int)) (k+2)=⟨(s.deep.set (k+2) 1).set (k+2) 2,(s.last.set (k+2) (-1)).set 1 (k+2:Nat),s.top,s.elements,max s.deepest (((s.deep.set (k+2) 1).set (k+2) 2).getD (k+2) 0)⟩:=by
      have hdd:(s.deep.set (k+2) 1).getD (k+2) 0=1:=dV (by omega)
      simp only[aD,hp,e,hd1,hdd,Int.reduceNeg,Int.reduceLE,Int.reduceLT,Int.reduceEq,reduceIte,and_false,Int.reduceAdd]
      rfl
     rw[hn]
     refine⟨by simp[a2],by simp[a3],?_,a5,?_,fun _=>?_⟩
     ·simp only
      rw[getD_set_ne (by omega),getD_set_ne (by omega)];exact a4
     ·simp only
      rw[dV (by simp;omega)];omega
     ·simp only
      rw[dV (by simp;omega)];omega
    ·have hn:aD s (s.last.set (k+2) (-1)) (nd t ((k+2:Nat):Int)) (k+2)=⟨s.deep.set (k+2) 1,(s.last.set (k+2) (-1)).set 1 (k+2:Nat),s.top,s.elements,s.deepest⟩:=by
      simp only[aD,hp,e,hd1,Int.reduceNeg,Int.reduceLE,Int.reduceLT,Int.reduceEq,reduceIte,and_false]
      rfl
     rw[hn]
     refine⟨by simp[a2],by simp[a3],?_,a5,a6,fun _=>?_⟩
     ·simp only
      rw[getD_set_ne (by omega)];exact a4
     ·simp only
      rw[dV (by simp;omega)];omega
 obtain⟨s,a1,-,-,-,a5,a6,-⟩:=run (t.length-2) (by omega)
 rw[show t.length-2+2=t.length by omega]at a1
 unfold eG
 rw[if_neg (by omega),a1]
 simp only
 rw[if_neg (by rw[a5];simp),if_neg (by omega)]
theorem treeE_right{n:Nat}(hn:n≤16380):eG (lC (j6 n)) true=0:=by
 have hlen:(lC (j6 n)).length=n+4:=by rw[treeE_len];simp[j6]
 have hmap:(j6 n).map (fun x=>withParent x 1)=List.replicate n (elE 1):=by unfold j6;rw[List.map_replicate];rfl
 have hT:lC (j6 n)=[⟨1,⟨#[]⟩,⟨#[]⟩,-1⟩,⟨2,⟨#[97]⟩,⟨#[]⟩,0⟩]++(List.replicate n (elE 1)++[⟨2,⟨#[98]⟩,⟨#[]⟩,1⟩,⟨4,⟨#[]⟩,⟨#[120]⟩,1⟩]):=by unfold lC;rw[hmap]
 have h0:nd (lC (j6 n)) 0=⟨1,⟨#[]⟩,⟨#[]⟩,-1⟩:=rfl
 have h1:nd (lC (j6 n)) 1=⟨2,⟨#[97]⟩,⟨#[]⟩,0⟩:=rfl
 have hel:∀i,i<n→nd (lC (j6 n)) ((2+i:Nat):Int)=elE 1:=fun i hi=>by
  rw[hT]
  have:=yE [⟨1,⟨#[]⟩,⟨#[]⟩,-1⟩,⟨2,⟨#[97]⟩,⟨#[]⟩,0⟩] (List.replicate n (elE 1)++[⟨2,⟨#[98]⟩,⟨#[]⟩,1⟩,⟨4,⟨#[]⟩,⟨#[120]⟩,1⟩]) i
  refine this.trans ?_
  rw[nd_app1 (by simpa using hi),nd_rep _ hi]
 have hend:∀i,nd (lC (j6 n)) ((2+(n+i):Nat):Int)=nd [⟨2,⟨#[98]⟩,⟨#[]⟩,1⟩,⟨4,⟨#[]⟩,⟨#[120]⟩,1⟩] (i:Int):=fun i=>by
  rw[hT]
  have:=yE [⟨1,⟨#[]⟩,⟨#[]⟩,-1⟩,⟨2,⟨#[97]⟩,⟨#[]⟩,0⟩] (List.replicate n (elE 1)++[⟨2,⟨#[98]⟩,⟨#[]⟩,1⟩,⟨4,⟨#[]⟩,⟨#[120]⟩,1⟩]) (n+i)
  refine this.trans ?_
  have:=yE (List.replicate n (elE 1)) [⟨2,⟨#[98]⟩,⟨#[]⟩,1⟩,⟨4,⟨#[]⟩,⟨#[120]⟩,1⟩] i
  rw[List.length_replicate]at this
  exact this
 refine flat_tree h0 h1 (fun i hi2 hi=>?_) (by omega) (by omega)
 rw[hlen]at hi
 by_cases c1:i<n+2
 ·obtain⟨j,rfl⟩:∃j,i=2+j:=⟨i-2,by omega⟩
  rw[hel j (by omega)]
  exact⟨rfl,.inl rfl,head_el _ _ _ nameE (.inr (.inr (by rw[h1])))⟩
 ·by_cases c2:i=n+2
  ·have e:i=2+(n+0):=by omega
   rw[e,hend 0]
   exact⟨rfl,.inl rfl,head_el _ _ _ nameBb (.inr (.inr (by rw[h1])))⟩
  ·have e:i=2+(n+1):=by omega
   have e2:nd (lC (j6 n)) ((i:Int)-1)=⟨2,⟨#[98]⟩,⟨#[]⟩,1⟩:=by
    rw[show(i:Int)-1=((2+(n+0):Nat):Int)by omega,hend 0];rfl
   rw[e2,e,hend 1]
   exact⟨rfl,.inr ⟨rfl,by omega,rfl⟩,head_tx _ _ _ textsX (by decide) (by decide) (.inr (by rw[h1]))⟩
theorem applyE(n:Nat)(b:Bool)(hn:n+1≤16380):bX dG [iW (n+1) b]=if 16384<(lC (fZ (n+1) b)).length then(3,[])else if eG (gN (lC (fZ (n+1) b))) true≠0 then(eG (gN (lC (fZ (n+1) b))) true,[])else(0,gN (lC (fZ (n+1) b))):=by
 obtain⟨hrow,htw⟩:=doE (fZ (n+1) b) (fun x hx=>⟨by rw[rP _ _ x hx];decide,by rcases longE_kind _ _ x hx with h|h<;>rw[h]<;>decide⟩) ⟨#[]⟩
 have hS:iN (dI [] dG).S (dA [iW (n+1) b])=tQ S0E ⟨6,1,⟨#[]⟩,fZ (n+1) b⟩ 1:=by
  rw[mergeE b (by omega),S0E_eq]
  rfl
 unfold bX
 rw[if_neg (by rw[checkE b (by omega)];simp),hS]
 simp only
 rw[htw,if_neg (by simp),hrow]
theorem says_row:pW 0 16384 ⟨#[120]⟩ [iW 16380 false]=true:=by
 have hlong:fZ 16380 false=j6 16380:=by unfold fZ;rw[if_neg (by decide),List.append_nil]
 have ha:=applyE 16379 false (by decide)
 have hR:=treeE_right (n:=16380) (by decide)
 have hl:(lC (j6 16380)).length=16384:=by rw[treeE_len,yQ]
 rw[show 16379+1=16380 from rfl,hlong,if_neg (by rw[hl];decide),merge_same hR,if_neg (by rw[hR];decide)]at ha
 have hlast:nd (lC (j6 16380)) ((16384-1:Nat):Int)=⟨4,⟨#[]⟩,⟨#[120]⟩,1⟩:=by
  have e:lC (j6 16380)=([⟨1,⟨#[]⟩,⟨#[]⟩,-1⟩,⟨2,⟨#[97]⟩,⟨#[]⟩,0⟩]++(j6 16380).map (fun x=>withParent x 1))++[⟨2,⟨#[98]⟩,⟨#[]⟩,1⟩,⟨4,⟨#[]⟩,⟨#[120]⟩,1⟩]:=by unfold lC;rw[List.append_assoc]
  have:=yE ([⟨1,⟨#[]⟩,⟨#[]⟩,-1⟩,⟨2,⟨#[97]⟩,⟨#[]⟩,0⟩]++(j6 16380).map (fun x=>withParent x 1)) [⟨2,⟨#[98]⟩,⟨#[]⟩,1⟩,⟨4,⟨#[]⟩,⟨#[120]⟩,1⟩] 1
  rw[←e,show([(⟨1,⟨#[]⟩,⟨#[]⟩,-1⟩:Nd),⟨2,⟨#[97]⟩,⟨#[]⟩,0⟩]++(j6 16380).map (fun x=>withParent x 1)).length+1=16384-1 by rw[List.length_append,List.length_map,yQ];rfl]at this
  exact this
 unfold pW
 rw[ha,decide_eq_true rfl,decide_eq_true hl]
 simp only
 rw[hlast]
 rfl
theorem says_long:pW 3 0 ⟨#[]⟩ [iW 16380 true]=true:=by
 have ha:=applyE 16379 true (by decide)
 rw[show 16379+1=16380 from rfl,if_pos (by rw[treeE_len,vJ];decide)]at ha
 unfold pW
 rw[ha]
 rfl
def nT:Pt:=⟨10,2,⟨#[]⟩,[]⟩
theorem many_much{n:Nat}(h:1000<n):(bX dG (List.replicate n nT)).1=3:=by
 have hsm:eG dG true=0:=by kernel_rfl
 have hc:dU dG (List.replicate n nT)=3:=by
  unfold dU
  rw[if_neg (by rw[hsm];decide),if_pos (by rw[List.length_replicate];exact h)]
 unfold bX
 rw[hc,if_pos (by decide)]
theorem many_check{n:Nat}(h:n≤1000):dU dG (List.replicate n nT)=0:=by
 have hsm:eG dG true=0:=by kernel_rfl
 refine wW.2 ⟨hsm,by rw[List.length_replicate];exact h,nV.2 fun p hp=>?_,vM _ _ |>.2 fun p hp hh=>?_⟩
 ·rw[List.eq_of_mem_replicate hp];kernel_rfl
 ·rw[List.eq_of_mem_replicate hp]at hh;exact absurd hh (by decide)
theorem many_merge(n:Nat):dA (List.replicate (n+1) nT)=[nT]:=by
 have hsp:aU nT.nodes=true:=by kernel_rfl
 have hi:eH kp (List.replicate (n+1) nT)=List.replicate (n+1) nT:=by
  refine List.eq_replicate_iff.2 ⟨by rw[oH,List.length_replicate],fun p hp=>?_⟩
  exact List.eq_of_mem_replicate (oI hp)
 have ht:∀m,(List.replicate m nT).takeWhile (fI nT)=List.replicate m nT∧(List.replicate m nT).dropWhile (fI nT)=[]:=fun m=>by
  induction m with
  | zero=>exact⟨rfl,rfl⟩
  | succ m ih=>
    rw[List.replicate_succ,List.takeWhile_cons,List.dropWhile_cons,show fI nT nT=true from rfl,if_pos rfl,if_pos rfl,ih.1]
    exact⟨rfl,ih.2⟩
 unfold dA
 rw[if_pos (List.all_eq_true.2 fun p hp=>by rw[List.eq_of_mem_replicate hp];exact hsp),hi]
 unfold qF
 rw[List.length_replicate,List.replicate_succ]
 simp only[iR]
 rw[(ht n).1,(ht n).2]
 have hnil:iR fI n ([]:List Pt)=[]:=by cases n<;>rfl
 rw[hnil]
 rfl
theorem many_apply{n:Nat}(h:n+1≤1000):bX dG (List.replicate (n+1) nT)=bX dG [nT]:=by
 have h2:dU dG [nT]=0:=many_check (n:=1) (by decide)
 have m2:dA [nT]=[nT]:=many_merge 0
 unfold bX
 rw[many_check h,many_merge n,h2,m2]
theorem many_one:(bX dG [nT]).1=0:=by kernel_rfl
theorem many_ok:(bX dG (List.replicate 1000 nT)).1=0:=by
 rw[many_apply (n:=999) (by decide)]
 exact many_one
theorem says_value(s:ByteArray)(h:s.size=65537):pW 4 0 ⟨#[]⟩ [⟨2,3,s,[]⟩]=true:=by
 have hsm:eG dG true=0:=by kernel_rfl
 have hal:iL ⟨2,3,s,[]⟩=true:=by
  have hsp:aU []=true:=by kernel_rfl
  unfold iL
  simp only
  rw[hsp]
  rfl
 have hai:jA dG ⟨2,3,s,[]⟩=true:=rfl
 have hsh:gX s=false:=by unfold gX;rw[h];simp
 have hbe:dM (nd dG 3) ⟨2,3,s,[]⟩=false:=by
  unfold dM
  rw[if_pos rfl,if_pos (.inr rfl)]
  exact hsh
 have hpe:bZ dG ⟨2,3,s,[]⟩=4:=by
  unfold bZ
  rw[if_neg (by rw[hal];simp),if_neg (by rw[hai];simp),if_pos hbe]
 have hc:dU dG [⟨2,3,s,[]⟩]=4:=by
  unfold dU
  rw[if_neg (by rw[hsm];decide),if_neg (by simp)]
  simp only[bY,hpe]
  rfl
 have ha:bX dG [⟨2,3,s,[]⟩]=(4,[]):=by
  unfold bX
  rw[if_pos (by rw[hc];decide),hc]
 unfold pW
 rw[ha]
 rfl
theorem says_twice:pW 281 0 ⟨#[]⟩ [⟨3,2,⟨#[99]⟩,[]⟩,⟨3,2,⟨#[99]⟩,[]⟩]=true:=by kernel_rfl
theorem says_attr:pW 282 0 ⟨#[]⟩ [⟨1,2,⟨#[]⟩,kT ⟨#[110]⟩++kT ⟨#[110]⟩⟩]=true:=by kernel_rfl
end Go.Proofs.YtelffdgcikceaaaGreatDoor
end
section
namespace Go.Proofs
open Go.Shelf
def Tryz.lays105_ren:Go.Shelf.Ren:=⟨fun|105=>29|212=>70|99=>71|165=>72|166=>73|170=>74|169=>75|263=>128|264=>129|206=>130|240=>131|241=>132|276=>177|277=>178|n=>n,fun|9=>9|3=>3|4=>4|20=>20|0=>0|46=>107|109=>108|5=>5|72=>114|76=>118|51=>164|146=>165|53=>167|148=>168|70=>111|37=>112|75=>117|127=>170|164=>249|80=>121|n=>n,fun|n=>n⟩
theorem Tryz.lays105:Go.Proofs.Lays.n105 Tryz.prog Tryz.lays105_ren:={
 mixed:=by kernel_rfl
 f99:=Tryz.func71.trans (congrArg some (by kernel_rfl))
 f105:=Tryz.func29.trans (congrArg some (by kernel_rfl))
 f165:=Tryz.func72.trans (congrArg some (by kernel_rfl))
 f166:=Tryz.func73.trans (congrArg some (by kernel_rfl))
 f169:=Tryz.func75.trans (congrArg some (by kernel_rfl))
 f170:=Tryz.func74.trans (congrArg some (by kernel_rfl))
 f206:=Tryz.func130.trans (congrArg some (by kernel_rfl))
 f212:=Tryz.func70.trans (congrArg some (by kernel_rfl))
 f240:=Tryz.func131.trans (congrArg some (by kernel_rfl))
 f241:=Tryz.func132.trans (congrArg some (by kernel_rfl))
 f263:=Tryz.func128.trans (congrArg some (by kernel_rfl))
 f264:=Tryz.func129.trans (congrArg some (by kernel_rfl))
 f276:=Tryz.func177.trans (congrArg some (by kernel_rfl))
 f277:=Tryz.func178.trans (congrArg some (by kernel_rfl))
 t0:=Tryz.underlying0
 a0:=Tryz.isAgg0
 z0:=Tryz.sizeOf0
 v0:=Tryz.zeroValue0
 t3:=Tryz.underlying3
 a3:=Tryz.isAgg3
 z3:=Tryz.sizeOf3
 v3:=Tryz.zeroValue3
 t4:=Tryz.underlying4
 a4:=Tryz.isAgg4
 z4:=Tryz.sizeOf4
 v4:=Tryz.zeroValue4
 t5:=Tryz.underlying5
 a5:=Tryz.isAgg5
 z5:=Tryz.sizeOf5
 v5:=Tryz.zeroValue5
 t9:=Tryz.underlying9
 a9:=Tryz.isAgg9
 z9:=Tryz.sizeOf9
 v9:=Tryz.zeroValue9
 t20:=Tryz.underlying20
 a20:=Tryz.isAgg20
 z20:=Tryz.sizeOf20
 v20:=Tryz.zeroValue20
 t37:=Tryz.underlying112
 a37:=Tryz.isAgg112
 z37:=Tryz.sizeOf112
 v37:=Tryz.zeroValue112
 t46:=Tryz.underlying107
 a46:=Tryz.isAgg107
 z46:=Tryz.sizeOf107
 v46:=Tryz.zeroValue107
 t51:=Tryz.underlying164
 a51:=Tryz.isAgg164
 z51:=Tryz.sizeOf164
 v51:=Tryz.zeroValue164
 t53:=Tryz.underlying167
 a53:=Tryz.isAgg167
 z53:=Tryz.sizeOf167
 v53:=Tryz.zeroValue167
 t70:=Tryz.underlying111
 a70:=Tryz.isAgg111
 z70:=Tryz.sizeOf111
 v70:=Tryz.zeroValue111
 t72:=Tryz.underlying114
 a72:=Tryz.isAgg114
 z72:=Tryz.sizeOf114
 v72:=Tryz.zeroValue114
 t75:=Tryz.underlying117
 a75:=Tryz.isAgg117
 z75:=Tryz.sizeOf117
 v75:=Tryz.zeroValue117
 t76:=Tryz.underlying118
 a76:=Tryz.isAgg118
 z76:=Tryz.sizeOf118
 v76:=Tryz.zeroValue118
 t109:=Tryz.underlying108
 a109:=Tryz.isAgg108
 z109:=Tryz.sizeOf108
 v109:=Tryz.zeroValue108
 t127:=Tryz.underlying170
 a127:=Tryz.isAgg170
 z127:=Tryz.sizeOf170
 v127:=Tryz.zeroValue170
 t146:=Tryz.underlying165
 a146:=Tryz.isAgg165
 z146:=Tryz.sizeOf165
 v146:=Tryz.zeroValue165
 t148:=Tryz.underlying168
 a148:=Tryz.isAgg168
 z148:=Tryz.sizeOf168
 v148:=Tryz.zeroValue168
 t164:=Tryz.underlying249
 a164:=Tryz.isAgg249
 z164:=Tryz.sizeOf249
 v164:=Tryz.zeroValue249 }
end Go.Proofs
namespace Go.Proofs.YtelffdgcikceaaaGreatDoor
open Go.V
theorem repeat_extra:Builder.Extra Tryz.prog Tryz.lays105_ren:={
 sizeBuilder:=by kernel_rfl
 liesBuilder:=by kernel_rfl
 t5:=Tryz.underlying5
 a5:=Tryz.isAgg5
 z5:=Tryz.sizeOf5
 v5:=Tryz.zeroValue5
 infoByte:=by kernel_rfl
 cellsByte:=by kernel_rfl
 sizeByte:=by kernel_rfl
 neB5:=by decide }
theorem repeat_con(w:World):bV Tryz.prog 29 #[.string ⟨#[120]⟩,.int .i64 65537] w (fun v w'=>∃s,v=.string s∧s.size=65537∧Ext w w'):=
 (con_of (aV rfl) (Any.strings_Repeat Tryz.lays105 repeat_extra ⟨#[120]⟩ 65537 w (by decide) (by decide))).mono fun v w' ⟨h1,h2⟩=>⟨_,h1,by
  show((Lib.repeatL [120] 65537).toArray).size=65537
  rw[List.size_toArray,Lib.repeatL_length]
  rfl,h2⟩
end Go.Proofs.YtelffdgcikceaaaGreatDoor
end
section
namespace Go.Proofs.YtelffdgcikceaaaGreatDoor
open Go.V
open Go.RowKit (Below)
theorem run_texts(w:World):(Instr.buildSlice 46 9 #[(0,.string ⟨#[]⟩),(1,.string ⟨#[107]⟩),(2,.string ⟨#[120,109,108]⟩),(3,.string ⟨#[97,45,45,98]⟩),(4,.string ⟨#[97,45]⟩),(5,.string ⟨#[63,62]⟩),(6,.string ⟨#[32,120]⟩),(7,.string ⟨#[49]⟩),(8,.string ⟨#[255]⟩)]).run Tryz.prog w =
  .ok (.slice (some ⟨w.heap.size,0,none⟩) 9 9) (w.alloc (.cells (mR.map Value.string).toArray 9)):=by kernel_rfl
theorem yU(w:World)(k t:Int)(s:ByteArray):(Instr.build 41 #[(0,.int .u8 k),(1,.int .i64 t),(2,.string s)]).run Tryz.prog w=.ok (.agg #[.int .u8 k,.int .i64 t,.string s,.slice none 0 0]) w:=by kernel_rfl
theorem run_bs22c(w:World)(k t:Int)(s:ByteArray)(o:Option Addr)(n c:Nat)(k' t':Int)(s':ByteArray)(o':Option Addr)(n' c':Nat)(k2 t2:Int)(s2:ByteArray)(o2:Option Addr)(n2 c2:Nat):(Instr.buildSlice 22 3 #[(0,.agg #[.int .u8 k,.int .i64 t,.string s,.slice o n c]),(1,.agg #[.int .u8 k',.int .i64 t',.string s',.slice o' n' c']),(2,.agg #[.int .u8 k2,.int .i64 t2,.string s2,.slice o2 n2 c2])]).run Tryz.prog w=.ok (.slice (some ⟨w.heap.size,0,none⟩) 3 3) (w.alloc (.cells (([⟨k,t,s,.slice o n c⟩,⟨k',t',s',.slice o' n' c'⟩,⟨k2,t2,s2,.slice o2 n2 c2⟩]:List aR).map aR.cells).flatten.toArray 41)):=by kernel_rfl
theorem aG.parts2{w:World}{k:Value→World→Prop}(r r':aR)(p p':Pt)(o:Option Addr)(n c:Nat)(o':Option Addr)(n' c':Nat)(h:r.nodes=.slice o n c)(h':r'.nodes=.slice o' n' c')(hp:gM w r p)(hp':gM w r' p')(hk:∀v w',PartsAt w' v [p,p']→Ext w w'→k v w') :
  aG Tryz.prog (Instr.buildSlice 22 2 #[(0,.agg r.cells.toArray),(1,.agg r'.cells.toArray)]) w k:=by
 obtain⟨rk,rt,rx,rn⟩:=r
 obtain⟨rk',rt',rx',rn'⟩:=r'
 simp only at h h' ⊢
 subst h h'
 have hn:bO w w.heap.size (([⟨rk,rt,rx,.slice o n c⟩,⟨rk',rt',rx',.slice o' n' c'⟩]:List aR).map aR.cells).flatten 41 (w.alloc (.cells (([⟨rk,rt,rx,.slice o n c⟩,⟨rk',rt',rx',.slice o' n' c'⟩]:List aR).map aR.cells).flatten.toArray 41)):=⟨rfl,rfl⟩
 exact .mk _ _ (run_bs22b w _ _ _ _ _ _ _ _ _ _ _ _) (hk _ _ (nY hn rfl ⟨rfl,fun i r p h1 h2=>by
  match i,h1,h2 with
  | 0,h1,h2=>cases h1;cases h2;exact hp.ext hn.ext
  | 1,h1,h2=>cases h1;cases h2;exact hp'.ext hn.ext⟩ (by simp)) hn.ext)
theorem aG.parts3{w:World}{k:Value→World→Prop}(r r' q:aR)(p p' p2:Pt)(o:Option Addr)(n c:Nat)(o':Option Addr)(n' c':Nat)(o2:Option Addr)(n2 c2:Nat)(h:r.nodes=.slice o n c)(h':r'.nodes=.slice o' n' c')(h2:q.nodes=.slice o2 n2 c2)(hp:gM w r p)(hp':gM w r' p')(hp2:gM w q p2)(hk:∀v w',PartsAt w' v [p,p',p2]→Ext w w'→k v w') :
  aG Tryz.prog (Instr.buildSlice 22 3 #[(0,.agg r.cells.toArray),(1,.agg r'.cells.toArray),(2,.agg q.cells.toArray)]) w k:=by
 obtain⟨rk,rt,rx,rn⟩:=r
 obtain⟨rk',rt',rx',rn'⟩:=r'
 obtain⟨rk2,rt2,rx2,rn2⟩:=q
 simp only at h h' h2 ⊢
 subst h h' h2
 have hn:bO w w.heap.size (([⟨rk,rt,rx,.slice o n c⟩,⟨rk',rt',rx',.slice o' n' c'⟩,⟨rk2,rt2,rx2,.slice o2 n2 c2⟩]:List aR).map aR.cells).flatten 41 (w.alloc (.cells (([⟨rk,rt,rx,.slice o n c⟩,⟨rk',rt',rx',.slice o' n' c'⟩,⟨rk2,rt2,rx2,.slice o2 n2 c2⟩]:List aR).map aR.cells).flatten.toArray 41)):=⟨rfl,rfl⟩
 exact .mk _ _ (run_bs22c w _ _ _ _ _ _ _ _ _ _ _ _ _ _ _ _ _ _) (hk _ _ (nY hn rfl ⟨rfl,fun i r p h1 h2=>by
  match i,h1,h2 with
  | 0,h1,h2=>cases h1;cases h2;exact hp.ext hn.ext
  | 1,h1,h2=>cases h1;cases h2;exact hp'.ext hn.ext
  | 2,h1,h2=>cases h1;cases h2;exact hp2.ext hn.ext⟩ (by simp)) hn.ext)
theorem one_ok{k a:Nat}(hk:k<12)(ha:a<12):(∀c∈gD,okS [⟨(k:Int),(a:Int)-1,⟨#[]⟩,c⟩]=true)∧∀s∈mR,okS [⟨(k:Int),(a:Int)-1,s,[]⟩]=true:=by
 have:=List.all_eq_true.1 (List.all_eq_true.1 ok_one k (List.mem_range.2 hk)) a (List.mem_range.2 ha)
 rw[Bool.and_eq_true]at this
 exact⟨List.all_eq_true.1 this.1,List.all_eq_true.1 this.2⟩
theorem two_ok{a b:Nat}(ha:a<10)(hb:b<10):okS [pI ((a:Int)+1) ⟨#[107]⟩,pI ((b:Int)+1) ⟨#[109]⟩]=true:=
 List.all_eq_true.1 (List.all_eq_true.1 ok_two a (List.mem_range.2 ha)) b (List.mem_range.2 hb)
def rdel:aR:=⟨10,2,⟨#[]⟩,.slice none 0 0⟩
def rzero:aR:=⟨0,0,⟨#[]⟩,.slice none 0 0⟩
def wL(k:Nat):List aR:=List.replicate k rdel++List.replicate (1001-k) rzero
theorem manyR_set{k:Nat}(h:k<1001):(wL k).set k rdel=wL (k+1):=by
 unfold wL
 rw[List.set_append_right _ _ (by simp),List.length_replicate,Nat.sub_self,show 1001-k=(1001-(k+1))+1 by omega,List.replicate_succ,List.set_cons_zero,List.replicate_succ',List.append_assoc]
 rfl
theorem manyR_len(k:Nat)(h:k≤1001):(wL k).length=1001:=by unfold wL;rw[List.length_append,List.length_replicate,List.length_replicate];omega
theorem many_at{w:World}{o:Option Addr}{n c:Nat}{m:Nat}(h:eO w (.slice o n c) 4 ((List.replicate m rdel).map aR.cells))(hm:m≤2000):PartsAt w (.slice o n c) (List.replicate m nT):=
 ⟨⟨List.replicate m rdel,h,by simp,fun i r p h1 h2=>by
   have e1:=List.eq_of_mem_replicate (List.mem_of_getElem? h1)
   have e2:=List.eq_of_mem_replicate (List.mem_of_getElem? h2)
   subst e1 e2
   exact rT w 10 2 (by omega) (by omega)⟩,by rw[List.length_replicate];omega⟩
set_option maxHeartbeats 6400000 in
theorem Numbers_con(w:World)(hG:jV w):bV Tryz.prog 6 #[] w (fun v w'=>v=.bool true∧Ext w w'):=by
 have hml:maxLen=9223372036854775807:=rfl
 refine enter aB Tryz.func6 (aV rfl) rfl rfl rfl ?_
 refine aA.mk _ (whole_con w) ?_
 rintro vt w1 ⟨hT,hE1⟩
 refine aA.mk _ (contents_con w1) ?_
 rintro vc w2 ⟨hC,hE2⟩
 have hT2:=hT.ext hE2
 obtain⟨ot,ct,rfl,-,-,-,-⟩:=hT2.open_
 obtain⟨oc,cc,rfl,-⟩:=hC.ex
 refine aG.mk _ _ (run_texts _) ?_
 obtain⟨w3,hw3⟩:∃w',w'=w2.alloc (.cells (mR.map Value.string).toArray 9):=⟨_,rfl⟩
 have n3:bO w2 w2.heap.size (mR.map Value.string) 9 w3:=⟨rfl,hw3⟩
 rw[←hw3]
 have hT3:=hT2.ext n3.ext
 have hC3:=hC.ext n3.ext
 have hE3:=(hE1.trans hE2).trans n3.ext
 obtain⟨bs,hbs⟩:∃bs,bs=w2.heap.size:=⟨_,rfl⟩
 rw[←hbs]at n3 ⊢
 have hS3:∀w',Ext w3 w'→∀(i:Nat) (hi:i<mR.length),Cells w' ((⟨bs,0,none⟩:Addr).add (i*1)) [.string mR[i]]:=fun w' hE i hi j u hj=>by
  match j,hj with
  | 0,hj=>
    cases hj
    rw[add_zero,Nat.mul_one]
    exact(n3.blk.ext hE).cells i _ (by rw[List.getElem?_map,List.getElem?_eq_getElem hi];rfl)
  | j+1,hj=>simp at hj
 have hwl:iF.length=10:=rfl
 have hcl:gD.length=11:=rfl
 have htl:mR.length=9:=rfl
 rw[hwl,hcl]
 rw[hwl]at hT3
 rw[hcl]at hC3
 refine aH.mk (X:=Nat) (fun k=>[(1,.slice ot 10 ct),(2,.slice oc 11 cc),(3,.slice (some ⟨bs,0,none⟩) 9 9),(4,.int .i64 k)]) (fun k w'=>Ext w3 w'∧k≤12) (fun k=>12-k) 0 ⟨Ext.refl _,Nat.zero_le _⟩ ⟨rfl,rfl,rfl,rfl,trivial⟩ ?_
 rintro k w4 ⟨hE4,hk⟩
 refine Cond.dec (fun g1=>?_) (fun g1=>?_)
 ·refine aH.mk (X:=Nat) (fun m=>[(1,.slice ot 10 ct),(2,.slice oc 11 cc),(3,.slice (some ⟨bs,0,none⟩) 9 9),(4,.int .i64 k),(5,.int .i64 ((m:Int)-1))]) (fun m w'=>Ext w3 w'∧m≤12) (fun m=>12-m) 0 ⟨hE4,Nat.zero_le _⟩ ⟨rfl,rfl,rfl,rfl,rfl,trivial⟩ ?_
  rintro m w5 ⟨hE5,hm⟩
  refine Cond.dec (fun g2=>?_) (fun g2=>?_)
  ·have hok:=one_ok (k:=k) (a:=m) (by omega) (by omega)
   refine aH.mk (X:=Nat) (fun i=>[(1,.slice ot 10 ct),(2,.slice oc 11 cc),(3,.slice (some ⟨bs,0,none⟩) 9 9),(4,.int .i64 k),(5,.int .i64 ((m:Int)-1)),(6,.int .i64 i)]) (fun i w'=>Ext w3 w'∧i≤11) (fun i=>11-i) 0 ⟨hE5,Nat.zero_le _⟩ ⟨rfl,rfl,rfl,rfl,rfl,rfl,trivial⟩ ?_
   rintro i w6 ⟨hE6,hi⟩
   refine Cond.dec (fun g3=>?_) (fun g3=>?_)
   ·have hil:i<gD.length:=by omega
    obtain⟨o',c',e,hx⟩:=(hC3.ext hE6).ex
    cases e
    obtain⟨a,v',ha,hc,hN⟩:=hx i hil
    obtain⟨o2,n2,c2,rfl⟩:=mV hN
    obtain⟨h1,h2⟩:=okS_apply (hok.1 _ (List.getElem_mem hil))
    refine Ar.u8 (by omega) ?_
    refine Idx.mk a ha (by omega) (by omega) ?_
    refine Load.here (hc.one (k:=0) rfl) ?_
    refine aG.mk _ _ (yT _ _ _ _ _ _) ?_
    refine aG.part ⟨k,(m:Int)-1,⟨#[]⟩,.slice o2 n2 c2⟩ ⟨k,(m:Int)-1,⟨#[]⟩,gD[i]⟩ _ _ _ rfl ⟨rfl,rfl,rfl,hN,by simp only;omega,by simp only;omega,by simp[ByteArray.size]⟩ fun v w7 hP hE7=>?_
    have hE07:=hE6.trans hE7
    refine aA.mk _ (tV _ v iF _ w7 (hT3.ext hE07) hP (hG.ext (hE3.trans hE07)) h1 h2 (fun _=>zF)) ?_
    rintro v w8 ⟨rfl,hE8⟩
    refine Cond.no ?_
    refine Ar.aM (i+1) (by omega) (by omega) ?_
    exact⟨i+1,⟨hE07.trans hE8,by omega⟩,by omega,rfl,rfl,rfl,rfl,rfl,rfl,trivial⟩
   ·refine aH.mk (X:=Nat) (fun i=>[(1,.slice ot 10 ct),(2,.slice oc 11 cc),(3,.slice (some ⟨bs,0,none⟩) 9 9),(4,.int .i64 k),(5,.int .i64 ((m:Int)-1)),(7,.int .i64 i)]) (fun i w'=>Ext w3 w'∧i≤9) (fun i=>9-i) 0 ⟨hE6,Nat.zero_le _⟩ ⟨rfl,rfl,rfl,rfl,rfl,rfl,trivial⟩ ?_
    rintro i w7 ⟨hE7,hi⟩
    refine Cond.dec (fun g4=>?_) (fun g4=>?_)
    ·have hil:i<mR.length:=by omega
     obtain⟨h1,h2⟩:=okS_apply (hok.2 _ (List.getElem_mem hil))
     have hts:(mR[i]).size≤4:=by
      have:∀s∈mR,s.size≤4:=by decide
      exact this _ (List.getElem_mem hil)
     refine Ar.u8 (by omega) ?_
     refine Idx.mk ⟨bs,0,none⟩ rfl (by omega) (by omega) ?_
     refine Load.here ((hS3 w7 hE7 i hil).one (k:=0) rfl) ?_
     refine aG.mk _ _ (yU _ _ _ _) ?_
     refine aG.part ⟨k,(m:Int)-1,mR[i],.slice none 0 0⟩ ⟨k,(m:Int)-1,mR[i],[]⟩ _ _ _ rfl ⟨rfl,rfl,rfl,lM _,by simp only;omega,by simp only;omega,by simp only;omega⟩ fun v w8 hP hE8=>?_
     have hE08:=hE7.trans hE8
     refine aA.mk _ (tV _ v iF _ w8 (hT3.ext hE08) hP (hG.ext (hE3.trans hE08)) h1 h2 (fun _=>zF)) ?_
     rintro vb w9 ⟨rfl,hE9⟩
     have hE09:=hE08.trans hE9
     repeat (first|refine gA ?_|refine gB ?_|refine gC ?_)
     refine aA.mk _ (Checks_con _ v iF _ w9 (hT3.ext hE09) (hP.ext hE9) (hG.ext (hE3.trans hE09)) h1 (fun _=>zF)) ?_
     rintro vb w10 ⟨rfl,hE10⟩
     repeat (first|refine gA ?_|refine gB ?_|refine gC ?_)
     refine Cond.no ?_
     refine Ar.aM (i+1) (by omega) (by omega) ?_
     exact⟨i+1,⟨hE09.trans hE10,by omega⟩,by omega,rfl,rfl,rfl,rfl,rfl,rfl,trivial⟩
    ·refine Ar.i64 (by omega) ?_
     exact⟨m+1,⟨hE7,by omega⟩,by omega,rfl,rfl,rfl,rfl,by rw[show((m+1:Nat):Int)-1=(m:Int)-1+1 by omega];rfl,trivial⟩
  ·refine Ar.aM (k+1) (by omega) (by omega) ?_
   exact⟨k+1,⟨hE5,by omega⟩,by omega,rfl,rfl,rfl,rfl,trivial⟩
 refine aH.mk (X:=Nat) (fun a=>[(1,.slice ot 10 ct),(9,.int .i64 ((a:Int)+1))]) (fun a w'=>Ext w3 w'∧a≤10) (fun a=>10-a) 0 ⟨hE4,Nat.zero_le _⟩ ⟨rfl,rfl,trivial⟩ ?_
 rintro a w5 ⟨hE5,ha⟩
 refine Cond.dec (fun g2=>?_) (fun g2=>?_)
 ·refine aH.mk (X:=Nat) (fun b=>[(1,.slice ot 10 ct),(9,.int .i64 ((a:Int)+1)),(10,.int .i64 ((b:Int)+1))]) (fun b w'=>Ext w3 w'∧b≤10) (fun b=>10-b) 0 ⟨hE5,Nat.zero_le _⟩ ⟨rfl,rfl,rfl,trivial⟩ ?_
  rintro b w6 ⟨hE6,hb⟩
  refine Cond.dec (fun g3=>?_) (fun g3=>?_)
  ·obtain⟨h1,h2⟩:=okS_apply (two_ok (a:=a) (b:=b) (by omega) (by omega))
   refine aA.mk _ (part_con (a+1) ⟨#[107]⟩ w6 (by omega) (by decide)) ?_
   rintro vx w7 ⟨rx,o1,n1,c1,rfl,hnx,hx,hE7⟩
   refine aA.mk _ (part_con (b+1) ⟨#[109]⟩ w7 (by omega) (by decide)) ?_
   rintro vy w8 ⟨ry,o2,n2,c2,rfl,hny,hy,hE8⟩
   have ea:((a+1:Nat):Int)=(a:Int)+1:=by omega
   have eb:((b+1:Nat):Int)=(b:Int)+1:=by omega
   rw[ea]at hx
   rw[eb]at hy
   refine aG.alloc _ [.int .u8 0,.int .i64 0,.string ⟨#[]⟩,.slice none 0 0] jI rfl fun b1 w9 n9=>?_
   refine aG.alloc _ [.int .u8 0,.int .i64 0,.string ⟨#[]⟩,.slice none 0 0] jI rfl fun b2 wa na=>?_
   have hx8:=hx.ext hE8
   refine bA.store b1 0 _ rx.cells 41 rfl rfl (by kernel_rfl) (n9.blk.ext na.ext) (by simp[aR.cells]) hx8.cells_one fun wb hUb=>?_
   have hne:b2≠b1:=by
    have h1:=n9.blk.lt
    have h2:=na.b_eq
    omega
   refine bA.store b2 0 _ ry.cells 41 rfl rfl (by kernel_rfl) (hUb.aF na.blk hne) (by simp[aR.cells]) hy.cells_one fun wc hUc=>?_
   have hX:bQ wc b1 rx.cells 41:=hUc.aF hUb.blk (Ne.symm hne)
   have hY:bQ wc b2 ry.cells 41:=hUc.blk
   have hE8c:Ext w8 wc:=((n9.ext.trans na.ext).upd hUb (by rw[n9.b_eq];exact Nat.le_refl _)).upd hUc (by rw[na.b_eq];exact n9.ext.sz)
   have hE0c:=((hE6.trans hE7).trans hE8).trans hE8c
   have hxc:=hx8.ext hE8c
   have hyc:=hy.ext hE8c
   refine Load.here (hX.cells.all' rfl) ?_
   refine Load.here (hY.cells.all' rfl) ?_
   refine aG.parts2 rx ry _ _ _ _ _ _ _ _ hnx hny hxc hyc fun v wd hP hEd=>?_
   have hE0d:=hE0c.trans hEd
   refine aA.mk _ (tV _ v iF _ wd (hT3.ext hE0d) hP (hG.ext (hE3.trans hE0d)) h1 h2 (fun _=>zF)) ?_
   rintro vb we ⟨rfl,hEe⟩
   have hE0e:=hE0d.trans hEe
   have hEce:=hEd.trans hEe
   repeat (first|refine gA ?_|refine gB ?_|refine gC ?_)
   refine Load.here ((hY.ext hEce).cells.all' rfl) ?_
   repeat (first|refine gA ?_|refine gB ?_|refine gC ?_)
   refine Load.here ((hX.ext hEce).cells.all' rfl) ?_
   repeat (first|refine gA ?_|refine gB ?_|refine gC ?_)
   refine Load.here ((hY.ext hEce).cells.all' rfl) ?_
   repeat (first|refine gA ?_|refine gB ?_|refine gC ?_)
   refine aG.parts3 ry rx ry _ _ _ _ _ _ _ _ _ _ _ _ hny hnx hny (hyc.ext hEce) (hxc.ext hEce) (hyc.ext hEce) fun v wf hPf hEf=>?_
   have hE0f:=hE0e.trans hEf
   repeat (first|refine gA ?_|refine gB ?_|refine gC ?_)
   refine aA.mk _ (Merges_con v _ wf hPf (hG.ext (hE3.trans hE0f))) ?_
   rintro vb wg ⟨rfl,hEg⟩
   have hE0g:=hE0f.trans hEg
   have hEcg:=(hEce.trans hEf).trans hEg
   repeat (first|refine gA ?_|refine gB ?_|refine gC ?_)
   refine Load.here ((hX.ext hEcg).cells.all' rfl) ?_
   repeat (first|refine gA ?_|refine gB ?_|refine gC ?_)
   refine Load.here ((hX.ext hEcg).cells.one (k:=0) rfl) ?_
   repeat (first|refine gA ?_|refine gB ?_|refine gC ?_)
   refine aG.mk _ _ (uO _ _ _) ?_
   repeat (first|refine gA ?_|refine gB ?_|refine gC ?_)
   refine Load.here ((hY.ext hEcg).cells.all' rfl) ?_
   repeat (first|refine gA ?_|refine gB ?_|refine gC ?_)
   have hkx:=hxc.wkind
   have hkk:=hxc.kind
   refine aG.parts3 rx ⟨rx.kind,2,⟨#[]⟩,.slice none 0 0⟩ ry _ ⟨rx.kind,2,⟨#[]⟩,[]⟩ _ _ _ _ _ _ _ _ _ _ hnx rfl hny (hxc.ext hEcg) (rT wg _ 2 (by omega) (by omega)) (hyc.ext hEcg) fun v wh hPh hEh=>?_
   have hE0h:=hE0g.trans hEh
   repeat (first|refine gA ?_|refine gB ?_|refine gC ?_)
   refine aA.mk _ (Merges_con v _ wh hPh (hG.ext (hE3.trans hE0h))) ?_
   rintro vb wi ⟨rfl,hEi⟩
   repeat (first|refine gA ?_|refine gB ?_|refine gC ?_)
   refine Cond.no ?_
   refine Ar.i64 (by omega) ?_
   exact⟨b+1,⟨hE0h.trans hEi,by omega⟩,by omega,rfl,rfl,rfl,trivial⟩
  ·refine Ar.i64 (by omega) ?_
   exact⟨a+1,⟨hE6,by omega⟩,by omega,rfl,rfl,trivial⟩
 have hE05:=hE3.trans hE5
 have hz:(List.replicate 1001 [.int .u8 0,.int .i64 0,.string ⟨#[]⟩,.slice none 0 0]:List (List Value))=(wL 0).map aR.cells:=by
  unfold wL
  rw[List.replicate_zero,List.nil_append,List.map_replicate,Nat.sub_zero]
  rfl
 refine aG.makeN (n:=1001) fT w5.heap.size (Nat.le_refl _) (by omega) (by omega) [.int .u8 0,.int .i64 0,.string ⟨#[]⟩,.slice none 0 0] zc41 fun vm w6 hvm hE6 hmf=>?_
 obtain⟨om,cm,hme,m1,m2,m3,-,-⟩:=hvm.shape
 rw[List.length_replicate]at hme m1
 subst hme
 rw[hz]at hvm
 refine aH.mk (X:=Nat) (fun i=>[(13,.slice om 1001 cm),(14,.int .i64 i)]) (fun i w'=>Ext w5 w'∧i≤1001∧Vec w' w5.heap.size 41 4 (.slice om 1001 cm) ((wL i).map aR.cells)) (fun i=>1001-i) 0 ⟨hE6,Nat.zero_le _,hvm⟩ ⟨rfl,rfl,trivial⟩ ?_
 rintro i w7 ⟨hE7,hi,hv7⟩
 refine Cond.dec (fun g3=>?_) (fun g3=>?_)
 ·have hil:i<1001:=by omega
  have hml2:=manyR_len i hi
  obtain⟨a,ha,-⟩:=hv7.sl.el _ _ _ rfl i _ (by rw[List.getElem?_map,List.getElem?_eq_getElem (by omega)];rfl)
  refine aG.mk _ _ (uO _ _ _) ?_
  refine Idx.mk a ha (by omega) (by omega) ?_
  refine bA.kR (k:=i) rdel.cells (by kernel_rfl) hv7 ha (by rw[List.length_map];omega) rfl rfl (by simp[aR.cells,rdel,Value.oneCell']) fun w8 g cs hU hBg hgo hv8=>?_
  rw[←List.map_set,manyR_set hil]at hv8
  refine Ar.aM (i+1) (by omega) (by omega) ?_
  exact⟨i+1,⟨hE7.upd hU hBg,by omega,hv8⟩,by omega,rfl,rfl,trivial⟩
 have hi2:i=1001:=by omega
 subst hi2
 have hm7:wL 1001=List.replicate 1001 rdel:=by unfold wL;rw[Nat.sub_self,List.replicate_zero,List.append_nil]
 rw[hm7]at hv7
 have hE07:=hE05.trans hE7
 refine aG.mk _ _ (qH _) ?_
 obtain⟨w8,hw8⟩:∃w',w'=w7.alloc (.cells #[] 50):=⟨_,rfl⟩
 have n8:bO w7 w7.heap.size [] 50 w8:=⟨rfl,hw8⟩
 rw[←hw8]
 have hr0:Vec w8 w7.heap.size 50 4 (.slice (some ⟨w7.heap.size,0,none⟩) 0 0) ((j6 0).map Nd.cells):=Vec.wM (xs:=[]) n8 rfl (fun x hx=>by cases hx) (Nat.zero_le _) (Nat.le_refl _)
 refine aH.mk (X:=Nat × Value) (fun x=>[(13,.slice om 1001 cm),(15,x.2),(16,.int .i64 x.1)]) (fun x w'=>Ext w7 w'∧x.1≤16380∧Vec w' w7.heap.size 50 4 x.2 ((j6 x.1).map Nd.cells)) (fun x=>16380-x.1) (0,_) ⟨n8.ext,Nat.zero_le _,hr0⟩ ⟨rfl,rfl,rfl,trivial⟩ ?_
 rintro⟨i,vr⟩ w9 ⟨hE9,hi,hr9⟩
 simp only at hi hr9 ⊢
 have hrl:(j6 i).length=i:=yQ _
 refine Cond.dec (fun g3=>?_) (fun g3=>?_)
 ·refine aG.mk _ _ (jL _ _ _ _) ?_
  refine aG.mk _ _ (aY _ _ _ _ _) ?_
  obtain⟨wa,hwa⟩:∃w',w'=w9.alloc (.cells #[.int .u8 2,.string ⟨#[101]⟩,.string ⟨#[]⟩,.int .i64 (-1)] 50):=⟨_,rfl⟩
  have na:bO w9 w9.heap.size (elE (-1)).cells 50 wa:=⟨rfl,hwa⟩
  rw[←hwa]
  have hEa:=hE9.trans na.ext
  refine bD.append bI w7.heap.size _ [(elE (-1)).cells] (hr9.ext na.ext) (aT na) (fun y hy=>by rw[List.mem_singleton.1 hy];exact⟨rfl,Nd.cells_one _⟩) (by rw[List.length_map,List.length_singleton];omega) (by rw[List.length_map,List.length_singleton];omega) hEa.sz fun v wb hv har=>?_
  have hEb:Ext w7 wb:=Below.trans hEa (har.below hEa.sz fun b hb=>(hr9.ge hb).1)
  refine Ar.aM (i+1) (by omega) (by omega) ?_
  refine⟨(i+1,v),⟨hEb,by simp only;omega,?_⟩,by simp only;omega,rfl,rfl,rfl,trivial⟩
  simp only
  unfold j6
  rw[List.replicate_succ',List.map_append]
  exact hv
 have hi2:i=16380:=by omega
 subst hi2
 have hE09:=hE07.trans hE9
 have hv9:=hv7.ext hE9
 refine aA.mk _ (small_con w9) ?_
 rintro vs wa ⟨hsa,hEa⟩
 have hE0a:=hE09.trans hEa
 have hnod:∀m,∀p∈List.replicate m nT,p.nodes.length≤100000:=fun m p hp=>by rw[List.eq_of_mem_replicate hp];decide
 refine aA.mk _ (rC vs _ dG _ wa hsa (many_at (hv9.ext hEa).sl (by decide)) (hG.ext hE0a) (hnod _)) ?_
 rintro v wb ⟨vo,rfl,-,-,hEb⟩
 rw[many_much (by decide)]
 have hE0b:=hE0a.trans hEb
 have hE9b:=hEa.trans hEb
 have hEd:=Ext.drew wb
 refine aQ.mk aB mixed [(1,true),(2,true),(0,false),(3,false),(4,true),(5,true),(6,true),(7,true),(8,true)] [0,3] (by kernel_rfl) (fun w'=>w'=wb.drew) rfl ?_
 refine Need.mk ⟨by omega,by omega,by omega,by omega,by simp⟩ ?_
 have hsl:=mQ om 1001 cm 1000
 rw[show((1000:Nat):Int)=1000 from rfl]at hsl
 rw[hsl]
 refine aA.mk _ (small_con wb.drew) ?_
 rintro vs2 wc ⟨hsc,hEc⟩
 have hE9c:=(hE9b.trans hEd).trans hEc
 have hE0c:=hE09.trans hE9c
 have h1000:eO wc (.slice om 1000 cm) 4 ((List.replicate 1000 rdel).map aR.cells):=by
  have:=rD (k:=1000) (hv9.ext hE9c).sl (by rw[List.length_map,List.length_replicate];decide)
  rwa [←List.map_take,List.take_replicate,show min 1000 1001=1000 from rfl]at this
 refine aA.mk _ (rC vs2 _ dG _ wc hsc (many_at h1000 (by decide)) (hG.ext hE0c) (hnod _)) ?_
 rintro v wd ⟨vo2,rfl,-,-,hEdd⟩
 rw[many_ok]
 have hE9d:=hE9c.trans hEdd
 have hE0d:=hE09.trans hE9d
 have hrd:=hr9.ext hE9d
 have hE7d:=hE9.trans hE9d
 have hrwf:∀(m:Nat),∀x∈j6 m,x.Wf:=fun m x hx=>by
  rw[List.eq_of_mem_replicate hx]
  exact⟨by decide,by decide,by decide,by decide⟩
 have hrl:(j6 16380).length=16380:=yQ _
 obtain⟨orr,cr,hre,-,-,-,-,-⟩:=hrd.shape
 rw[List.length_map,hrl]at hre
 subst hre
 refine aG.mk _ _ (yT _ _ _ _ _ _) ?_
 refine aG.part ⟨6,1,⟨#[]⟩,.slice orr 16380 cr⟩ (iW 16380 false) _ _ _ rfl ⟨rfl,rfl,rfl,by
  show aJ wd _ (fZ 16380 false)
  unfold fZ
  rw[if_neg (by decide),List.append_nil]
  exact hrd.nodes (hrwf _) (by omega),by simp[iW],by simp[iW],by simp[iW,ByteArray.size]⟩ fun v we hP hEe=>?_
 have hE0e:=hE0d.trans hEe
 refine aA.mk _ (kK 0 16384 ⟨#[120]⟩ v _ we hP (hG.ext hE0e) (by omega) (fun p hp=>by
  rw[List.mem_singleton.1 hp]
  show(fZ 16380 false).length≤_
  rw[vJ]
  decide) says_row) ?_
 rintro vb wf ⟨rfl,hEf⟩
 have hE0f:=hE0e.trans hEf
 have hEdf:=hEe.trans hEf
 refine aA.mk _ (oM ⟨#[33]⟩ wf (by decide)) ?_
 rintro vx wg hx
 have hE0g:=hE0f.trans hx.ext
 have hEdg:=hEdf.trans hx.ext
 have hE7g:=hE7d.trans hEdg
 refine bD.append bI w7.heap.size _ _ (hrd.ext hEdg) hx.at_.sl (nd_one _) (by rw[List.length_map,List.length_map,hrl];decide) (by rw[List.length_map,List.length_map,hrl];decide) hE7g.sz fun v wh hv har=>?_
 have hE7h:Ext w7 wh:=Below.trans hE7g (har.below hE7g.sz fun b hb=>(hrd.ge hb).1)
 have hE0h:=hE07.trans hE7h
 rw[←List.map_append]at hv
 have hlg:fZ 16380 true=j6 16380++kS ⟨#[33]⟩:=by unfold fZ;rw[if_pos rfl]
 have hlwf:∀x∈fZ 16380 true,x.Wf:=fun x hx=>by
  rw[hlg]at hx
  rcases List.mem_append.1 hx with h|h
  ·exact hrwf _ x h
  ·rw[List.mem_singleton.1 h];exact⟨by decide,by decide,by decide,by decide⟩
 have hll:(fZ 16380 true).length=16381:=by rw[vJ];rfl
 rw[←hlg]at hv
 obtain⟨o2,c2,he2,-,-,-,-,-⟩:=hv.shape
 rw[List.length_map,hll]at he2
 subst he2
 refine aG.mk _ _ (yT _ _ _ _ _ _) ?_
 refine aG.part ⟨6,1,⟨#[]⟩,.slice o2 16381 c2⟩ (iW 16380 true) _ _ _ rfl ⟨rfl,rfl,rfl,hv.nodes hlwf (by omega),by simp[iW],by simp[iW],by simp[iW,ByteArray.size]⟩ fun v wi hP hEi=>?_
 have hE0i:=hE0h.trans hEi
 refine aA.mk _ (kK 3 0 ⟨#[]⟩ v _ wi hP (hG.ext hE0i) (by omega) (fun p hp=>by
  rw[List.mem_singleton.1 hp]
  show(fZ 16380 true).length≤_
  omega) says_long) ?_
 rintro vb wj ⟨rfl,hEj⟩
 have hE0j:=hE0i.trans hEj
 refine aA.mk _ (repeat_con wj) ?_
 rintro v wk ⟨s,rfl,hs,hEk⟩
 have hE0k:=hE0j.trans hEk
 refine aG.mk _ _ (yU _ _ _ _) ?_
 refine aG.part ⟨2,3,s,.slice none 0 0⟩ ⟨2,3,s,[]⟩ _ _ _ rfl ⟨rfl,rfl,rfl,lM _,by simp,by simp,by simp only;omega⟩ fun v wl hP hEl=>?_
 have hE0l:=hE0k.trans hEl
 refine aA.mk _ (kK 4 0 ⟨#[]⟩ v _ wl hP (hG.ext hE0l) (by omega) (by simp) (says_value s hs)) ?_
 rintro vb wm ⟨rfl,hEm⟩
 have hE0m:=hE0l.trans hEm
 refine aG.mk _ _ (yU _ _ _ _) ?_
 refine aG.mk _ _ (yU _ _ _ _) ?_
 have hpc:∀w',gM w' ⟨3,2,⟨#[99]⟩,.slice none 0 0⟩ ⟨3,2,⟨#[99]⟩,[]⟩:=fun w'=>⟨rfl,rfl,rfl,lM _,by simp,by simp,by decide⟩
 refine aG.parts2 ⟨3,2,⟨#[99]⟩,.slice none 0 0⟩ ⟨3,2,⟨#[99]⟩,.slice none 0 0⟩ _ _ _ _ _ _ _ _ rfl rfl (hpc _) (hpc _) fun v wn hP hEn=>?_
 have hE0n:=hE0m.trans hEn
 refine aA.mk _ (kK 281 0 ⟨#[]⟩ v _ wn hP (hG.ext hE0n) (by omega) (by simp) says_twice) ?_
 rintro vb wo ⟨rfl,hEo⟩
 have hE0o:=hE0n.trans hEo
 refine aA.mk _ (jZ ⟨#[110]⟩ wo (by decide)) ?_
 rintro vx wp hp
 refine aA.mk _ (jZ ⟨#[110]⟩ wp (by decide)) ?_
 rintro vy wq hq
 refine bD.join hp hq (by decide) (by decide) fun v wr hr=>?_
 obtain⟨o3,n3',c3,rfl⟩:=mV hr.at_
 refine aG.mk _ _ (yT _ _ _ _ _ _) ?_
 refine aG.part ⟨1,2,⟨#[]⟩,.slice o3 n3' c3⟩ ⟨1,2,⟨#[]⟩,kT ⟨#[110]⟩++kT ⟨#[110]⟩⟩ _ _ _ rfl ⟨rfl,rfl,rfl,hr.at_,by simp,by simp,by simp[ByteArray.size]⟩ fun v wt hP hEt=>?_
 have hE0t:=(hE0o.trans hr.ext).trans hEt
 refine aA.mk _ (kK 282 0 ⟨#[]⟩ v _ wt hP (hG.ext hE0t) (by omega) (by simp[kT]) says_attr) ?_
 rintro vb wu ⟨rfl,hEu⟩
 have hE0u:=hE0t.trans hEu
 repeat' (first
  | refine gA ?_|refine gB ?_|refine gC ?_|refine Cond.yes ?_|refine Cond.no ?_|refine aK.bB (fun _=>?_) (fun g=>absurd (by omega) g)|refine aK.bB (fun g=>absurd g (by omega)) (fun _=>?_)|refine aK.bH (fun _=>?_) (fun g=>absurd g (by omega))|refine aK.bH (fun g=>absurd (by omega) g) (fun _=>?_)|refine aK.bP (fun _=>?_) (fun g=>absurd (by omega) g)|refine aK.bP (fun g=>absurd g (by omega)) (fun _=>?_)|refine aK.bU (fun _=>?_) (fun g=>absurd g (by omega))|refine aK.bU (fun g=>absurd (by omega) g) (fun _=>?_)|refine Cond.dec (fun _=>?_) (fun g=>absurd (by omega) g)|refine Cond.dec (fun g=>absurd g (by omega)) (fun _=>?_)|refine Cond.dH (fun _=>?_) (fun g=>absurd g (by omega))|refine Cond.dH (fun g=>absurd (by omega) g) (fun _=>?_))
 refine aA.mk _ (rF wu (hG.ext hE0u)) ?_
 rintro vb wv ⟨rfl,hEv⟩
 exact And.intro rfl (hE0u.trans hEv)
end Go.Proofs.YtelffdgcikceaaaGreatDoor
end
section
set_option maxRecDepth 100000
namespace Go.Proofs.YtelffdgcikceaaaGreatDoor
open Go.V Go.ChangeShapes Go.WideShapes Go.ChangeAt Go.RowKit
theorem numbers_lifted(os:Os)(started:os.Started)(H:Type)(enc:TypeId × Value→H) :
  ReturnsInHanded {} Tryz.checked os 6 .any (fun w args=>(Rows.pendingNumbersSpec.pre enc Tryz.prog Tryz.f6 [] false w args∧laidMetH Tryz.prog Rows.pendingNumbersRow.laid w)∧sizedMet enc Tryz.prog Tryz.f6 (OpenSpec.ofChange Rows.pendingNumbersSpec) false w args)
   (Rows.pendingNumbersSpec.post enc Tryz.prog Tryz.f6 false true false false):=by
 refine handed_shaped (C:=Tryz.checked) (X:=fun w _=>laidMetH Tryz.prog Rows.pendingNumbersRow.laid w) (fun _ _ _ hh h=>h.of_heap hh) own started (by kernel_rfl) Tryz.func6
  (ChangeSpec.witness_shaped (enc:=enc) (C:=Tryz.checked) (os:=os) (X:=fun w _=>laidMetH Tryz.prog Rows.pendingNumbersRow.laid w) false (World.laidAll Tryz.prog os Rows.pendingNumbersRow.laid) #[] 8 (World.laidAll_os _ _ _)
   (World.shaped_of_ZipB (by kernel_rfl) (by kernel_rfl)) (by kernel_rfl) (by kernel_rfl) (by kernel_rfl)
   (by rw[MakeChecks.laidMetH_plain _ _ _ (by kernel_rfl)];exact laidMet_laidAll _ (by kernel_rfl) (by kernel_rfl))) ?_
 intro W base args ds gs before hsh hval0 hW hsz hL
 have hval:∀(j:Nat) t v,Tryz.f6.params[j]? = some t→args[j]? = some v→Value.okWide Tryz.prog W .any base t v:=hval0
 have hW':=hW
 obtain⟨p,q,hA0,hV,rfl,hfz,hnd⟩:=hW
 have hA:DataW.TrodAll enc Tryz.prog W 0 (fun _=>true) true Tryz.f6.params.toList args.toList ds p:=hA0
 rw[Tryz.params6]at hA hval hsz
 obtain⟨rfl,rfl,rfl⟩:=trodAll_none hA
 obtain⟨rfl,rfl⟩:=trodVars_none hV
 have hG:=glob_of_laid hL hsh
 refine(Numbers_con W hG).calls.mono fun e W' ⟨v,he,hv,bel⟩=>?_
 subst he hv
 exact⟨_,rfl,_,_,_,[],_,[],hW',trodAll_mk1 (shut_bool Tryz.underlying4 _),trodAll_mk0,rfl,bel.frame _,fun h=>by cases h⟩
theorem numbers_row:Rows.PendingNumbersSaid:=
 OpenClaim.holds_of_wide 6 Tryz.f6 rfl rfl rfl rfl rfl rfl rfl ⟨rfl,rfl,rfl,rfl,rfl⟩ rfl rfl rfl rfl rfl (by kernel_rfl) Tryz.func6 (by kernel_rfl)
  (of_decide_eq_true (by kernel_rfl)) (by unfold Func.isWrapper;first|(rw[if_pos (by decide +kernel)];kernel_rfl)|(rw[if_neg (by decide +kernel)];exact⟨rfl,rfl⟩))
  (fun os started H enc _=>numbers_lifted os started H enc)
theorem numbers_holds:Rows.PendingNumbersCardSaid:=
 Claim7.holds_tied_plain_at .later [] [.data,.data,.data,.widerDeep,.widerDeep,.data,.data,.pinned,.pinned] true (true,"ee184132c1015bfbbf946d45624b9aef1c959002604530e9b3b0d51ffbb17bba") false numbers_row (fun _ h=>by cases h) (by kernel_rfl) (fun _ h=>by cases h) pendingNumbers_row_tie rfl ⟨rfl,rfl⟩ (by kernel_rfl) rfl
  (fun f fn hf hfn=>by
   obtain rfl:f=6:=Option.some.inj ((show Tryz.prog.funcNamed Rows.pendingNumbersRow.func=some 6 by kernel_rfl).symm.trans hf) |>.symm
   obtain rfl:fn=Tryz.f6:=(Option.some.inj (Tryz.func6.symm.trans hfn)).symm
   exact⟨by kernel_rfl,fun j t ht=>by
    rw[Tryz.params6]at ht
    have hm:t∈([]:List TypeId):=by simpa using Array.mem_of_getElem? ht
    cases hm⟩)
  (by kernel_rfl)
#print axioms numbers_holds
end Go.Proofs.YtelffdgcikceaaaGreatDoor
end
