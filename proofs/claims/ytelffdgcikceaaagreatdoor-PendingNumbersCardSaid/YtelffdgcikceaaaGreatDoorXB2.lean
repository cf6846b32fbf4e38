/- Texts VB, C1, P4, VC, So, F1, Sh, Si, C2, D1, D2, D3, D4. Ranging over a text; the runes of a text. -/
import Derived.Test.YtelffdgcikceaaaGreatDoorXB1
import Derived.Lib.ValidU
import Derived.Lib.DecodeN
import Derived.Shelf.Unicode.DecodeSlow
import Derived.Test.YtelffdgcikceaaaGreatDoorRows
import Derived.ProofKit
import Derived.OpenShut
import Derived.LaidMore
import Derived.Lay
import Derived.Stop.Joined
import Derived.Shelf.Strings.Search3
import Derived.Shelf.Strings.Prefix
import Derived.Shelf.Strings.Runes
import Derived.Test.YtelffdgcikceaaaGreatDoorProg
import Derived.Shelf.Unicode.ValidAny
import Derived.Shelf.Strings.SlTrimAscii
import Derived.Laws.RangeAny
set_option linter.unusedSimpArgs false
set_option linter.unusedVariables false
section
namespace Go.V
open Go.RowKit (Below)
def Iter(w:World)(b:Nat)(s:ByteArray)(pos:Nat):Prop:=w.heap[b]? = some (.stringIter s pos)
theorem Iter.ext{w w':World}{b:Nat}{s:ByteArray}{pos:Nat}(h:Iter w b s pos)(hE:Ext w w'):Iter w' b s pos:=
 (Below.block hE b (Array.getElem?_eq_some_iff.1 h).1).trans h
section
variable {P:Program}
theorem aG.rangeStr{t:Nat}{s:ByteArray}{w:World}{k:Value→World→Prop}(hu:P.underlying t=some .string)
  (hk:∀b w',Iter w' b s 0→Ext w w'→b=w.heap.size→w'.heap.size=w.heap.size+1→k (.pointer (some ⟨b,0,none⟩)) w'):aG P (Instr.range t (.string s)) w k:=by
 refine .mk (.pointer (some ⟨w.heap.size,0,none⟩)) (w.alloc (.stringIter s 0)) ?_ (hk _ _ ?_ ((Below.refl _ _).alloc (Nat.le_refl _) _) rfl (by simp))
 ·unfold Instr.range
  simp[underlying,hu]
 ·show(w.heap.push _)[w.heap.size]? = _
  simp
structure IterUpd(w:World)(b:Nat)(w':World):Prop where
 sz:w'.heap.size=w.heap.size
 below:∀B,B≤b→Below B w w'
 other:∀k,k≠b→w'.heap[k]? = w.heap[k]?
theorem aG.nextStr{b:Nat}{s:ByteArray}{pos ty:Nat}{w:World}{k:Value→World→Prop}(h:Iter w b s pos)
  (h1:pos<s.size→∀w',IterUpd w b w'→Iter w' b s (pos+(Utf8.decode s pos).2)→k (.tuple #[.bool true,.int .i64 pos,.int .i32 (Utf8.decode s pos).1]) w')
  (h2:s.size≤pos→k (.tuple #[.bool false]) w):aG P (Instr.next (.pointer (some ⟨b,0,none⟩)) true ty) w k:=by
 have hb:b<w.heap.size:=(Array.getElem?_eq_some_iff.1 h).1
 unfold Iter at h
 by_cases hp:pos<s.size
 ·refine .mk _ { w with heap:=w.heap.setIfInBounds b (.stringIter s (pos+(Utf8.decode s pos).2)) } ?_ (h1 hp _ ⟨by simp,fun B hB=>⟨rfl,rfl,rfl,by simp,fun k hk=>?_⟩,fun k hk=>?_⟩ ?_)
  ·unfold Instr.next
   simp[getObj,setObj,Sem.run,h,hp,goInt]
  ·simp only;rw[Array.getElem?_setIfInBounds_ne (by omega)]
  ·simp only;rw[Array.getElem?_setIfInBounds_ne (Ne.symm hk)]
  ·simp[Iter,hb]
 ·refine .mk (.tuple #[.bool false]) w ?_ (h2 (by omega))
  unfold Instr.next
  simp[getObj,Sem.run,h,hp]
end
theorem get!_drop(l:List UInt8)(i k:Nat):(ByteArray.mk (l.drop i).toArray).get! k=(ByteArray.mk l.toArray).get! (i+k):=by
 show(l.drop i).toArray[k]! = l.toArray[i+k]!
 simp[List.getElem!_eq_getElem?_getD,List.getElem?_drop]
theorem uI(s:ByteArray)(i:Nat):Utf8.decode s i=Lib.decodeL (s.data.toList.drop i):=by
 unfold Lib.decodeL
 rw[Lib.decode_at,Lib.decode_at]
 have e:s=ByteArray.mk (s.data.toList).toArray:=by cases s;simp
 have hs:(ByteArray.mk (s.data.toList.drop i).toArray).size=s.size-i:=by
  show(s.data.toList.drop i).toArray.size=_
  simp
 have g:∀k,(ByteArray.mk (s.data.toList.drop i).toArray).get! k=s.get! (i+k):=fun k=>by
  rw[get!_drop]
 rw[hs,g,g,g,g]
 simp
def uQ:Nat→List UInt8→Nat→List (Nat × Nat × Nat)
 | 0,_,_=>[]
 | n+1,l,pos=>if l=[]then []else(pos,Lib.decodeL l)::uQ n (l.drop (Lib.decodeL l).2) (pos+(Lib.decodeL l).2)
def runes(l:List UInt8)(pos:Nat):List (Nat × Nat × Nat):=uQ l.length l pos
theorem runesF_fuel:∀(n m:Nat) (l:List UInt8) (pos:Nat),l.length≤n→l.length≤m→uQ n l pos=uQ m l pos
 | 0,0,_,_,_,_=>rfl
 | 0,m+1,l,pos,h,_=>by
   have:l=[]:=List.eq_nil_of_length_eq_zero (by omega)
   simp[uQ,this]
 | n+1,0,l,pos,_,h=>by
   have:l=[]:=List.eq_nil_of_length_eq_zero (by omega)
   simp[uQ,this]
 | n+1,m+1,l,pos,h1,h2=>by
   unfold uQ
   split
   ·rfl
   ·have hw:=Lib.decodeL_width l
    have hl:0<l.length:=List.length_pos_iff.2 (by assumption)
    rw[runesF_fuel n m _ _ (by simp;omega) (by simp;omega)]
theorem runes_nil(pos:Nat):runes [] pos=[]:=rfl
theorem pV{l:List UInt8}(h:l≠[])(pos:Nat):runes l pos=(pos,Lib.decodeL l)::runes (l.drop (Lib.decodeL l).2) (pos+(Lib.decodeL l).2):=by
 have hw:=Lib.decodeL_width l
 have hl:0<l.length:=List.length_pos_iff.2 h
 unfold runes
 obtain⟨n,hn⟩:∃n,l.length=n+1:=⟨l.length-1,by omega⟩
 rw[hn]
 conv=>lhs;unfold uQ
 rw[if_neg h]
 rw[runesF_fuel n _ _ _ (by simp;omega) (Nat.le_refl _)]
end Go.V
end
section
namespace Go.Proofs.YtelffdgcikceaaaGreatDoor
open Go.V
def spanCells(l:List (Int × Int)):List Value:=(l.map fun x=>[Value.int .i32 x.1,Value.int .i32 x.2]).flatten
def zB:List (Int × Int):=[(65,90),(95,95),(97,122),(192,214),(216,246),(248,767),(880,893),(895,8191),(8204,8205),(8304,8591),(11264,12271),(12289,55295),(63744,64975),(65008,65533),(65536,983039)]
def yI:List (Int × Int):=[(45,46),(48,57),(183,183),(768,879),(8255,8256)]
structure Rule where
 named:Bool
 valued:Bool
 full:Bool
 top:Bool
 root:Bool
 element:Bool
 deriving DecidableEq
def Rule.cells(r:Rule):List Value:=[.bool r.named,.bool r.valued,.bool r.full,.bool r.top,.bool r.root,.bool r.element]
def uM:List Rule:=[⟨false,false,false,false,false,false⟩,⟨false,false,false,false,false,false⟩,⟨true,false,false,true,true,true⟩,⟨true,true,false,false,false,true⟩,
 ⟨false,true,true,true,false,true⟩,⟨false,true,false,true,true,true⟩,⟨true,true,false,true,true,true⟩]
structure Shape where
 content:Bool
 text:Bool
 once:Bool
 targets:List UInt8
def Shape.cells(r:Shape):List Value:=[.bool r.content,.bool r.text,.bool r.once,.string ⟨r.targets.toArray⟩]
def sW:List Shape:=[⟨false,false,false,[]⟩,⟨true,false,false,[49,50]⟩,⟨false,true,true,[51,52,53,54]⟩,⟨false,true,true,[50,51,54]⟩,⟨true,false,false,[50,52,53,54]⟩,⟨true,false,false,[50,52,53,54]⟩,
 ⟨true,false,false,[49,50]⟩,⟨true,false,false,[49,50]⟩,⟨true,false,true,[50,51,52,53,54]⟩,⟨false,true,true,[50]⟩,⟨false,false,false,[50,51,52,53,54]⟩]
def sM(n:Nat):Int:=if n=75 then 107 else if n=83 then 115 else if n=107 then 8490 else if n=115 then 383 else if 65≤n∧n≤90 then(n:Int)+32 else if 97≤n∧n≤122 then(n:Int)-32 else n
def vF:List Value:=(List.range 128).map fun n=>.int .u16 (sM n)
structure jV(w:World):Prop where
 shapes:Cells w ⟨0,0,none⟩ (sW.map Shape.cells).flatten
 rules:Cells w ⟨1,0,none⟩ (uM.map Rule.cells).flatten
 others:Cells w ⟨2,0,none⟩ (spanCells yI)
 starts:Cells w ⟨3,0,none⟩ (spanCells zB)
 utf8:Lib.Utf8Tabs 4 5 w
 maxLen:∃m:Int,w.cell? ⟨6,0,none⟩=some (.int .i64 m)
 fold:Cells w ⟨7,0,none⟩ vF
 size:10≤w.heap.size
theorem jV.ext{w w':World}(h:jV w)(hE:Ext w w'):jV w':=by
 obtain⟨m,hm⟩:=h.maxLen
 refine⟨h.shapes.ext hE,h.rules.ext hE,h.others.ext hE,h.starts.ext hE,?_,⟨m,hE.cell hm⟩,h.fold.ext hE,Nat.le_trans h.size hE.sz⟩
 exact Go.Proofs.Utf8Tabs_below h.utf8 hE
theorem El.of_cells{w:World}{a:Addr}{sz:Nat}{xs:List (List Value)}(h:Cells w a xs.flatten)(hl:∀x∈xs,x.length=sz):El w (some a) sz xs:=fun i x hi=>
 ⟨a,rfl,fun j u hj=>by rw[add_add];exact h _ _ (lJ hl hi hj)⟩
def oV(r:Int)(l:List (Int × Int)):Bool:=l.any fun x=>decide (x.1≤r)&&decide (r≤x.2)
theorem zero255:fJ Tryz.prog 255 (.agg #[.int .i32 0,.int .i32 0]):=by
 unfold fJ
 kernel_rfl
theorem among_con(r:Int)(l:List (Int × Int))(a:Addr)(cap:Nat)(w:World)(hc:Cells w a (spanCells l))(hl:l.length≤1000) :
  bV Tryz.prog 179 #[.int .i32 r,.slice (some a) l.length cap] w (fun v w'=>v=.bool (oV r l)∧Ext w w'):=by
 have hel:El w (some a) 2 (l.map fun x=>[Value.int .i32 x.1,Value.int .i32 x.2]):=El.of_cells hc (by
  intro x hx
  obtain⟨y,_,rfl⟩:=List.mem_map.1 hx
  rfl)
 refine enter aB Tryz.func179 (aV rfl) rfl rfl rfl ?_
 refine aH.mk (X:=Nat) (fun k=>[(0,.int .i32 r),(7,.slice (some a) l.length cap),(8,.int .i64 l.length),(9,.int .i64 k)])
  (fun k w'=>Ext w w'∧k≤l.length∧oV r (l.take k)=false) (fun k=>l.length-k) 0 ⟨Ext.refl _,Nat.zero_le _,rfl⟩ ⟨rfl,rfl,rfl,rfl,trivial⟩ ?_
 rintro k w1 ⟨hE,hk,ht⟩
 refine Cond.dec (fun h1=>?_) (fun h1=>?_)
 ·have hkl:k<l.length:=by omega
  obtain⟨a',ha',hx⟩:=(hel.ext hE) k [.int .i32 (l[k]).1,.int .i32 (l[k]).2] (by simp[hkl])
  cases ha'
  refine Idx.mk a rfl (by omega) (by omega) ?_
  refine Load.here (hx.all' rfl) ?_
  refine aG.alloc _ [.int .i32 0,.int .i32 0] zero255 rfl fun b w2 h2=>?_
  refine bA.store b 0 _ [.int .i32 (l[k]).1,.int .i32 (l[k]).2] 255 rfl rfl (by kernel_rfl) h2.blk (by simp) (by simp[Value.oneCell']) fun w3 h3=>?_
  have h4:=h2.upd h3
  have hc:=h4.blk.cells
  have hE4:=hE.trans h4.ext
  refine Load.here (hc.one rfl) ?_
  have hstep:oV r (l.take (k+1))=(decide ((l[k]).1≤r)&&decide (r≤(l[k]).2)):=by
   rw[List.take_succ_eq_append_getElem hkl]
   unfold oV at *
   rw[List.any_append,ht]
   simp
  refine aK.bB (fun g1=>?_) (fun g1=>?_)
  ·refine gC (gC (Load.here (hc.one rfl) ?_))
   refine gC (Cond.dec (fun g2=>?_) (fun g2=>?_))
   ·refine And.intro ?_ hE4
    have:oV r l=true:=by
     have:oV r (l.take (k+1))=true:=by rw[hstep];simp[g1,g2]
     unfold oV at *
     rw[List.any_eq_true]at *
     obtain⟨x,hx,hp⟩:=this
     exact⟨x,List.mem_of_mem_take hx,hp⟩
    simp[aC,this]
   ·refine Ar.i64 (by omega) ?_
    refine⟨k+1,⟨hE4,by omega,?_⟩,by omega,rfl,rfl,rfl,rfl,trivial⟩
    rw[hstep];simp[g2]
  ·repeat (first|refine gA ?_|refine gB ?_|refine gC ?_)
   refine Cond.no ?_
   refine Ar.i64 (by omega) ?_
   refine⟨k+1,⟨hE4,by omega,?_⟩,by omega,rfl,rfl,rfl,rfl,trivial⟩
   rw[hstep];simp[g1]
 ·refine And.intro ?_ hE
  have:k=l.length:=by omega
  rw[this,List.take_length]at ht
  simp[aC,ht]
def eY(r:Int):Bool:=oV r zB
def dQ(r:Int):Bool:=eY r||oV r yI
def kM(r:Int):Bool:=
 if r=9∨r=10∨r=13 then true else if r<32∨(55296≤r∧r≤57343)∨1114111<r then false else decide (r≠65534∧r≠65535)
theorem vY(r:Int)(w:World)(hG:jV w):bV Tryz.prog 134 #[.int .i32 r] w (fun v w'=>v=.bool (eY r)∧Ext w w'):=by
 refine enter aB Tryz.func134 (aV rfl) rfl rfl rfl ?_
 refine Need.mk (by simp) ?_
 refine aA.mk _ (among_con r zB ⟨3,0,none⟩ 15 w hG.starts (by decide)) ?_
 rintro v w1 ⟨rfl,hE⟩
 exact And.intro rfl hE
theorem NameChar_con(r:Int)(w:World)(hG:jV w):bV Tryz.prog 133 #[.int .i32 r] w (fun v w'=>v=.bool (dQ r)∧Ext w w'):=by
 refine enter aB Tryz.func133 (aV rfl) rfl rfl rfl ?_
 refine aA.mk _ (vY r w hG) ?_
 rintro v w1 ⟨rfl,hE⟩
 cases hb:eY r with
 | true=>
   repeat (first|refine gA ?_|refine gB ?_|refine gC ?_)
   refine And.intro ?_ hE
   simp[aC,dQ,hb]
 | false=>
   refine gC (gC (Need.mk (by simp) (gC ?_)))
   refine aA.mk _ (among_con r yI ⟨2,0,none⟩ 5 w1 (hG.ext hE).others (by decide)) ?_
   rintro v w2 ⟨rfl,hE2⟩
   refine And.intro ?_ (hE.trans hE2)
   simp[aC,dQ,hb]
theorem Char_con(r:Int)(w:World):bV Tryz.prog 181 #[.int .i32 r] w (fun v w'=>v=.bool (kM r)∧w'=w):=by
 refine enter aB Tryz.func181 (aV rfl) rfl rfl rfl ?_
 have fin:∀b:Bool,kM r=b→(aC [Value.bool b]=Value.bool (kM r)∧w=w):=fun b hb=>⟨by simp[aC,hb],rfl⟩
 refine aK.bH (fun g1=>?_) (fun g1=>?_)
 ·refine gC ?_
  refine aK.bH (fun g2=>?_) (fun g2=>?_)
  ·refine gC ?_
   refine Cond.dec (fun g3=>?_) (fun g3=>?_)
   ·exact fin _ (by simp[kM,g3])
   ·refine aK.bH (fun g4=>?_) (fun g4=>?_)
    ·refine gC (gC ?_)
     refine aK.bB (fun g5=>?_) (fun g5=>?_)
     ·refine gC (gC ?_)
      refine aK.bH (fun g6=>?_) (fun g6=>?_)
      ·refine gC (Cond.dec (fun g7=>?_) (fun g7=>?_))
       ·exact fin _ (by unfold kM;rw[if_neg (by omega),if_pos (by omega)])
       ·refine aK.bU (fun g8=>?_) (fun g8=>?_)
        ·refine gC (fin _ ?_)
         unfold kM;rw[if_neg (by omega),if_neg (by omega)]
         simp[g8]
        ·repeat (first|refine gA ?_|refine gB ?_|refine gC ?_)
         refine fin _ ?_
         unfold kM;rw[if_neg (by omega),if_neg (by omega)]
         simp[g8]
      ·repeat (first|refine gA ?_|refine gB ?_|refine gC ?_)
       refine Cond.yes (fin _ ?_)
       unfold kM;rw[if_neg (by omega),if_pos (by omega)]
     ·repeat (first|refine gA ?_|refine gB ?_|refine gC ?_)
      refine Cond.dec (fun g7=>?_) (fun g7=>?_)
      ·exact fin _ (by unfold kM;rw[if_neg (by omega),if_pos (by omega)])
      ·refine aK.bU (fun g8=>?_) (fun g8=>?_)
       ·refine gC (fin _ ?_)
        unfold kM;rw[if_neg (by omega),if_neg (by omega)]
        simp[g8]
       ·repeat (first|refine gA ?_|refine gB ?_|refine gC ?_)
        refine fin _ ?_
        unfold kM;rw[if_neg (by omega),if_neg (by omega)]
        simp[g8]
    ·repeat (first|refine gA ?_|refine gB ?_|refine gC ?_)
     refine Cond.yes (fin _ ?_)
     unfold kM;rw[if_neg (by omega),if_pos (by omega)]
  ·repeat (first|refine gA ?_|refine gB ?_|refine gC ?_)
   refine Cond.yes (fin _ ?_)
   simp[kM,g2]
 ·repeat (first|refine gA ?_|refine gB ?_|refine gC ?_)
  refine Cond.yes (fin _ ?_)
  simp[kM,g1]
end Go.Proofs.YtelffdgcikceaaaGreatDoor
end
section
set_option maxRecDepth 100000
namespace Go.Proofs.YtelffdgcikceaaaGreatDoor
open Go.V Go.ChangeShapes Go.WideShapes Go.ChangeAt Go.RowKit
theorem own:ownKnob Tryz.prog.godebug=none:=by kernel_rfl
theorem flat_shapes:mH (H:=Unit) Rows.laid_parchment_pending_shapes=(sW.map Shape.cells).flatten:=by kernel_rfl
theorem flat_rules:mH (H:=Unit) Rows.laid_parchment_tree_rules=(uM.map Rule.cells).flatten:=by kernel_rfl
theorem flat_others:mH (H:=Unit) Rows.laid_parchment_chars_others=spanCells yI:=by kernel_rfl
theorem flat_starts:mH (H:=Unit) Rows.laid_parchment_chars_starts=spanCells zB:=by kernel_rfl
theorem flat_fold:mH (H:=Unit) Rows.laid_unicode_asciiFold=vF:=by kernel_rfl
theorem flat_first:mH Rows.laid_unicode_utf8_first=(List.range 256).map fun c=>Value.int .u8 (Lib.firstT c):=by kernel_rfl
theorem flat_acc:mH (H:=Unit) Rows.laid_unicode_utf8_acceptRanges=((List.range 16).map fun i=>[Value.int .u8 (Lib.accLo i),Value.int .u8 (Lib.accHi i)]).flatten:=by kernel_rfl
theorem zero6:((begin Tryz.prog (fun _ _=>0) default).world.heap[6]?).bind Obj.row? = some (#[.int .i64 0],3):=by kernel_rfl
theorem zero9:(((begin Tryz.prog (fun _ _=>0) default).world.heap[9]?).bind Obj.row?).isSome=true:=by kernel_rfl
theorem ten:Tryz.prog.globals.size=10:=by kernel_rfl
theorem build3:Tryz.prog.buildable 3=true:=by kernel_rfl
theorem cell3:Tryz.prog.cellTypes Tryz.prog.depth 3=some [3]:=by kernel_rfl
theorem und3:Tryz.prog.underlying 3=some (.int .i64):=by kernel_rfl
theorem shape_len{W:World}(h:W.ShapedOpen Tryz.prog):∃m:Int,W.cell? ⟨6,0,none⟩=some (.int .i64 m):=by
 obtain⟨cs,hh,hs,hr⟩:=h.1 6 _ 3 (by rw[ten];omega) zero6
 obtain⟨ts,hts,-,hall⟩:=hr build3
 rw[cell3]at hts
 cases hts
 have h1:0<cs.size:=by rw[hs];decide
 obtain⟨u,hu,hok⟩:=hall 0 cs[0] (by simp[h1])
 have:u=3:=by simpa using hu.symm
 subst this
 have hcell:W.cell? ⟨6,0,none⟩=some cs[0]:=by simp[World.cell?, hh,h1]
 rw[hcell]
 generalize cs[0]=v at hok
 unfold Cell.ok at hok
 rw[und3]at hok
 cases v with
 | int k n=>
   simp only at hok
   exact⟨n,by rw[hok.1]⟩
 | _=>simp at hok
theorem shape_ten{W:World}(h:W.ShapedOpen Tryz.prog):10≤W.heap.size:=by
 have hz:=zero9
 rcases hx:((begin Tryz.prog (fun _ _=>0) default).world.heap[9]?).bind Obj.row? with _|⟨z,t⟩
 ·rw[hx]at hz;cases hz
 ·obtain⟨cs,hh,-,-⟩:=h.1 9 z t (by rw[ten];omega) hx
  exact(Array.getElem?_eq_some_iff.1 hh).1
theorem glob_of_laid{W:World}(h:laidMetH Tryz.prog Rows.pendingRightRow.laid W)(hs:W.ShapedOpen Tryz.prog):jV W:=by
 rw[MakeChecks.laidMetH_plain _ _ _ (by kernel_rfl)]at h
 obtain⟨ps,hl,-,-⟩:=h
 have c0:=jY (g:=0) (by kernel_rfl) gt0 pl103 hl (List.mem_of_getElem? (i:=6) rfl)
 have c1:=jY (g:=1) (by kernel_rfl) gt1 pl243 hl (List.mem_of_getElem? (i:=5) rfl)
 have c2:=jY (g:=2) (by kernel_rfl) gt2 pl256 hl (List.mem_of_getElem? (i:=4) rfl)
 have c3:=jY (g:=3) (by kernel_rfl) gt3 pl257 hl (List.mem_of_getElem? (i:=3) rfl)
 have c4:=jY (g:=4) (by kernel_rfl) gt4 pl259 hl (List.mem_of_getElem? (i:=8) rfl)
 have c5:=jY (g:=5) (by kernel_rfl) gt5 pl262 hl (List.mem_of_getElem? (i:=0) rfl)
 have c7:=jY (g:=7) (by kernel_rfl) gt7 pl283 hl (List.mem_of_getElem? (i:=1) rfl)
 rw[flat_shapes]at c0
 rw[flat_rules]at c1
 rw[flat_others]at c2
 rw[flat_starts]at c3
 rw[flat_first]at c4
 rw[flat_acc]at c5
 rw[flat_fold]at c7
 refine⟨c0,c1,c2,c3,⟨fun c hc=>?_,fun i hi=>?_⟩,shape_len hs,c7,shape_ten hs⟩
 ·have:=c4 c (.int .u8 (Lib.firstT c)) (by rw[List.getElem?_map,List.getElem?_range hc];rfl)
  rw[bW,Nat.zero_add]at this
  exact this
 ·have hl2:∀x∈(List.range 16).map (fun i=>[Value.int .u8 (Lib.accLo i),Value.int .u8 (Lib.accHi i)]),x.length=2:=by
   intro x hx
   obtain⟨j,-,rfl⟩:=List.mem_map.1 hx
   rfl
  have hg:((List.range 16).map (fun i=>[Value.int .u8 (Lib.accLo i),Value.int .u8 (Lib.accHi i)]))[i]? = some [Value.int .u8 (Lib.accLo i),Value.int .u8 (Lib.accHi i)]:=by
   rw[List.getElem?_map,List.getElem?_range hi];rfl
  have a1:=c5 _ _ (lJ hl2 hg (j:=0) rfl)
  have a2:=c5 _ _ (lJ hl2 hg (j:=1) rfl)
  rw[bW,Nat.zero_add]at a1 a2
  rw[Nat.mul_comm 2 i]
  exact⟨a1,a2⟩
theorem handed_shaped{H:Type}{enc:TypeId × Value→H}{a:Assume}{C:Checked}{os:Os}{f:FuncId}{fn:Func}{s:ChangeSpec}{conds:List PathCond}{apart fresh handsOn again:Bool}{X:World→Array Value→Prop}
  (hX:∀(w w':World) (args:Array Value),w.heap=w'.heap→X w args→X w' args)
  (own:ownKnob C.prog.godebug=none) (started:os.Started) (noInit:C.prog.inits.idxOf? f=none) (hfn:C.prog.funcs[f]? = some fn)
  (witness:∃(w:World) (tape:Tape) (i:Input),w.os=os∧(w.forCall tape i).Shaped C.prog∧i.vars=[]∧Input.okWide C.prog (w.forCall tape i) .any w.heap.size f i∧
   ((s.pre enc C.prog fn conds apart (w.forCall tape i).memory i.args∧X (w.forCall tape i).memory i.args)∧sizedMet enc C.prog fn (OpenSpec.ofChange s) apart (w.forCall tape i).memory i.args)∧a.holds C.prog (lone (Frame.enter C.prog f i.args .normal) [] (w.forCall tape i)))
  (contract:∀(W:World) (base:Nat) (args:Array Value) (ds gs:List (DataW H)) (before:List MemPlace),W.ShapedOpen C.prog→
   (∀(j:Nat) t v,fn.params[j]? = some t→args[j]? = some v→Value.okWide C.prog W .any base t v)→
   DataW.Whole enc C.prog fn.params.toList s.vars apart W args.toList ds gs before→
   (DataW.weightsEach C.prog (fn.params.toList++s.plain.varTypes C.prog) (ds++gs)).all (·≤reachBytes)=true→X W args→
   Calls C.prog f args W fun e W'=>∃v,e=.returned v∧s.post enc C.prog fn apart fresh handsOn again W args v W') :
  ReturnsInHanded a C os f .any (fun w args=>(s.pre enc C.prog fn conds apart w args∧X w args)∧sizedMet enc C.prog fn (OpenSpec.ofChange s) apart w args) (s.post enc C.prog fn apart fresh handsOn again):=by
 refine returnsInHanded_of_calls own started noInit witness ?_
 intro w tape i _ hsh _ hok hpre hholds
 obtain⟨_,_,_,fn',hfn',_,_,_,_,hval⟩:=hok
 have e:fn'=fn:=Option.some.inj (hfn'.symm.trans hfn)
 subst e
 obtain⟨⟨⟨ds,gs,before,hw,hc⟩,hx⟩,hz⟩:=hpre
 have hw':=DataW.Whole.of_heap (w':=w.forCall tape i) (by rfl) hw
 refine(contract (w.forCall tape i) w.heap.size i.args ds gs before hsh hval hw' (hz.weights hw) (hX _ _ _ (by rfl) hx)).mono fun e W' ⟨v,he,hp⟩=>?_
 subst he
 exact ChangeSpec.post_blind hp
end Go.Proofs.YtelffdgcikceaaaGreatDoor
end
section
namespace Go.V
open Go.RowKit (Below)
inductive Scr where
 | done
 | take (i:Nat) (r:Scr)
 | carry (i:Nat) (r:Scr)
 | both (i:Nat) (r:Scr) (j:Nat) (s:Scr)
def Scr.takes:List Nat→Scr→Scr
 | [],s=>s
 | i::r,s=>.take i (Scr.takes r s)
noncomputable def Scr.len (s:Scr):Nat:=Scr.rec (motive:=fun _=>Nat) 0 (fun _ _ n=>n+1) (fun _ _ n=>n+1) (fun _ _ _ _ n m=>max n m+1) s
section
variable {P:Program} {ops:Array Oper} {Q:Exit→Act→World→Prop} {S:World→Prop}
noncomputable def scrB (ops:Array Oper) (nk:List Nat) (s:Scr):Bool→Array Bool→Bool:=
 Scr.rec (motive:=fun _=>Bool→Array Bool→Bool)
  (fun _ listed=>(Region.ready .any ops listed).isEmpty)
  (fun i _ ih live listed=>(Region.ready .any ops listed).contains i&&Region.free .any ops listed i &&
   (match ops[i]? with
    | some o=>pureB o.op||(live&&(let D:=downs ops i;downsOk ops i D&&D.all (fun j=>!(listed.getD j true))&&nk.all (fun j=>listed.getD j true||kF D j)))
    | none=>false)&&ih live (listed.setIfInBounds i true))
  (fun i _ ih live listed=>(Region.ready .any ops listed == [i])&&ih (live&&!(kF nk i)) (listed.setIfInBounds i true))
  (fun i _ j _ ih jh live listed=>(Region.ready .any ops listed == [i,j])&&ih (live&&!(kF nk i)) (listed.setIfInBounds i true)&&jh (live&&!(kF nk j)) (listed.setIfInBounds j true)) s
def vcS(P:Program)(T:wG)(n:Nat)(ops:Array Oper)(S:World→Prop)(nk:List Nat)(s:Scr)(k:Env→World→Prop):Env→World→Prop:=
 Scr.rec (motive:=fun _=>Env→World→Prop) k
  (fun i _ ih env w=>match ops[i]? with
   | some o=>takeD P T n ops S o ih env w
   | none=>False)
  (fun i _ ih env w=>match ops[i]? with
   | some o=>carryD P T n ops S nk i o ih env w
   | none=>False)
  (fun i _ j _ ih jh env w=>(match ops[i]? with
   | some o=>carryD P T n ops S nk i o ih env w
   | none=>False)∧(match ops[j]? with
   | some o=>carryD P T n ops S nk j o jh env w
   | none=>False)) s
theorem uF{T:wG}(hT:iV P T){n:Nat}{nk:List Nat}{i:Nat}{live:Bool}{next:Env→World→Prop}{env:Env}{w:World}{a:Act}{Post:Act→World→Prop}
  (hH:Holds n a env) (hS:live=true→S w)
  (h:match ops[i]? with
   | some o=>carryD P T n ops S nk i o next env w
   | none=>False)
  (hn:∀env' w' a',next env' w'→Holds n a' env'→((live&&!(kF nk i))=true→S w')→Post a' w') :
  wpOp P ops Q i (fun a' w'=>((!(kF nk i))=true→S w→S w')∧Post a' w') a w:=by
 cases hoi:ops[i]? with
 | none=>simp only[hoi]at h
 | some oi=>
   replace h:(match ops[i]? with
    | some o=>wZ ops o.guard env
      (fun env=>opW P T env o.op o.type w fun v w'=>match kF nk i with
       | true=>eF n o.dst v env fun env'=>next env' w'
       | false=>Need (S w') (eF n o.dst v env fun env'=>next env' w'))
      (fun env=>eF n o.dst undef env fun env'=>next env' w)
    | none=>False):=h
   simp only[hoi]at h
   unfold wpOp
   simp only[hoi]
   rcases qC h hH oi rfl with ⟨hw,env',h,hH'⟩|⟨hw,env',h,hH'⟩
   ·rw[if_pos hw]
    refine .inl (vN hT hH' oi.op oi.type oi.dst oi.pos oi.after oi.guard h fun v w' h=>?_)
    cases hm:kF nk i with
    | true=>
      simp only[hm]at h
      obtain⟨env'',h5,hH''⟩:=eP h hH'
      exact⟨fun e=>by simp at e,hn _ _ _ h5 hH'' (fun e=>by simp[hm]at e)⟩
    | false=>
      simp only[hm]at h
      obtain⟨h6,h⟩:=h
      obtain⟨env'',h5,hH''⟩:=eP h hH'
      exact⟨fun _ _=>h6,hn _ _ _ h5 hH'' (fun _=>h6)⟩
   ·rw[if_neg (by simp[hw])]
    obtain⟨env'',h5,hH''⟩:=eP h hH'
    exact⟨fun _ h=>h,hn _ _ _ h5 hH'' (fun e=>hS (by simp at e;exact e.1))⟩
theorem sD{T:wG}(hT:iV P T){n:Nat}{nk:List Nat}(hs:Region.noSelect ops=true)(hQ:∀c a w,¬Q (.panic c) a w) :
  ∀(order:Scr) (live:Bool) (listed:Array Bool) (fuel:Nat) {k:Env→World→Prop} {env:Env} {w:World} {a:Act},
   scrB ops nk order live listed=true→order.len≤fuel→Holds n a env→(live=true→S w)→vcS P T n ops S nk order k env w→
   (∀env' w',k env' w'→∀a,Holds n a env'→Q .normal a w')→uY P .any ops Q S (fun j=>!(kF nk j)) fuel listed a w
 | .done,live,listed,fuel,k,env,w,a,ho,hf,hH,hS,h,hk=>by
   have hr:Region.ready .any ops listed=[]:=by
    replace ho:(Region.ready .any ops listed).isEmpty=true:=ho
    simpa using ho
   have hq:=hk _ _ h a hH
   cases fuel with
   | zero=>exact⟨hr,hq⟩
   | succ f=>exact⟨fun _=>hq,by rw[hr];simp⟩
 | .take _ r,_,_,0,_,_,_,_,_,hf,_,_,_,_=>absurd (show r.len+1≤0 from hf) (by omega)
 | .carry _ r,_,_,0,_,_,_,_,_,hf,_,_,_,_=>absurd (show r.len+1≤0 from hf) (by omega)
 | .both _ r _ s,_,_,0,_,_,_,_,_,hf,_,_,_,_=>absurd (show max r.len s.len+1≤0 from hf) (by omega)
 | (Scr.take i r),live,listed,fuel+1,k,env,w,a,ho,hf,hH,hS,h,hk=>by
   replace ho:((Region.ready .any ops listed).contains i&&Region.free .any ops listed i&&(match ops[i]? with
     | some o=>pureB o.op||(live&&(let D:=downs ops i;downsOk ops i D&&D.all (fun j=>!(listed.getD j true))&&nk.all (fun j=>listed.getD j true||kF D j)))
     | none=>false)&&scrB ops nk r live (listed.setIfInBounds i true))=true:=ho
   simp only[Bool.and_eq_true]at ho
   obtain⟨⟨⟨h1,h2⟩,h3⟩,h4⟩:=ho
   have hr:i∈Region.ready .any ops listed:=by simpa using h1
   cases hoi:ops[i]? with
   | none=>simp[hoi]at h3
   | some oi=>
     simp only[hoi]at h3
     replace h:(match ops[i]? with
      | some o=>wZ ops o.guard env
        (fun env=>opQ P T S env o.op fun v=>eF n o.dst v env fun env'=>vcS P T n ops S nk r k env' w)
        (fun env=>eF n o.dst undef env fun env'=>vcS P T n ops S nk r k env' w)
      | none=>False):=h
     simp only[hoi]at h
     have hfree:=Region.free_spec hoi h2
     have rest:∀(Sy:World→Prop) (v:Value) (env':Env),YieldsIf P ops Sy oi v a→eF n oi.dst v env' (fun env'=>vcS P T n ops S nk r k env' w)→Holds n a env'→Sy w→
       (∀D:List Nat,(∀j∈D,∃oj,ops[j]? = some oj∧∃e∈oj.after,Region.binds .any e=true∧(e.on=i∨e.on∈D))→(∀j∈D,listed.getD j true=false)→
        (∀j,j ∉ D→listed.getD j true=false→∀w w',Sy w→((!(kF nk j))=true→S w→S w')→Sy w')→
        uY P .any ops Q S (fun j=>!(kF nk j)) (fuel+1) listed a w):=by
      intro Sy v env' hy hd hH' hSy D hD1 hD2 hD3
      obtain⟨env'',h5,hH''⟩:=eP hd hH'
      exact zG (D:=D) hoi (Region.noSelect_spec hs) (fun c a w h=>(hQ _ _ _ h).elim) hD1 fuel listed a w hD2 hD3 hfree hr hy hSy
       (sD hT hs hQ r live (listed.setIfInBounds i true) fuel h4 (Nat.le_of_succ_le_succ hf) hH'' hS h5 hk)
     rcases qC h hH oi rfl with ⟨hw,env',h,hH'⟩|⟨hw,env',h,hH'⟩
     ·simp only[Bool.or_eq_true,Bool.and_eq_true]at h3
      rcases h3 with h3|⟨hl,⟨h6,h7⟩,h8⟩
      ·obtain⟨v,hv,hrun⟩:=rR (S:=fun _=>True) hT hH' oi.op oi.type oi.dst oi.pos oi.after oi.guard (opQ_pure _ h3 h)
       exact rest (fun _=>True) v env' (.inl ⟨hw,hrun⟩) hv hH' trivial [] (by simp) (by simp) (fun _ _ _ _ _ _ _=>trivial)
      ·obtain⟨v,hv,hrun⟩:=rR hT hH' oi.op oi.type oi.dst oi.pos oi.after oi.guard h
       refine rest S v env' (.inl ⟨hw,hrun⟩) hv hH' (hS hl) (downs ops i) (fun j hj=>?_) (fun j hj=>?_) (fun j hj hun w w' hSw hp=>?_)
       ·have:=List.all_eq_true.1 h6 j hj
        cases hoj:ops[j]? with
        | none=>simp[hoj]at this
        | some oj=>
          simp only[hoj]at this
          obtain⟨e,he,hb⟩:=Array.any_eq_true'.1 this
          simp only[Bool.and_eq_true,Bool.or_eq_true]at hb
          exact⟨oj,rfl,e,he,hb.1,hb.2.imp Nat.eq_of_beq_eq_true oK.1⟩
       ·simpa using List.all_eq_true.1 h7 j hj
       ·refine hp ?_ hSw
        cases hm:kF nk j with
        | false=>rfl
        | true=>
          have:=List.all_eq_true.1 h8 j (oK.1 hm)
          rw[hun]at this
          exact absurd (oK.1 (by simpa using this)) hj
     ·exact rest (fun _=>True) undef env' (.inr ⟨hw,rfl⟩) h hH' trivial [] (by simp) (by simp) (fun _ _ _ _ _ _ _=>trivial)
 | .carry i r,live,listed,fuel+1,k,env,w,a,ho,hf,hH,hS,h,hk=>by
   replace ho:((Region.ready .any ops listed == [i])&&scrB ops nk r (live&&!(kF nk i)) (listed.setIfInBounds i true))=true:=ho
   simp only[Bool.and_eq_true]at ho
   obtain⟨h1,h4⟩:=ho
   have hr:Region.ready .any ops listed=[i]:=by simpa using h1
   refine And.intro (fun h0=>(by rw[hr]at h0;cases h0)) (fun j hj=>?_)
   rw[hr]at hj
   obtain rfl:j=i:=by simpa using hj
   exact uF hT hH hS h fun env' w' a' h5 hH'' hS'=>sD hT hs hQ r _ (listed.setIfInBounds j true) fuel h4 (Nat.le_of_succ_le_succ hf) hH'' hS' h5 hk
 | .both i r j s,live,listed,fuel+1,k,env,w,a,ho,hf,hH,hS,h,hk=>by
   replace ho:((Region.ready .any ops listed == [i,j])&&scrB ops nk r (live&&!(kF nk i)) (listed.setIfInBounds i true)&&scrB ops nk s (live&&!(kF nk j)) (listed.setIfInBounds j true))=true:=ho
   simp only[Bool.and_eq_true]at ho
   obtain⟨⟨h1,h4⟩,h5⟩:=ho
   have hr:Region.ready .any ops listed=[i,j]:=by simpa using h1
   have hf':max r.len s.len≤fuel:=Nat.le_of_succ_le_succ hf
   obtain⟨hi,hjj⟩:=h
   refine And.intro (fun h0=>(by rw[hr]at h0;cases h0)) (fun m hm=>?_)
   rw[hr]at hm
   rcases(show m=i∨m=j by simpa using hm)with rfl|rfl
   ·exact uF hT hH hS hi fun env' w' a' h6 hH'' hS'=>sD hT hs hQ r _ (listed.setIfInBounds m true) fuel h4 (by omega) hH'' hS' h6 hk
   ·exact uF hT hH hS hjj fun env' w' a' h6 hH'' hS'=>sD hT hs hQ s _ (listed.setIfInBounds m true) fuel h5 (by omega) hH'' hS' h6 hk
theorem aQ.script{T:wG}(hT:iV P T)(hm:P.follows .mixedOrders=true){n:Nat}{K:Exit→Env→World→Prop}{env:Env}{w:World}
  (order:Scr) (nk:List Nat) (hs:(Region.noSelect ops&&Nat.ble order.len ops.size&&scrB ops nk order true (Array.replicate ops.size false))=true)
  (S:World→Prop) (hS:S w.drew) {X:Type} (E:X→Env) (J:X→World→Prop)
  (h:vcS P T n ops S nk order (fun env' w'=>∃x,J x w'∧Sub env' (E x)) env w.drew) (hj:∀x w',J x w'→K .normal (E x) w'):aQ P T n ops K env w:=by
 refine⟨fun Q hk a hH id=>?_⟩
 simp only[Bool.and_eq_true]at hs
 obtain⟨⟨h1,h2⟩,h3⟩:=hs
 let Q':Exit→Act→World→Prop:=fun e a w=>e=.normal∧Q .normal a w
 have hwp:(Code.region id ops true).wp P Q' a w:=
  wp_region_any hm (q9 _ _ _ _ (sD (S:=S) (Q:=Q') hT h1 (fun c a w h=>by cases h.1) order true _ _ h3 (by simpa [Nat.ble_eq] using h2) hH (fun _=>hS) h
   (fun env' w' ⟨x,hx,hsub⟩ a ha=>⟨rfl,hk _ _ (hj x w' hx) a (ha.sub hsub)⟩)))
 exact Code.wp_mono (fun e a w ⟨he,hq⟩=>by subst he;exact hq) hwp
end
section
variable {α:Type} {key:α→Int}
def Same(key:α→Int)(l l':List α):Prop:=∀k:Int,l.filter (fun x=>decide (key x=k))=l'.filter (fun x=>decide (key x=k))
def kC(key:α→Int)(l:List α):Prop:=l.Pairwise (fun x y=>key x≤key y)
theorem Same.refl(l:List α):Same key l l:=fun _=>rfl
theorem Same.trans{a b c:List α}(h:Same key a b)(g:Same key b c):Same key a c:=fun k=>(h k).trans (g k)
theorem Same.symm{a b:List α}(h:Same key a b):Same key b a:=fun k=>(h k).symm
theorem Same.app{a b c d:List α}(h:Same key a b)(g:Same key c d):Same key (a++c) (b++d):=fun k=>by
 rw[List.filter_append,List.filter_append,h k,g k]
theorem Same.mem{a b:List α}(h:Same key a b){x:α}(hx:x∈a):x∈b:=by
 have:x∈b.filter (fun y=>decide (key y=key x)):=by rw[←h (key x)];exact List.mem_filter.2 ⟨hx,by simp⟩
 exact(List.mem_filter.1 this).1
theorem Same.swap{X Y:List α}(h:∀x∈X,∀y∈Y,key x≠key y):Same key (X++Y) (Y++X):=fun k=>by
 rw[List.filter_append,List.filter_append]
 by_cases hx:∃x∈X,key x=k
 ·obtain⟨x,hx,rfl⟩:=hx
  have:Y.filter (fun y=>decide (key y=key x))=[]:=List.filter_eq_nil_iff.2 (fun y hy=>by simpa using (fun e=>h x hx y hy e.symm))
  rw[this];simp
 ·have:X.filter (fun y=>decide (key y=k))=[]:=List.filter_eq_nil_iff.2 (fun y hy=>by simpa using (fun e=>hx ⟨y,hy,e⟩))
  rw[this];simp
theorem Same.nil_of{l:List α}(h:Same key [] l):l=[]:=by
 cases l with
 | nil=>rfl
 | cons y ys=>exact absurd (h.symm.mem (List.mem_cons_self)) (by simp)
theorem Same.unique:∀{l l':List α},kC key l→kC key l'→Same key l l'→l=l'
 | [],l',_,_,h=>(Same.nil_of h).symm
 | x::xs,[],_,_,h=>by rw[Same.nil_of h.symm]
 | x::xs,y::ys,h1,h2,h=>by
   have hx:key y≤key x:=by
    rcases List.mem_cons.1 (h.mem (List.mem_cons_self (a:=x) (l:=xs)))with e|e
    ·rw[e];exact Int.le_refl _
    ·exact(List.pairwise_cons.1 h2).1 _ e
   have hy:key x≤key y:=by
    rcases List.mem_cons.1 (h.symm.mem (List.mem_cons_self (a:=y) (l:=ys)))with e|e
    ·rw[e];exact Int.le_refl _
    ·exact(List.pairwise_cons.1 h1).1 _ e
   have e:key x=key y:=by omega
   have h3:=h (key x)
   rw[List.filter_cons_of_pos (by simp),List.filter_cons_of_pos (by simp[e])]at h3
   have exy:x=y:=(List.cons.inj h3).1
   subst exy
   congr 1
   refine Same.unique (List.pairwise_cons.1 h1).2 (List.pairwise_cons.1 h2).2 fun k=>?_
   by_cases hk:key x=k
   ·subst hk
    exact(List.cons.inj h3).2
   ·have:=h k
    rwa [List.filter_cons_of_neg (by simp[hk]),List.filter_cons_of_neg (by simp[hk])]at this
theorem kC.nil:kC key ([]:List α):=List.Pairwise.nil
theorem kC.one(x:α):kC key [x]:=List.pairwise_singleton _ _
theorem kC.app{a b:List α}:kC key (a++b)↔kC key a∧kC key b∧∀x∈a,∀y∈b,key x≤key y:=List.pairwise_append
theorem swap_app(p m r:List α)(s x:α):((p++s::m++x::r).set (p.length+(m.length+1)) s).set p.length x=p++x::m++s::r:=by
 have e:p++s::m++x::r=(p++s::m)++x::r:=rfl
 rw[e,List.set_append_right (h:=by simp)]
 have:p.length+(m.length+1)-(p++s::m).length=0:=by simp
 rw[this,List.set_cons_zero,List.append_assoc,List.cons_append,List.set_append_right (h:=Nat.le_refl _),Nat.sub_self,List.set_cons_zero]
 simp
theorem swap_app'(p m r:List α)(s x:α):((p++s::m++x::r).set p.length x).set (p.length+(m.length+1)) s=p++x::m++s::r:=by
 rw[List.set_comm _ _ (by omega)]
 exact swap_app p m r s x
structure Ins(key:α→Int)(X:List α)(i:Nat)(S1 S2:List α)(x:α)(R:List α):Prop where
 len:S1.length+S2.length=i
 srt:kC key (S1++S2)
 gt:∀y∈S2,key x<key y
 same:Same key X (S1++x::S2++R)
theorem Ins.start{X S:List α}{x:α}{R:List α}(hs:kC key S)(h:Same key X (S++x::R)):Ins key X S.length S [] x R:=
 ⟨by simp,by simpa using hs,by simp,by simpa using h⟩
theorem Ins.step{X S1 S2 R:List α}{s x:α}{i:Nat}(h:Ins key X i (S1++[s]) S2 x R)(hlt:key x<key s):Ins key X i S1 (s::S2) x R:=by
 refine⟨by have:=h.len;simp at this ⊢;omega,by simpa using h.srt,fun y hy=>?_,?_⟩
 ·rcases List.mem_cons.1 hy with e|e
  ·rw[e];exact hlt
  ·exact h.gt _ e
 ·refine h.same.trans ?_
  have e1:S1++[s]++x::S2++R=S1++([s]++[x])++(S2++R):=by simp
  have e2:S1++x::(s::S2)++R=S1++([x]++[s])++(S2++R):=by simp
  rw[e1,e2]
  refine Same.app (Same.app (Same.refl _) (Same.swap fun a ha b hb=>?_)) (Same.refl _)
  rw[List.mem_singleton.1 ha,List.mem_singleton.1 hb]
  omega
theorem Ins.stop{X S1 S2 R:List α}{x:α}{i:Nat}(h:Ins key X i S1 S2 x R)(hle:∀s,S1.getLast? = some s→key s≤key x):kC key (S1++x::S2):=by
 obtain⟨a1,a2,a3⟩:=kC.app.1 h.srt
 refine kC.app.2 ⟨a1,List.pairwise_cons.2 ⟨fun y hy=>Int.le_of_lt (h.gt y hy),a2⟩,fun u hu y hy=>?_⟩
 have hux:key u≤key x:=by
  cases hS:S1.getLast? with
  | none=>rw[List.getLast?_eq_none_iff]at hS;rw[hS]at hu;cases hu
  | some s=>
    have h1:=hle s hS
    obtain⟨S0,rfl⟩:=List.getLast?_eq_some_iff.1 hS
    obtain⟨_,_,b3⟩:=kC.app.1 a1
    rcases List.mem_append.1 hu with e|e
    ·exact Int.le_trans (b3 _ e _ (List.mem_singleton.2 rfl)) h1
    ·rw[List.mem_singleton.1 e];exact h1
 rcases List.mem_cons.1 hy with e|e
 ·rw[e];exact hux
 ·exact Int.le_trans hux (Int.le_of_lt (h.gt _ e))
theorem merge_cut{A1 A2 B1 B2 M1 M2:List α}(hL:kC key (A1++A2))(hR:kC key (B1++B2))(h1:∀a∈A1,∀b∈B2,key a≤key b)(h2:∀b∈B1,∀a∈A2,key b<key a)
  (m1:kC key M1) (s1:Same key (A1++B1) M1) (m2:kC key M2) (s2:Same key (A2++B2) M2):kC key (M1++M2)∧Same key (A1++A2++(B1++B2)) (M1++M2):=by
 obtain⟨_,_,a3⟩:=kC.app.1 hL
 obtain⟨_,_,b3⟩:=kC.app.1 hR
 constructor
 ·refine kC.app.2 ⟨m1,m2,fun u hu v hv=>?_⟩
  have hu':=s1.symm.mem hu
  have hv':=s2.symm.mem hv
  rcases List.mem_append.1 hu' with e|e<;>rcases List.mem_append.1 hv' with g|g
  ·exact a3 _ e _ g
  ·exact h1 _ e _ g
  ·exact Int.le_of_lt (h2 _ e _ g)
  ·exact b3 _ e _ g
 ·have e1:A1++A2++(B1++B2)=A1++(A2++B1)++B2:=by simp
  have e2:A1++(B1++A2)++B2=(A1++B1)++(A2++B2):=by simp
  rw[e1]
  refine Same.trans (Same.app (Same.app (Same.refl _) (Same.swap fun a ha b hb=>?_)) (Same.refl _)) ?_
  ·have:=h2 b hb a ha;omega
  ·rw[e2];exact Same.app s1 s2
theorem cut_le{L R:List α}(hL:kC key L)(hR:kC key R){s t:Nat}(h:∀(i:s-1<L.length) (j:t<R.length),0<s→key L[s-1]≤key R[t])(hs:s≤L.length):∀a∈L.take s,∀b∈R.drop t,key a≤key b:=fun a ha b hb=>by
 obtain⟨i,hi,rfl⟩:=List.mem_take_iff_getElem.1 ha
 obtain⟨j,hj,rfl⟩:=List.mem_drop_iff_getElem.1 hb
 have hR':=List.pairwise_iff_getElem.1 hR
 have hL':=List.pairwise_iff_getElem.1 hL
 have h0:=h (by omega) (by omega) (by omega)
 have h1:key L[i]≤key L[s-1]:=by
  by_cases e:i=s-1
  ·subst e;exact Int.le_refl _
  ·exact hL' _ _ _ _ (by omega)
 have h2:key R[t]≤key R[t+j]:=by
  by_cases e:j=0
  ·subst e;exact Int.le_refl _
  ·exact hR' _ _ _ _ (by omega)
 omega
theorem cut_lt{L R:List α}(hL:kC key L)(hR:kC key R){s t:Nat}(h:∀(i:s<L.length) (j:t-1<R.length),0<t→key R[t-1]<key L[s])(ht:t≤R.length):∀b∈R.take t,∀a∈L.drop s,key b<key a:=fun b hb a ha=>by
 obtain⟨j,hj,rfl⟩:=List.mem_take_iff_getElem.1 hb
 obtain⟨i,hi,rfl⟩:=List.mem_drop_iff_getElem.1 ha
 have hR':=List.pairwise_iff_getElem.1 hR
 have hL':=List.pairwise_iff_getElem.1 hL
 have h0:=h (by omega) (by omega) (by omega)
 have h1:key R[j]≤key R[t-1]:=by
  by_cases e:j=t-1
  ·subst e;exact Int.le_refl _
  ·exact hR' _ _ _ _ (by omega)
 have h2:key L[s]≤key L[s+i]:=by
  by_cases e:i=0
  ·subst e;exact Int.le_refl _
  ·exact hL' _ _ _ _ (by omega)
 omega
inductive Blocks(key:α→Int)(bs:Nat):List α→Prop
 | last {l:List α} (h:kC key l) (hl:l.length≤bs):Blocks key bs l
 | cons {t r:List α} (h:kC key t) (hl:t.length=bs) (hr:Blocks key bs r):Blocks key bs (t++r)
inductive Done(key:α→Int)(bs:Nat):List α→Prop
 | nil:Done key bs []
 | snoc {d t:List α} (hd:Done key bs d) (h:kC key t) (hl:t.length=bs):Done key bs (d++t)
theorem Done.blocks{bs:Nat}{d:List α}(h:Done key bs d):∀{r:List α},Blocks key bs r→Blocks key bs (d++r):=by
 induction h with
 | nil=>intro r hr;exact hr
 | snoc hd h hl ih=>intro r hr;rw[List.append_assoc];exact ih (.cons h hl hr)
theorem Blocks.small{bs:Nat}{r:List α}(h:Blocks key bs r)(h1:r.length≤bs):kC key r:=by
 cases h with
 | last h hl=>exact h
 | cons h hl hr=>
   rename_i t r
   have:r=[]:=List.eq_nil_of_length_eq_zero (by rw[List.length_append]at h1;omega)
   subst this
   simpa using h
theorem Blocks.head{bs:Nat}{r:List α}(h:Blocks key bs r)(h1:bs≤r.length):∃t r',r=t++r'∧t.length=bs∧kC key t∧Blocks key bs r':=by
 cases h with
 | last h hl=>exact⟨r,[],by simp,by omega,h,.last kC.nil (Nat.zero_le _)⟩
 | cons h hl hr=>exact⟨_,_,rfl,hl,h,hr⟩
theorem Blocks.two{bs:Nat}{r:List α}(h:Blocks key bs r)(h1:2*bs≤r.length):∃t1 t2 r',r=t1++t2++r'∧t1.length=bs∧t2.length=bs∧kC key t1∧kC key t2∧Blocks key bs r':=by
 obtain⟨t1,r1,rfl,l1,s1,b1⟩:=h.head (by omega)
 rw[List.length_append]at h1
 obtain⟨t2,r2,rfl,l2,s2,b2⟩:=b1.head (by omega)
 exact⟨t1,t2,r2,by simp,l1,l2,s1,s2,b2⟩
theorem Blocks.tail{bs:Nat}{r:List α}(h:Blocks key bs r)(h1:bs≤r.length)(h2:r.length≤2*bs):∃t1 t2,r=t1++t2∧t1.length=bs∧kC key t1∧kC key t2:=by
 obtain⟨t1,r1,rfl,l1,s1,b1⟩:=h.head (by omega)
 rw[List.length_append]at h2
 exact⟨t1,r1,rfl,l1,s1,b1.small (by omega)⟩
def uK(key:α→Int)(x:α):List α→List α
 | []=>[x]
 | y::r=>if key x≤key y then x::y::r else y::uK key x r
def eH(key:α→Int):List α→List α
 | []=>[]
 | x::r=>uK key x (eH key r)
theorem insK_same(x:α):∀l:List α,Same key (x::l) (uK key x l)
 | []=>Same.refl _
 | y::r=>by
   unfold uK
   split
   ·exact Same.refl _
   ·rename_i h
    refine Same.trans (b:=y::x::r) ?_ ?_
    ·have:=Same.app (Same.swap (key:=key) (X:=[x]) (Y:=[y]) (fun a ha b hb=>by rw[List.mem_singleton.1 ha,List.mem_singleton.1 hb];omega)) (Same.refl r)
     simpa using this
    ·have:=Same.app (Same.refl (key:=key) [y]) (insK_same x r)
     simpa using this
theorem insK_srt(x:α):∀{l:List α},kC key l→kC key (uK key x l)
 | [],_=>kC.one x
 | y::r,h=>by
   unfold uK
   obtain⟨h1,h2⟩:=List.pairwise_cons.1 h
   split
   ·rename_i g
    refine List.pairwise_cons.2 ⟨fun z hz=>?_,h⟩
    rcases List.mem_cons.1 hz with e|e
    ·rw[e];exact g
    ·exact Int.le_trans g (h1 z e)
   ·rename_i g
    refine List.pairwise_cons.2 ⟨fun z hz=>?_,insK_srt x h2⟩
    rcases List.mem_cons.1 ((insK_same x r).symm.mem hz)with e|e
    ·rw[e];omega
    ·exact h1 z e
theorem vI:∀l:List α,kC key (eH key l)
 | []=>kC.nil
 | x::r=>insK_srt x (vI r)
theorem lH:∀l:List α,Same key l (eH key l)
 | []=>Same.refl _
 | x::r=>by
   have:=Same.app (Same.refl (key:=key) [x]) (lH r)
   exact Same.trans (by simpa using this) (insK_same x _)
theorem isort_of{l l':List α}(h:kC key l')(h1:Same key l l'):l'=eH key l:=
 Same.unique h (vI l) (h1.symm.trans (lH l))
theorem isort_congr{l l':List α}(h:Same key l l'):eH key l=eH key l':=
 isort_of (vI l) (h.symm.trans (lH l))
end
end Go.V
end
section
namespace Go.Proofs.YtelffdgcikceaaaGreatDoor
open Go.V
open Go.RowKit (Below)
def kx(r:aR):Int:=r.kind*18446744073709551616+r.target
structure RWf(r:aR):Prop where
 kind:0≤r.kind∧r.kind≤255
 target:-9223372036854775808≤r.target∧r.target≤9223372036854775807
 one:r.nodes.oneCell'=true
def vX(a b:Int):Int:=if a<b then -1 else if b<a then 1 else 0
theorem isNaNk_con(k:Int)(w:World):bV Tryz.prog 83 #[.int .u8 k] w (fun v w'=>v=.bool false∧w'=w):=by
 refine enter aB Tryz.func83 (aV rfl) rfl rfl rfl ?_
 exact And.intro (by simp[aC]) rfl
theorem isNaNi_con(k:Int)(w:World):bV Tryz.prog 84 #[.int .i64 k] w (fun v w'=>v=.bool false∧w'=w):=by
 refine enter aB Tryz.func84 (aV rfl) rfl rfl rfl ?_
 exact And.intro (by simp[aC]) rfl
theorem Comparek_con(a b:Int)(w:World):bV Tryz.prog 39 #[.int .u8 a,.int .u8 b] w (fun v w'=>v=.int .i64 (vX a b)∧w'=w):=by
 refine enter aB Tryz.func39 (aV rfl) rfl rfl rfl ?_
 refine aA.mk _ (isNaNk_con a w) ?_
 rintro v w1 ⟨rfl,rfl⟩
 refine aA.mk _ (isNaNk_con b _) ?_
 rintro v w2 ⟨rfl,rfl⟩
 refine Cond.no ?_
 refine Cond.no ?_
 refine Cond.dec (fun g1=>?_) (fun g1=>?_)
 ·exact And.intro (by simp[aC,vX,g1]) rfl
 ·refine Cond.dec (fun g2=>?_) (fun g2=>?_)
  ·exact And.intro (by simp[aC,vX,g1,g2]) rfl
  ·exact And.intro (by simp[aC,vX,g1,g2]) rfl
theorem Comparei_con(a b:Int)(w:World):bV Tryz.prog 40 #[.int .i64 a,.int .i64 b] w (fun v w'=>v=.int .i64 (vX a b)∧w'=w):=by
 refine enter aB Tryz.func40 (aV rfl) rfl rfl rfl ?_
 refine aA.mk _ (isNaNi_con a w) ?_
 rintro v w1 ⟨rfl,rfl⟩
 refine aA.mk _ (isNaNi_con b _) ?_
 rintro v w2 ⟨rfl,rfl⟩
 refine Cond.no ?_
 refine Cond.no ?_
 refine Cond.dec (fun g1=>?_) (fun g1=>?_)
 ·exact And.intro (by simp[aC,vX,g1]) rfl
 ·refine Cond.dec (fun g2=>?_) (fun g2=>?_)
  ·exact And.intro (by simp[aC,vX,g1,g2]) rfl
  ·exact And.intro (by simp[aC,vX,g1,g2]) rfl
theorem Or_con(b:Nat)(x y:Int)(w:World)(hb:bQ w b [.int .i64 x,.int .i64 y] 3) :
  bV Tryz.prog 38 #[.slice (some ⟨b,0,none⟩) 2 2] w (fun v w'=>v=.int .i64 (if x≠0 then x else y)∧w'=w):=by
 refine enter aB Tryz.func38 (aV rfl) rfl rfl rfl ?_
 refine aH.mk (X:=Nat) (fun k=>[(0,.slice (some ⟨b,0,none⟩) 2 2),(2,.int .i64 0),(3,.int .i64 0),(6,.slice (some ⟨b,0,none⟩) 2 2),(7,.int .i64 2),(8,.int .i64 k)])
  (fun k w'=>w'=w∧k≤2∧(0<k→x=0)∧(1<k→y=0)) (fun k=>2-k) 0 ⟨rfl,by omega,by omega,by omega⟩ ⟨rfl,rfl,rfl,rfl,rfl,rfl,trivial⟩ ?_
 rintro k w1 ⟨rfl,hk,hx,hy⟩
 refine Cond.dec (fun g1=>?_) (fun g1=>?_)
 ·refine Idx.mk ⟨b,0,none⟩ rfl (by omega) (by omega) ?_
  have hk2:k=0∨k=1:=by omega
  rcases hk2 with rfl|rfl
  ·refine Load.here (hb.cells.one (k:=0) rfl) ?_
   refine Cond.dH (fun g2=>?_) (fun g2=>?_)
   ·exact And.intro (by simp[aC,g2]) rfl
   ·refine Ar.i64 (by omega) ?_
    exact⟨1,⟨rfl,by omega,fun _=>g2,by omega⟩,by omega,rfl,rfl,rfl,rfl,rfl,rfl,trivial⟩
  ·refine Load.here (hb.cells.one (k:=1) rfl) ?_
   have hx0:=hx (by omega)
   refine Cond.dH (fun g2=>?_) (fun g2=>?_)
   ·exact And.intro (by simp[aC,g2,hx0]) rfl
   ·refine Ar.i64 (by omega) ?_
    exact⟨2,⟨rfl,by omega,fun _=>hx0,fun _=>g2⟩,by omega,rfl,rfl,rfl,rfl,rfl,rfl,trivial⟩
 ·have hx0:=hx (by omega)
  have hy0:=hy (by omega)
  exact And.intro (by simp[aC,hx0,hy0]) rfl
theorem run_build126(x y:Int)(w:World):(Instr.buildSlice 126 2 #[(0,.int .i64 x),(1,.int .i64 y)]).run Tryz.prog w=.ok (.slice (some ⟨w.heap.size,0,none⟩) 2 2) (w.alloc (.cells #[.int .i64 x,.int .i64 y] 3)):=by kernel_rfl
theorem cmpI_neg{a b:Int}:vX a b<0↔a<b:=by
 unfold vX
 repeat' split
 all_goals omega
theorem cmpI_zero{a b:Int}:vX a b=0↔a=b:=by
 unfold vX
 repeat' split
 all_goals omega
theorem vO(a b:aR)(w:World)(ha:RWf a)(hb:RWf b) :
  bV Tryz.prog 37 #[.agg a.cells.toArray,.agg b.cells.toArray] w (fun v w'=>(∃c,v=.int .i64 c∧(c<0↔kx a<kx b))∧Ext w w'):=by
 have ha1:=ha.kind;have ha2:=ha.target;have hb1:=hb.kind;have hb2:=hb.target
 obtain⟨ak,at_,ax,an⟩:=a
 obtain⟨bk,bt,bx,bn⟩:=b
 refine enter aB Tryz.func37 (aV rfl) rfl rfl rfl ?_
 refine aG.box [.int .u8 ak,.int .i64 at_,.string ax,an] rfl fun p w1 n1=>?_
 refine aG.box [.int .u8 bk,.int .i64 bt,.string bx,bn] rfl fun q w2 n2=>?_
 have hE:=(n1.ext.trans n2.ext).trans (Ext.drew w2)
 have hp:=(n1.blk.ext n2.ext).ext (Ext.drew w2)
 have hq:=n2.blk.ext (Ext.drew w2)
 refine aQ.mk aB mixed [(0,true),(1,true),(2,true),(3,true),(5,true),(6,true),(7,true),(8,true),(4,false),(9,false),(10,false),(11,false),(12,true)] [9,10,11] (by kernel_rfl) (fun w'=>w'=w2.drew) rfl ?_
 refine Load.here (hp.cells.one (k:=0) rfl) ?_
 refine Load.here (hq.cells.one (k:=0) rfl) ?_
 refine Load.here (hp.cells.one (k:=1) rfl) ?_
 refine Load.here (hq.cells.one (k:=1) rfl) ?_
 refine aA.mk _ (Comparek_con _ _ _) ?_
 rintro v w3 ⟨rfl,rfl⟩
 refine Need.mk rfl ?_
 refine aA.mk _ (Comparei_con _ _ _) ?_
 rintro v w3 ⟨rfl,rfl⟩
 refine aG.mk _ _ (run_build126 _ _ _) ?_
 have n3:bO w2.drew w2.drew.heap.size [.int .i64 (vX ak bk),.int .i64 (vX at_ bt)] 3 (w2.drew.alloc (.cells #[.int .i64 (vX ak bk),.int .i64 (vX at_ bt)] 3)):=⟨rfl,rfl⟩
 refine aA.mk _ (Or_con _ _ _ _ n3.blk) ?_
 rintro v w4 ⟨rfl,rfl⟩
 refine And.intro ⟨_,rfl,?_⟩ (hE.trans n3.ext)
 simp only[kx]at *
 by_cases h:ak=bk
 ·rw[if_neg (by simp[cmpI_zero,h]),cmpI_neg,h]
  omega
 ·rw[if_pos (by simp[cmpI_zero,h]),cmpI_neg]
  omega
end Go.Proofs.YtelffdgcikceaaaGreatDoor
end
section
namespace Go.Proofs
open Go.Shelf
def Tryz.lays144_ren:Go.Shelf.Ren:=⟨fun|144=>168|143=>198|219=>215|217=>214|225=>197|224=>196|267=>228|266=>227|314=>231|n=>n,fun|9=>9|4=>4|3=>3|5=>5|46=>107|146=>165|51=>164|n=>n,fun|1=>6|n=>n⟩
theorem Tryz.lays144:Go.Proofs.Lays.n144 Tryz.prog Tryz.lays144_ren:={
 mixed:=by kernel_rfl
 f143:=Tryz.func198.trans (congrArg some (by kernel_rfl))
 f144:=Tryz.func168.trans (congrArg some (by kernel_rfl))
 f217:=Tryz.func214.trans (congrArg some (by kernel_rfl))
 f219:=Tryz.func215.trans (congrArg some (by kernel_rfl))
 f224:=Tryz.func196.trans (congrArg some (by kernel_rfl))
 f225:=Tryz.func197.trans (congrArg some (by kernel_rfl))
 f266:=Tryz.func227.trans (congrArg some (by kernel_rfl))
 f267:=Tryz.func228.trans (congrArg some (by kernel_rfl))
 f314:=Tryz.func231.trans (congrArg some (by kernel_rfl))
 t3:=Tryz.underlying3
 a3:=Tryz.isAgg3
 z3:=Tryz.sizeOf3
 v3:=Tryz.zeroValue3
 t4:=Tryz.underlying4
 a4:=Tryz.isAgg4
 z4:=Tryz.sizeOf4
 v4:=Tryz.zeroValue4
 t5:=Tryz.underlying5
 a5:=Tryz.isAgg5
 z5:=Tryz.sizeOf5
 v5:=Tryz.zeroValue5
 t9:=Tryz.underlying9
 a9:=Tryz.isAgg9
 z9:=Tryz.sizeOf9
 v9:=Tryz.zeroValue9
 t46:=Tryz.underlying107
 a46:=Tryz.isAgg107
 z46:=Tryz.sizeOf107
 v46:=Tryz.zeroValue107
 t51:=Tryz.underlying164
 a51:=Tryz.isAgg164
 z51:=Tryz.sizeOf164
 v51:=Tryz.zeroValue164
 t146:=Tryz.underlying165
 a146:=Tryz.isAgg165
 z146:=Tryz.sizeOf165
 v146:=Tryz.zeroValue165
 g1:=by kernel_rfl }
def Tryz.lays100_ren:Go.Shelf.Ren:=⟨fun|100=>169|207=>199|n=>n,fun|9=>9|4=>4|3=>3|n=>n,fun|n=>n⟩
theorem Tryz.lays100:Go.Proofs.Lays.n100 Tryz.prog Tryz.lays100_ren:={
 mixed:=by kernel_rfl
 f100:=Tryz.func169.trans (congrArg some (by kernel_rfl))
 f207:=Tryz.func199.trans (congrArg some (by kernel_rfl))
 t3:=Tryz.underlying3
 a3:=Tryz.isAgg3
 z3:=Tryz.sizeOf3
 v3:=Tryz.zeroValue3
 t4:=Tryz.underlying4
 a4:=Tryz.isAgg4
 z4:=Tryz.sizeOf4
 v4:=Tryz.zeroValue4
 t9:=Tryz.underlying9
 a9:=Tryz.isAgg9
 z9:=Tryz.sizeOf9
 v9:=Tryz.zeroValue9 }
def Tryz.lays151_ren:Go.Shelf.Ren:=⟨fun|151=>114|152=>166|137=>194|119=>195|224=>196|225=>197|217=>214|266=>227|n=>n,fun|9=>9|21=>21|4=>4|3=>3|5=>5|0=>0|46=>107|n=>n,fun|n=>n⟩
theorem Tryz.lays151:Go.Proofs.Lays.n151 Tryz.prog Tryz.lays151_ren:={
 mixed:=by kernel_rfl
 f119:=Tryz.func195.trans (congrArg some (by kernel_rfl))
 f137:=Tryz.func194.trans (congrArg some (by kernel_rfl))
 f151:=Tryz.func114.trans (congrArg some (by kernel_rfl))
 f152:=Tryz.func166.trans (congrArg some (by kernel_rfl))
 f217:=Tryz.func214.trans (congrArg some (by kernel_rfl))
 f224:=Tryz.func196.trans (congrArg some (by kernel_rfl))
 f225:=Tryz.func197.trans (congrArg some (by kernel_rfl))
 f266:=Tryz.func227.trans (congrArg some (by kernel_rfl))
 t0:=Tryz.underlying0
 a0:=Tryz.isAgg0
 z0:=Tryz.sizeOf0
 v0:=Tryz.zeroValue0
 t3:=Tryz.underlying3
 a3:=Tryz.isAgg3
 z3:=Tryz.sizeOf3
 v3:=Tryz.zeroValue3
 t4:=Tryz.underlying4
 a4:=Tryz.isAgg4
 z4:=Tryz.sizeOf4
 v4:=Tryz.zeroValue4
 t5:=Tryz.underlying5
 a5:=Tryz.isAgg5
 z5:=Tryz.sizeOf5
 v5:=Tryz.zeroValue5
 t9:=Tryz.underlying9
 a9:=Tryz.isAgg9
 z9:=Tryz.sizeOf9
 v9:=Tryz.zeroValue9
 t21:=Tryz.underlying21
 a21:=Tryz.isAgg21
 z21:=Tryz.sizeOf21
 v21:=Tryz.zeroValue21
 t46:=Tryz.underlying107
 a46:=Tryz.isAgg107
 z46:=Tryz.sizeOf107
 v46:=Tryz.zeroValue107 }
end Go.Proofs
end
section
namespace Go.Proofs
open Go.Shelf
def Tryz.lays196_ren:Go.Shelf.Ren:=⟨fun|196=>135|259=>180|n=>n,fun|9=>9|4=>4|3=>3|5=>5|12=>12|119=>259|0=>0|46=>107|139=>262|138=>261|53=>167|n=>n,fun|3=>4|4=>5|n=>n⟩
theorem Tryz.lays196:Go.Proofs.Lays.n196 Tryz.prog Tryz.lays196_ren:={
 mixed:=by kernel_rfl
 f196:=Tryz.func135.trans (congrArg some (by kernel_rfl))
 f259:=Tryz.func180.trans (congrArg some (by kernel_rfl))
 t0:=Tryz.underlying0
 a0:=Tryz.isAgg0
 z0:=Tryz.sizeOf0
 v0:=Tryz.zeroValue0
 t3:=Tryz.underlying3
 a3:=Tryz.isAgg3
 z3:=Tryz.sizeOf3
 v3:=Tryz.zeroValue3
 t4:=Tryz.underlying4
 a4:=Tryz.isAgg4
 z4:=Tryz.sizeOf4
 v4:=Tryz.zeroValue4
 t5:=Tryz.underlying5
 a5:=Tryz.isAgg5
 z5:=Tryz.sizeOf5
 v5:=Tryz.zeroValue5
 t9:=Tryz.underlying9
 a9:=Tryz.isAgg9
 z9:=Tryz.sizeOf9
 v9:=Tryz.zeroValue9
 t12:=Tryz.underlying12
 a12:=Tryz.isAgg12
 z12:=Tryz.sizeOf12
 v12:=Tryz.zeroValue12
 t46:=Tryz.underlying107
 a46:=Tryz.isAgg107
 z46:=Tryz.sizeOf107
 v46:=Tryz.zeroValue107
 t53:=Tryz.underlying167
 a53:=Tryz.isAgg167
 z53:=Tryz.sizeOf167
 v53:=Tryz.zeroValue167
 t119:=Tryz.underlying259
 a119:=Tryz.isAgg259
 z119:=Tryz.sizeOf259
 t138:=Tryz.underlying261
 a138:=Tryz.isAgg261
 z138:=Tryz.sizeOf261
 v138:=Tryz.zeroValue261
 t139:=Tryz.underlying262
 a139:=Tryz.isAgg262
 z139:=Tryz.sizeOf262
 v139:=Tryz.zeroValue262
 g3:=by kernel_rfl
 g4:=by kernel_rfl }
def Tryz.lays160_ren:Go.Shelf.Ren:=⟨fun|160=>202|232=>220|231=>219|227=>221|234=>223|233=>222|236=>225|235=>224|228=>229|271=>230|151=>114|197=>200|120=>232|152=>166|260=>216|137=>194|119=>195|224=>196|225=>197|217=>214|266=>227|n=>n,fun|9=>9|4=>4|3=>3|5=>5|117=>294|116=>293|0=>0|124=>297|21=>21|105=>174|46=>107|119=>259|139=>262|138=>261|n=>n,fun|3=>4|4=>5|n=>n⟩
theorem Tryz.lays160:Go.Proofs.Lays.n160 Tryz.prog Tryz.lays160_ren:={
 mixed:=by kernel_rfl
 f119:=Tryz.func195.trans (congrArg some (by kernel_rfl))
 f120:=Tryz.func232.trans (congrArg some (by kernel_rfl))
 f137:=Tryz.func194.trans (congrArg some (by kernel_rfl))
 f151:=Tryz.func114.trans (congrArg some (by kernel_rfl))
 f152:=Tryz.func166.trans (congrArg some (by kernel_rfl))
 f160:=Tryz.func202.trans (congrArg some (by kernel_rfl))
 f197:=Tryz.func200.trans (congrArg some (by kernel_rfl))
 f217:=Tryz.func214.trans (congrArg some (by kernel_rfl))
 f224:=Tryz.func196.trans (congrArg some (by kernel_rfl))
 f225:=Tryz.func197.trans (congrArg some (by kernel_rfl))
 f227:=Tryz.func221.trans (congrArg some (by kernel_rfl))
 f228:=Tryz.func229.trans (congrArg some (by kernel_rfl))
 f231:=Tryz.func219.trans (congrArg some (by kernel_rfl))
 f232:=Tryz.func220.trans (congrArg some (by kernel_rfl))
 f233:=Tryz.func222.trans (congrArg some (by kernel_rfl))
 f234:=Tryz.func223.trans (congrArg some (by kernel_rfl))
 f235:=Tryz.func224.trans (congrArg some (by kernel_rfl))
 f236:=Tryz.func225.trans (congrArg some (by kernel_rfl))
 f260:=Tryz.func216.trans (congrArg some (by kernel_rfl))
 f266:=Tryz.func227.trans (congrArg some (by kernel_rfl))
 f271:=Tryz.func230.trans (congrArg some (by kernel_rfl))
 t0:=Tryz.underlying0
 a0:=Tryz.isAgg0
 z0:=Tryz.sizeOf0
 v0:=Tryz.zeroValue0
 t3:=Tryz.underlying3
 a3:=Tryz.isAgg3
 z3:=Tryz.sizeOf3
 v3:=Tryz.zeroValue3
 t4:=Tryz.underlying4
 a4:=Tryz.isAgg4
 z4:=Tryz.sizeOf4
 v4:=Tryz.zeroValue4
 t5:=Tryz.underlying5
 a5:=Tryz.isAgg5
 z5:=Tryz.sizeOf5
 v5:=Tryz.zeroValue5
 t9:=Tryz.underlying9
 a9:=Tryz.isAgg9
 z9:=Tryz.sizeOf9
 v9:=Tryz.zeroValue9
 t21:=Tryz.underlying21
 a21:=Tryz.isAgg21
 z21:=Tryz.sizeOf21
 v21:=Tryz.zeroValue21
 t46:=Tryz.underlying107
 a46:=Tryz.isAgg107
 z46:=Tryz.sizeOf107
 v46:=Tryz.zeroValue107
 t105:=Tryz.underlying174
 a105:=Tryz.isAgg174
 z105:=Tryz.sizeOf174
 v105:=Tryz.zeroValue174
 t116:=Tryz.underlying293
 a116:=Tryz.isAgg293
 z116:=Tryz.sizeOf293
 t117:=Tryz.underlying294
 a117:=Tryz.isAgg294
 z117:=Tryz.sizeOf294
 v117:=Tryz.zeroValue294
 t119:=Tryz.underlying259
 a119:=Tryz.isAgg259
 z119:=Tryz.sizeOf259
 t124:=Tryz.underlying297
 a124:=Tryz.isAgg297
 z124:=Tryz.sizeOf297
 v124:=Tryz.zeroValue297
 t138:=Tryz.underlying261
 a138:=Tryz.isAgg261
 z138:=Tryz.sizeOf261
 v138:=Tryz.zeroValue261
 t139:=Tryz.underlying262
 a139:=Tryz.isAgg262
 z139:=Tryz.sizeOf262
 v139:=Tryz.zeroValue262
 g3:=by kernel_rfl
 g4:=by kernel_rfl }
end Go.Proofs
end
section
namespace Go.Proofs.YtelffdgcikceaaaGreatDoor
open Go.V
open Go.RowKit (Below)
theorem con_of{P:Program}{f:Nat}{args:Array Value}{w:World}{v:Value}{R:World→Prop}(hf:fnB P f=true)(h:Calls P f args w fun e w'=>e=.returned v∧R w') :
  bV P f args w (fun v' w'=>v'=v∧R w'):=⟨hf,h.mono fun e w' ⟨h1,h2⟩=>⟨v,h1,rfl,h2⟩⟩
theorem tJ(s:ByteArray)(w:World)(hs:s.size≤9223372036854775807)(hG:jV w) :
  bV Tryz.prog 135 #[.string s] w (fun v w'=>v=.bool (Lib.validD s.data.toList)∧Ext w w'):=
 con_of (aV rfl) (Any.utf8_ValidString Tryz.lays196 s w hs hG.utf8)
theorem xL(s p:ByteArray)(w:World)(hs:s.size<4294967281)(hG:jV w) :
  bV Tryz.prog 168 #[.string s,.string p] w (fun v w'=>v=.bool (Lib.contains s.data.toList p.data.toList)∧w'=w):=by
 obtain⟨m,hm⟩:=hG.maxLen
 exact con_of (aV rfl) (Any.strings_Contains Tryz.lays144 s p m w hs hm)
theorem HasSuffix_con(s p:ByteArray)(w:World)(hs:s.size≤9223372036854775807) :
  bV Tryz.prog 169 #[.string s,.string p] w (fun v w'=>v=.bool (Lib.hasSuffix s.data.toList p.data.toList)∧w'=w):=
 con_of (aV rfl) (Any.strings_HasSuffix Tryz.lays100 s p w hs)
theorem ContainsRune_con(s:ByteArray)(r:Int)(w:World)(h0:0≤r)(h1:r<128) :
  bV Tryz.prog 114 #[.string s,.int .i32 r] w (fun v w'=>v=.bool (decide (0≤Lib.indexByte s.data.toList r.toNat.toUInt8))∧w'=w):=
 con_of (aV rfl) (Any.strings_ContainsRune_ascii Tryz.lays151 s r w h0 h1)
def blanksL:List UInt8:=[32,9,10,13]
def blankB(l:List UInt8):Bool:=decide (Lib.trimS l blanksL=[])
theorem Trim_con(s:ByteArray)(w:World)(hs:s.size≤9223372036854775807) :
  bV Tryz.prog 202 #[.string s,.string ⟨#[32,9,10,13]⟩] w (fun v w'=>v=.string ⟨(Lib.trimS s.data.toList blanksL).toArray⟩∧Ext w w'):=
 con_of (aV rfl) (Any.strings_Trim_laid Tryz.lays160 (by kernel_rfl) s ⟨#[32,9,10,13]⟩ w hs (by decide) (by
  intro j b hb
  match j,hb with
  | 0,hb=>cases hb;decide
  | 1,hb=>cases hb;decide
  | 2,hb=>cases hb;decide
  | 3,hb=>cases hb;decide
  | j+4,hb=>simp at hb))
theorem Blank_con(s:ByteArray)(w:World)(hs:s.size≤9223372036854775807) :
  bV Tryz.prog 171 #[.string s] w (fun v w'=>v=.bool (blankB s.data.toList)∧Ext w w'):=by
 refine enter aB Tryz.func171 (aV rfl) rfl rfl rfl ?_
 refine aA.mk _ (Trim_con s w hs) ?_
 rintro v w1 ⟨rfl,hE⟩
 refine And.intro ?_ hE
 simp[aC,blankB]
def allR(p:Int→Bool)(l:List UInt8):Bool:=(runes l 0).all fun r=>p r.2.1
theorem allR_start(p:Int→Bool)(l:List UInt8):allR p l=((runes (l.drop 0) 0).all fun r=>p r.2.1):=by rw[List.drop_zero];rfl
theorem runes_all_pos(p:Int→Bool)(l:List UInt8)(i j:Nat):((runes l i).all fun r=>p r.2.1)=((runes l j).all fun r=>p r.2.1):=by
 generalize hn:l.length=n
 induction n using Nat.strongRecOn generalizing l i j with
 | _ n ih=>
   by_cases h:l=[]
   ·subst h;rfl
   ·have hw:=Lib.decodeL_width l
    have hl:0<l.length:=List.length_pos_iff.2 h
    rw[pV h,pV h,List.all_cons,List.all_cons]
    rw[ih (l.drop (Lib.decodeL l).2).length (by simp;omega) _ _ _ rfl]
def gU(s:ByteArray):Bool:=allR kM s.data.toList&&Lib.validD s.data.toList
theorem Texts_con(s:ByteArray)(w:World)(hs:s.size≤9223372036854775807)(hG:jV w) :
  bV Tryz.prog 136 #[.string s] w (fun v w'=>v=.bool (gU s)∧Ext w w'):=by
 refine enter aB Tryz.func136 (aV rfl) rfl rfl rfl ?_
 refine aG.rangeStr Tryz.underlying9 fun b w1 hI hE hb hsz=>?_
 refine aH.mk (X:=Nat) (fun _=>[(0,.string s),(6,.pointer (some ⟨b,0,none⟩))])
  (fun pos w'=>Ext w w'∧Iter w' b s pos∧allR kM s.data.toList=((runes (s.data.toList.drop pos) pos).all fun r=>kM r.2.1)) (fun pos=>s.size-pos) 0
  ⟨hE,hI,allR_start _ _⟩ ⟨rfl,rfl,trivial⟩ ?_
 rintro pos w2 ⟨hE2,hI2,ha⟩
 refine aG.nextStr hI2 (fun hlt w3 hU hI3=>?_) (fun hge=>?_)
 ·have hne:s.data.toList.drop pos≠[]:=by
   intro e
   have:=congrArg List.length e
   simp at this
   have:s.data.size=s.size:=rfl
   omega
  rw[uI]at hI3 ⊢
  have hw:=Lib.decodeL_width (s.data.toList.drop pos)
  have hE3:Ext w w3:=Below.trans hE2 (hU.below _ (by omega))
  rw[pV hne,List.all_cons]at ha
  have hlen:s.data.toList.length=s.size:=Array.length_toList
  refine Cond.yes ?_
  refine aA.mk _ (Char_con _ w3) ?_
  rintro v w4 ⟨rfl,rfl⟩
  refine Cond.neg (fun h=>?_) (fun h=>?_)
  ·refine And.intro ?_ hE3
   rw[h]at ha
   simp[aC,gU,ha]
  ·refine⟨pos+(Lib.decodeL (s.data.toList.drop pos)).2,⟨hE3,hI3,?_⟩,by omega,rfl,rfl,trivial⟩
   rw[ha,h,List.drop_drop]
   simp
 ·have he:s.data.toList.drop pos=[]:=by
   apply List.drop_eq_nil_of_le
   have:s.data.toList.length=s.size:=Array.length_toList
   omega
  rw[he,runes_nil]at ha
  refine Cond.no ?_
  refine aA.mk _ (tJ s w2 hs (hG.ext hE2)) ?_
  rintro v w3 ⟨rfl,hE3⟩
  refine And.intro ?_ (hE2.trans hE3)
  simp[aC,gU,ha]
def dW(s:ByteArray):Bool:=(match s.data.toList with|[]=>false|l=>eY (Lib.decodeL l).1)&&allR dQ s.data.toList&&decide (s.size≤100)&&Lib.validD s.data.toList
theorem xP(s:ByteArray)(w:World)(hs:s.size≤9223372036854775807)(hG:jV w) :
  bV Tryz.prog 79 #[.string s] w (fun v w'=>v=.bool (dW s)∧Ext w w'):=by
 refine enter aB Tryz.func79 (aV rfl) rfl rfl rfl ?_
 refine aG.rangeStr Tryz.underlying9 fun b w1 hI hE hb hsz=>?_
 refine aH.mk (X:=Nat) (fun _=>[(0,.string s),(6,.pointer (some ⟨b,0,none⟩))])
  (fun pos w'=>Ext w w'∧Iter w' b s pos∧(0<pos→s.data.toList≠[]∧eY (Lib.decodeL s.data.toList).1=true)∧allR dQ s.data.toList=((runes (s.data.toList.drop pos) pos).all fun r=>dQ r.2.1)) (fun pos=>s.size-pos) 0
  ⟨hE,hI,fun h=>absurd h (Nat.lt_irrefl _),allR_start _ _⟩ ⟨rfl,rfl,trivial⟩ ?_
 rintro pos w2 ⟨hE2,hI2,hst,ha⟩
 refine aG.nextStr hI2 (fun hlt w3 hU hI3=>?_) (fun hge=>?_)
 ·have hne:s.data.toList.drop pos≠[]:=by
   intro e
   have:=congrArg List.length e
   simp at this
   have:s.data.size=s.size:=rfl
   omega
  rw[uI]at hI3 ⊢
  have hw:=Lib.decodeL_width (s.data.toList.drop pos)
  have hE3:Ext w w3:=Below.trans hE2 (hU.below _ (by omega))
  rw[pV hne,List.all_cons]at ha
  refine Cond.yes ?_
  refine aA.mk _ (NameChar_con _ w3 (hG.ext hE3)) ?_
  rintro v w4 ⟨rfl,hE4⟩
  have hE4':=hE3.trans hE4
  cases hc:dQ (Lib.decodeL (s.data.toList.drop pos)).1 with
  | false=>
    repeat (first|refine gA ?_|refine gB ?_|refine gC ?_)
    refine Cond.yes (And.intro ?_ hE4')
    rw[hc]at ha
    simp[aC,dW,ha]
  | true=>
    rw[hc]at ha
    refine gC (gC (gC ?_))
    refine aK.bB (fun g0=>?_) (fun g0=>?_)
    ·have g0':pos=0:=by omega
     subst g0'
     refine gC ?_
     refine aA.mk _ (vY _ w4 (hG.ext hE4')) ?_
     rintro v w5 ⟨rfl,hE5⟩
     repeat (first|refine gA ?_|refine gB ?_|refine gC ?_)
     refine Cond.neg (fun h=>?_) (fun h=>?_)
     ·refine And.intro ?_ (hE4'.trans hE5)
      cases hl:s.data.toList with
      | nil=>rw[hl]at hne;exact absurd rfl hne
      | cons x r=>
        rw[hl,List.drop_zero]at h
        simp[aC,dW,hl,h]
     ·refine⟨0+(Lib.decodeL (s.data.toList.drop 0)).2,⟨hE4'.trans hE5,(hI3.ext hE4).ext hE5,fun _=>⟨by simpa using hne,by simpa using h⟩,?_⟩,by omega,rfl,rfl,trivial⟩
      rw[ha,List.drop_drop]
      simp
    ·repeat (first|refine gA ?_|refine gB ?_|refine gC ?_)
     refine Cond.no ?_
     refine⟨pos+(Lib.decodeL (s.data.toList.drop pos)).2,⟨hE4',hI3.ext hE4,fun _=>hst (by omega),?_⟩,by omega,rfl,rfl,trivial⟩
     rw[ha,List.drop_drop]
     simp
 ·have he:s.data.toList.drop pos=[]:=by
   apply List.drop_eq_nil_of_le
   have:s.data.toList.length=s.size:=Array.length_toList
   omega
  rw[he,runes_nil]at ha
  have hlen:s.data.toList.length=s.size:=Array.length_toList
  refine Cond.no ?_
  refine aK.bU (fun g0=>?_) (fun g0=>?_)
  ·have hne:s.data.toList≠[]:=fun e=>g0 (by cases s;simp at e;simp[e])
   have hpos:0<pos:=by
    have:=List.length_pos_iff.2 hne
    omega
   obtain⟨_,hns⟩:=hst hpos
   refine gC ?_
   repeat (first|refine gA ?_|refine gB ?_|refine gC ?_)
   refine aK.bB (fun g1=>?_) (fun g1=>?_)
   ·repeat (first|refine gA ?_|refine gB ?_|refine gC ?_)
    refine aA.mk _ (tJ s w2 hs (hG.ext hE2)) ?_
    rintro v w3 ⟨rfl,hE3⟩
    refine And.intro ?_ (hE2.trans hE3)
    have g1':s.size≤100:=by omega
    cases hl:s.data.toList with
    | nil=>exact absurd hl hne
    | cons x r=>
      rw[hl]at hns ha
      simp[aC,dW,hl,hns,ha,g1']
   ·repeat (first|refine gA ?_|refine gB ?_|refine gC ?_)
    refine And.intro ?_ hE2
    have g1':¬s.size≤100:=by omega
    simp[aC,dW,g1']
  ·repeat (first|refine gA ?_|refine gB ?_|refine gC ?_)
   refine And.intro ?_ hE2
   have:s.data.toList=[]:=by rw[g0]
   simp[aC,dW,this]
def gX(s:ByteArray):Bool:=gU s&&decide (s.size≤65536)
theorem vS(s:ByteArray)(w:World)(hs:s.size≤9223372036854775807)(hG:jV w) :
  bV Tryz.prog 80 #[.string s] w (fun v w'=>v=.bool (gX s)∧Ext w w'):=by
 refine enter aB Tryz.func80 (aV rfl) rfl rfl rfl ?_
 refine aA.mk _ (Texts_con s w hs hG) ?_
 rintro v w1 ⟨rfl,hE⟩
 cases ht:gU s with
 | true=>
   repeat (first|refine gA ?_|refine gB ?_|refine gC ?_)
   refine And.intro ?_ hE
   simp[aC,gX,ht]
   omega
 | false=>
   repeat (first|refine gA ?_|refine gB ?_|refine gC ?_)
   refine And.intro ?_ hE
   simp[aC,gX,ht]
theorem bD.min2{P:Program}{ts:Array TypeId}{ty:TypeId}{cs:Array Bool}{x y:Int}{w:World}{k:Value→World→Prop}(hk:k (.int .i64 (min x y)) w) :
  bD P (builtin .min ts ty cs #[.int .i64 x,.int .i64 y]) w k:=by
 refine .mk (.int .i64 (min x y)) w ?_ hk
 simp only[builtin,Sem.run_bind,run_min_int2,Result.andThen_ok,Sem.run_pure]
 congr 3
 split<;>omega
theorem fold_cell(n:Nat)(h:n<128):vF[n]? = some (.int .u16 (sM n)):=by
 unfold vF
 rw[List.getElem?_map,List.getElem?_range h]
 rfl
theorem fold_range(n:Nat)(h:n<128):0≤sM n∧sM n≤65535:=by
 unfold sM
 split
 ·omega
 ·split
  ·omega
  ·split
   ·omega
   ·split
    ·omega
    ·split
     ·omega
     ·split<;>omega
theorem uD(r:Nat)(w:World)(hr:r<128)(hG:jV w) :
  bV Tryz.prog 201 #[.int .i32 r] w (fun v w'=>v=.int .i32 (sM r)∧w'=w):=by
 have hf:=fold_range r hr
 refine enter aB Tryz.func201 (aV rfl) rfl rfl rfl ?_
 refine aK.bH (fun g1=>?_) (fun g1=>absurd g1 (by omega))
 repeat (first|refine gA ?_|refine gB ?_|refine gC ?_)
 refine Cond.dec (fun g2=>absurd g2 (by omega)) (fun g2=>?_)
 refine Ar.i64 (by omega) ?_
 refine Cond.dec (fun g3=>?_) (fun g3=>absurd g3 (by omega))
 refine Need.mk (by omega) ?_
 have hc:w.cell? ((⟨7,0,none⟩:Addr).add (((r:Int).toNat)*1))=some (.int .u16 (sM r)):=by
  rw[Nat.mul_one,Int.toNat_natCast]
  exact hG.fold _ _ (fold_cell r hr)
 refine Load.here hc ?_
 refine Ar.i32 (by omega) ?_
 exact And.intro rfl rfl
theorem DecodeAscii_con(s:ByteArray)(w:World)(hs:0<s.size)(h:aI s 0<128) :
  bV Tryz.prog 200 #[.string s] w (fun v w'=>v=.tuple #[.int .i32 (aI s 0),.int .i64 1]∧w'=w):=by
 have hne:¬s=⟨#[]⟩:=fun e=>by subst e;exact absurd hs (Nat.lt_irrefl 0)
 have h0:0≤aI s 0:=Int.natCast_nonneg _
 refine enter aB Tryz.func200 (aV rfl) rfl rfl rfl ?_
 refine aK.bU (fun g1=>?_) (fun g1=>absurd g1 hne)
 refine gC (Need.mk (by omega) (gC ?_))
 refine Cond.dec (fun g2=>?_) (fun g2=>absurd h g2)
 refine Need.mk (by omega) ?_
 refine Ar.i32 (by simp;omega) ?_
 exact And.intro rfl rfl
def rA:ByteArray:=⟨#[120,109,108]⟩
def nM(s:ByteArray)(i:Nat):Bool:=decide (aI s i=aI rA i)||decide (aI s i=aI rA i-32)
def zI(s:ByteArray):Bool:=decide (s.size=3)&&nM s 0&&nM s 1&&nM s 2
theorem xml_val(i:Nat)(h:i<3):aI rA i=120∨aI rA i=109∨aI rA i=108:=by
 match i,h with
 | 0,_=>exact .inl rfl
 | 1,_=>exact .inr (.inl rfl)
 | 2,_=>exact .inr (.inr rfl)
theorem or_big(a:Int)(h0:0≤a)(h1:a≤255)(c:Int)(hc:c=120∨c=109∨c=108):(128≤tK .or .u8 a c)↔128≤a:=by
 have:∀a:Fin 256,((128≤tK .or .u8 ((a.val:Nat):Int) 120)↔128≤((a.val:Nat):Int))∧((128≤tK .or .u8 ((a.val:Nat):Int) 109)↔128≤((a.val:Nat):Int))∧((128≤tK .or .u8 ((a.val:Nat):Int) 108)↔128≤((a.val:Nat):Int)):=by decide +kernel
 have h:=this ⟨a.toNat,by omega⟩
 have e:(((⟨a.toNat,by omega⟩:Fin 256).val:Nat):Int)=a:=Int.toNat_of_nonneg h0
 rw[e]at h
 rcases hc with rfl|rfl|rfl
 ·exact h.1
 ·exact h.2.1
 ·exact h.2.2
theorem byteAt_range(s:ByteArray)(i:Nat):0≤aI s i∧aI s i≤255:=by
 unfold aI
 have:=(s.data[i]?.getD 0).toNat_lt
 omega
theorem not_xml{s:ByteArray}{i:Nat}(h:i<3)(hf:nM s i=false):zI s=false:=by
 unfold zI
 match i,h with
 | 0,_=>simp[hf]
 | 1,_=>simp[hf]
 | 2,_=>simp[hf]
theorem EqualFold_con(s:ByteArray)(w:World)(hs:s.size≤9223372036854775807)(hG:jV w) :
  bV Tryz.prog 170 #[.string s,.string ⟨#[120,109,108]⟩] w (fun v w'=>v=.bool (zI s)∧Ext w w'):=by
 show bV Tryz.prog 170 #[.string s,.string rA] w (fun v w'=>v=.bool (zI s)∧Ext w w')
 have h3:rA.size=3:=rfl
 refine enter aB Tryz.func170 (aV rfl) rfl rfl rfl ?_
 refine bD.min2 ?_
 refine aH.mk (X:=Nat) (fun k=>[(0,.string s),(1,.string rA),(5,.int .i64 k),(6,.int .i64 (min (s.size:Int) (rA.size:Int)))])
  (fun k w'=>w'=w∧k≤s.size∧k≤3∧∀j,j<k→nM s j=true) (fun k=>3-k) 0 ⟨rfl,by omega,by omega,fun j h=>absurd h (by omega)⟩ ⟨rfl,rfl,rfl,rfl,trivial⟩ ?_
 rintro k w1 ⟨rfl,hk,hk3,hf⟩
 refine Cond.dec (fun g1=>?_) (fun g1=>?_)
 ·have hks:k<s.size:=by omega
  have hk3':k<3:=by omega
  refine Need.mk (by omega) (Need.mk (by omega) ?_)
  simp only[Int.toNat_natCast]
  have hr:=byteAt_range s k
  have hx:=xml_val k hk3'
  refine Cond.dec (fun g2=>?_) (fun g2=>?_)
  ·rw[or_big _ hr.1 hr.2 _ hx]at g2
   have hbad:zI s=false:=not_xml hk3' (by unfold nM;simp;omega)
   refine ScopeJ.jump aB rfl ?_
   refine Need.mk ⟨by omega,by omega,by omega⟩ ?_
   refine Need.mk ⟨by omega,by omega,by omega⟩ ?_
   simp only[Int.toNat_natCast]
   obtain⟨c,hc,hcc⟩:∃c:Nat,aI (rA.extract k rA.size) 0=(c:Int)∧(c=120∨c=109∨c=108):=by
    match k,hk3' with
    | 0,_=>exact⟨120,rfl,.inl rfl⟩
    | 1,_=>exact⟨109,rfl,.inr (.inl rfl)⟩
    | 2,_=>exact⟨108,rfl,.inr (.inr rfl)⟩
   have hsz:(rA.extract k rA.size).size=3-k:=by rw[ByteArray.size_extract];omega
   have hsz':(s.extract k s.size).size=s.size-k:=by rw[ByteArray.size_extract];omega
   refine aG.rangeStr Tryz.underlying9 fun b w2 hI hE hb _=>?_
   refine aH.mk (X:=Unit) (fun _=>[(1,.string (rA.extract k rA.size)),(67,.pointer (some ⟨b,0,none⟩))])
    (fun _ w'=>Ext w1 w'∧Iter w' b (s.extract k s.size) 0) (fun _=>0) () ⟨hE,hI⟩ ⟨rfl,rfl,trivial⟩ ?_
   rintro _ w3 ⟨hE3,hI3⟩
   refine aG.nextStr hI3 (fun hlt w4 hU hI4=>?_) (fun hge=>absurd hge (by omega))
   have hE4:Ext w1 w4:=Below.trans hE3 (hU.below _ (by omega))
   have hG4:=hG.ext hE4
   have hhigh:=decode_high (s.extract k s.size) 0 hlt (by
    have:(s.extract k s.size)[0]=s[k]'(by omega):=by
     rw[ByteArray.getElem_extract]
     simp
    rw[this]
    unfold aI at g2
    have e:s.data[k]? = some (s[k]'(by omega)):=by
     rw[Array.getElem?_eq_getElem (by show k<s.size;omega)]
     rfl
    rw[e]at g2
    simp at g2
    omega)
   generalize (Utf8.decode (s.extract k s.size) 0).1=r at *
   refine Cond.yes (Cond.dec (fun g3=>absurd g3 (by omega)) (fun g3=>?_))
   refine aA.mk _ (DecodeAscii_con (rA.extract k rA.size) w4 (by omega) (by omega)) ?_
   rintro v w5 ⟨rfl,rfl⟩
   refine Need.mk ⟨by omega,by omega,by omega⟩ ?_
   rw[hc]
   refine Cond.dec (fun g4=>absurd g4 (by omega)) (fun g4=>?_)
   refine Cond.dec (fun g5=>?_) (fun g5=>absurd g5 (by omega))
   refine Cond.dec (fun g6=>absurd g6 (by omega)) (fun g6=>?_)
   refine aA.mk _ (uD c w5 (by omega) hG4) ?_
   rintro v w6 ⟨rfl,rfl⟩
   have hf1:sM c=(c:Int)-32:=by rcases hcc with rfl|rfl|rfl<;>rfl
   have hf2:sM (c-32)=(c:Int):=by rcases hcc with rfl|rfl|rfl<;>rfl
   refine aH.mk (X:=Bool) (fun d=>[(13,.int .i32 (if d then c else(c:Int)-32)),(10,.int .i32 c),(11,.int .i32 r)])
    (fun _ w'=>w'=w6) (fun d=>if d then 0 else 1) false rfl ⟨by rw[hf1];rfl,rfl,rfl,trivial⟩ ?_
   rintro d w7 rfl
   cases d with
   | false=>
     simp only[Bool.false_eq_true,if_false]
     refine aK.bU (fun g7=>?_) (fun g7=>absurd g7 (by omega))
     repeat (first|refine gA ?_|refine gB ?_|refine gC ?_)
     refine Cond.dec (fun g8=>?_) (fun g8=>absurd g8 (by omega))
     have e:(c:Int)-32=((c-32:Nat):Int):=by omega
     rw[e]
     refine aA.mk _ (uD (c-32) w7 (by omega) hG4) ?_
     rintro v w8 ⟨rfl,rfl⟩
     rw[hf2]
     exact⟨true,rfl,by decide,rfl,rfl,rfl,trivial⟩
   | true=>
     simp only[if_true]
     refine aK.bU (fun g7=>absurd rfl g7) (fun g7=>?_)
     repeat (first|refine gA ?_|refine gB ?_|refine gC ?_)
     refine Cond.no ?_
     refine Cond.dec (fun g8=>absurd g8 (by omega)) (fun g8=>?_)
     refine And.intro ?_ hE4
     simp[aC,hbad]
  ·rw[or_big _ hr.1 hr.2 _ hx]at g2
   have bad:nM s k=false→(aC [Value.bool false]=Value.bool (zI s)∧Ext w1 w1):=fun h=>⟨by simp[aC,not_xml hk3' h],Ext.refl _⟩
   have next:nM s k=true→∀j,j<k+1→nM s j=true:=fun h j hj=>by
    rcases Nat.lt_or_ge j k with h'|h'
    ·exact hf j h'
    ·have:j=k:=by omega
     subst this;exact h
   refine Cond.dec (fun g3=>?_) (fun g3=>?_)
   ·refine Ar.i64 (by omega) ?_
    exact⟨k+1,⟨rfl,by omega,by omega,next (by unfold nM;simp;omega)⟩,by omega,rfl,rfl,rfl,rfl,trivial⟩
   ·refine Cond.dec (fun g4=>?_) (fun g4=>?_)
    ·refine aK.bB (fun g5=>?_) (fun g5=>absurd g5 (by omega))
     refine gC ?_
     refine aK.bB (fun g6=>absurd g6 (by omega)) (fun g6=>?_)
     repeat (first|refine gA ?_|refine gB ?_|refine gC ?_)
     refine Cond.no ?_
     exact bad (by unfold nM;simp;omega)
    ·refine aK.bB (fun g5=>?_) (fun g5=>?_)
     ·refine gC ?_
      refine aK.bB (fun g6=>?_) (fun g6=>?_)
      ·refine gC (gC ?_)
       refine Ar.u8 (by omega) ?_
       refine gC (Ar.u8 (by omega) (gC ?_))
       refine Cond.dec (fun g7=>?_) (fun g7=>?_)
       ·refine Ar.i64 (by omega) ?_
        exact⟨k+1,⟨rfl,by omega,by omega,next (by unfold nM;simp;omega)⟩,by omega,rfl,rfl,rfl,rfl,trivial⟩
       ·exact bad (by unfold nM;simp;omega)
      ·repeat (first|refine gA ?_|refine gB ?_|refine gC ?_)
       refine Cond.no ?_
       exact bad (by unfold nM;simp;omega)
     ·repeat (first|refine gA ?_|refine gB ?_|refine gC ?_)
      refine Cond.no ?_
      exact bad (by unfold nM;simp;omega)
 ·refine And.intro ?_ (Ext.refl _)
  by_cases hs3:s.size=3
  ·have hk':k=3:=by omega
   subst hk'
   simp[aC,zI,hs3,h3,hf 0,hf 1,hf 2]
  ·have:¬((s.size:Int)=(rA.size:Int)):=by omega
   simp[aC,zI,hs3,this]
def nd0:Nd:=⟨0,⟨#[]⟩,⟨#[]⟩,0⟩
def nd(t:List Nd)(p:Int):Nd:=t.getD p.toNat nd0
theorem eT{t:List Nd}{i:Nat}(h:i<t.length):nd t (i:Int)=t[i]:=by simp[nd,h]
theorem sN{t:List Nd}{p:Int}(h:p.toNat<t.length):nd t p=t[p.toNat]:=by simp[nd,h]
def chase(t:List Nd)(q:Int):Nat→Int→Int
 | 0,p=>p
 | n+1,p=>if 0≤p∧p≠q then chase t q n (nd t p).parent else p
theorem oW{t:List Nd}{q p:Int}(h:¬(0≤p∧p≠q))(n:Nat):chase t q n p=p:=by
 cases n with
 | zero=>rfl
 | succ n=>simp only[chase];rw[if_neg h]
def fB(t:List Nd)(i:Nat):Bool:=decide (chase t (nd t i).parent i ((i:Int)-1)=(nd t i).parent)
def Up(t:List Nd)(i:Nat):Prop:=∀j:Nat,j<i→(nd t j).parent<j
theorem open_con(b i:Nat)(t:List Nd)(v:Value)(w:World)(hb:w.cell? ⟨b,0,none⟩=some v)(ht:aJ w v t)(hi:i<t.length)(hu:Up t i) :
  bV Tryz.prog 113 #[.pointer (some ⟨b,0,none⟩),.int .i64 i] w (fun v' w'=>v'=.bool (fB t i)∧w'=w):=by
 obtain⟨o,c,rfl,h1,h2,h3,h4⟩:=ht.open_
 have hl:=ht.len
 have hb0:Reads w ((⟨b,0,none⟩:Addr).add 0) 1 false (.slice o t.length c):=by rw[add_zero];exact hb
 obtain⟨ai,hai,hci⟩:=h4 w (Ext.refl _) i hi
 have hnd:=eT hi
 refine enter aB Tryz.func113 (aV rfl) rfl rfl rfl ?_
 refine Ar.i64 (by omega) ?_
 refine aH.mk (X:=Nat × Int) (fun x=>[(0,.pointer (some ⟨b,0,none⟩)),(1,.int .i64 i),(5,.int .i64 x.2)])
  (fun x w'=>w'=w∧x.2<i∧-9223372036854775808≤x.2∧x.2+1≤x.1∧chase t (nd t i).parent x.1 x.2=chase t (nd t i).parent i ((i:Int)-1)) (fun x=>(x.2+1).toNat) (i,(i:Int)-1)
  ⟨rfl,by simp;omega,by simp;omega,by simp,rfl⟩ ⟨rfl,rfl,rfl,trivial⟩ ?_
 rintro⟨n,p⟩ w1 ⟨rfl,hp,hp0,hn,hch⟩
 simp only at hp hp0 hn hch ⊢
 have fin:¬(0≤p∧p≠(nd t i).parent)→(aC [Value.bool (decide (p=(t[i]).parent))]=Value.bool (fB t i)∧w1=w1):=fun h=>by
  rw[oW h]at hch
  refine⟨?_,rfl⟩
  simp only[aC,fB]
  rw[←hch,hnd]
 refine aK.bB (fun g1=>?_) (fun g1=>?_)
 ·repeat (first|refine gA ?_|refine gB ?_|refine gC ?_)
  refine Load.here hb0 ?_
  repeat (first|refine gA ?_|refine gB ?_|refine gC ?_)
  refine Idx.mk ai hai (by omega) (by omega) ?_
  repeat (first|refine gA ?_|refine gB ?_|refine gC ?_)
  refine Load.here (hci.one rfl) ?_
  repeat (first|refine gA ?_|refine gB ?_|refine gC ?_)
  refine Cond.dH (fun g2=>?_) (fun g2=>?_)
  ·refine Load.here hb0 ?_
   have hpl:p.toNat<t.length:=by omega
   obtain⟨ap,hap,hcp⟩:=h4 w1 (Ext.refl _) p.toNat hpl
   refine Idx.mk ap hap (by omega) (by omega) ?_
   refine Load.here (hcp.one rfl) ?_
   have hup:=hu p.toNat (by omega)
   have hwf:=ht.wf _ (List.getElem_mem hpl)
   rw[eT hpl]at hup
   refine⟨(n-1,(t[p.toNat]).parent),⟨rfl,by simp;omega,by simp;exact hwf.parent.1,by simp;omega,?_⟩,by simp;omega,rfl,rfl,rfl,trivial⟩
   rw[←hch]
   obtain⟨m,rfl⟩:∃m,n=m+1:=⟨n-1,by omega⟩
   simp only[chase]
   rw[hnd,if_pos ⟨g1,g2⟩,sN hpl]
   rfl
  ·refine Load.here hb0 ?_
   refine Idx.mk ai hai (by omega) (by omega) ?_
   refine Load.here (hci.one rfl) ?_
   exact fin (by rw[hnd];omega)
 ·repeat (first|refine gA ?_|refine gB ?_|refine gC ?_)
  refine Cond.no ?_
  refine Load.here hb0 ?_
  refine Idx.mk ai hai (by omega) (by omega) ?_
  refine Load.here (hci.one rfl) ?_
  exact fin (by omega)
def iA(r:Rule)(t:List Nd)(p:Int):Bool:=if p<0 then r.top else if(nd t p).kind=1 then r.root else r.element&&decide ((nd t p).kind=2)
theorem within_con(r:Rule)(t:List Nd)(p:Int)(v:Value)(w:World)(ht:aJ w v t)(hp:p<t.length) :
  bV Tryz.prog 167 #[.agg r.cells.toArray,v,.int .i64 p] w (fun v' w'=>v'=.bool (iA r t p)∧Ext w w'):=by
 obtain⟨o,c,rfl,h1,h2,h3,h4⟩:=ht.open_
 refine enter aB Tryz.func167 (aV rfl) rfl rfl rfl ?_
 refine aG.box r.cells rfl fun b w1 hB=>?_
 have hc:=hB.blk.cells
 have hE:=hB.ext
 refine Cond.dec (fun g1=>?_) (fun g1=>?_)
 ·refine Load.here (hc.one rfl) ?_
  refine And.intro ?_ hE
  simp[aC,iA,g1]
 ·have hpl:p.toNat<t.length:=by omega
  obtain⟨ap,rfl,hcp⟩:=h4 w1 hE p.toNat hpl
  have hnd:=sN hpl
  refine Idx.mk ap rfl (by omega) (by omega) ?_
  refine Load.here (hcp.one rfl) ?_
  refine Cond.dec (fun g2=>?_) (fun g2=>?_)
  ·refine Load.here (hc.one rfl) ?_
   refine And.intro ?_ hE
   simp[aC,iA,g1,hnd,g2]
  ·refine Load.here (hc.one rfl) ?_
   cases he:r.element with
   | true=>
     repeat (first|refine gA ?_|refine gB ?_|refine gC ?_)
     refine Idx.mk ap rfl (by omega) (by omega) ?_
     repeat (first|refine gA ?_|refine gB ?_|refine gC ?_)
     refine Load.here (hcp.one rfl) ?_
     repeat (first|refine gA ?_|refine gB ?_|refine gC ?_)
     refine And.intro ?_ hE
     simp[aC,iA,g1,hnd,g2,he]
   | false=>
     repeat (first|refine gA ?_|refine gB ?_|refine gC ?_)
     refine And.intro ?_ hE
     simp[aC,iA,g1,hnd,g2,he]
def kZ:Rule:=⟨false,false,false,false,false,false⟩
def fC(k:Int):Rule:=uM.getD k.toNat kZ
def aP:ByteArray:=⟨#[]⟩
theorem zsz:aP.size=0:=rfl
def dashT:ByteArray:=⟨#[45]⟩
def nS:ByteArray:=⟨#[45,45]⟩
def endT:ByteArray:=⟨#[63,62]⟩
def rM(t:List Nd)(n:Nd):Bool:=
 let r:=fC n.kind
 !(dW n.name != r.named||(!r.named&&!decide (n.name=aP))||(!r.valued&&!decide (n.value=aP))||(r.full&&decide (n.value=aP))||decide (65536<n.value.size)||!gU n.value||!iA r t n.parent)
def wH(t:List Nd)(name:ByteArray)(from_ i:Nat):Bool:=(List.range (i-from_)).all fun k=>!decide ((nd t ((from_+k:Nat):Int)).name=name)
def iP(t:List Nd)(before:Int)(i:Nat)(n:Nd):Bool:=
 if n.kind=3 then decide (before<0)&&wH t n.name (n.parent+1).toNat i
 else if n.kind=4 then decide (before<0)||!decide ((nd t before).kind=4)
 else if n.kind=5 then !Lib.contains n.value.data.toList nS.data.toList&&!Lib.hasSuffix n.value.data.toList dashT.data.toList
 else if n.kind=6 then !zI n.name&&!Lib.contains n.value.data.toList endT.data.toList&&(decide (n.value=aP)||!blankB (n.value.extract 0 1).data.toList)
 else true
def lT(n:Nd)(last:List Int)(top:Int):Int:=if 0≤n.parent then last.getD n.parent.toNat 0 else top
def kN(t:List Nd)(last:List Int)(top:Int)(i:Nat):Bool:=
 let n:=nd t i
 decide (n.kind<7)&&!decide (fC n.kind=kZ)&&rM t n&&iP t (lT n last top) i n
def tY(w:World)(v:Value)(l:List Int):Prop:=eO w v 1 (l.map fun x=>[Value.int .i64 x])
theorem tY.ext{w w':World}(h:Ext w w'){v:Value}{l:List Int}(hx:tY w v l):tY w' v l:=eO.ext h hx
theorem tY.open_{w:World}{v:Value}{l:List Int}(h:tY w v l):∃o cap,v=.slice o l.length cap∧l.length≤cap∧cap≤maxLen∧(o=none→cap=0)∧
  (∀w',Ext w w'→∀i (hi:i<l.length),∃a,o=some a∧Cells w' (a.add (i*1)) [Value.int .i64 l[i]]):=by
 obtain⟨o,cap,hv,h1,h2,h3⟩:=h.ex
 simp only[List.length_map]at hv h1
 refine⟨o,cap,hv,h1,h2,h3,fun w' hE i hi=>?_⟩
 obtain⟨a,ha,hc⟩:=(h.el _ _ _ hv).ext hE i [Value.int .i64 l[i]] (by simp[hi])
 exact⟨a,ha,hc⟩
theorem _root_.Go.V.Cells.head{w:World}{ad:Addr}{v:Value}{r:List Value}(h:Cells w ad (v::r)):Reads w ad 1 false v:=by
 have:=h 0 v rfl
 rwa [add_zero]at this
theorem mU:fJ Tryz.prog 50 (.agg #[.int .u8 0,.string ⟨#[]⟩,.string ⟨#[]⟩,.int .i64 0]):=by unfold fJ;kernel_rfl
theorem zero242:fJ Tryz.prog 242 (.agg #[.bool false,.bool false,.bool false,.bool false,.bool false,.bool false]):=by unfold fJ;kernel_rfl
theorem run_build242(w:World):(Instr.build 242 #[]).run Tryz.prog w=.ok (.agg kZ.cells.toArray) w:=by kernel_rfl
theorem run_neq_bool(w:World)(a b:Bool)(gx gy:Operand):(do eqGuard .neq 4 gx gy (.bool a) (.bool b);binOp .neq 4 (.bool a) (.bool b):Sem Value).run Tryz.prog w=.ok (.bool (a != b)) w:=by kernel_rfl
theorem run_eql_rule(a:Rule)(gx gy:Operand)(w:World):(do eqGuard .eql 242 gx gy (.agg a.cells.toArray) (.agg kZ.cells.toArray);binOp .eql 242 (.agg a.cells.toArray) (.agg kZ.cells.toArray):Sem Value).run Tryz.prog w=.ok (.bool (decide (a=kZ))) w:=by
 obtain⟨a1,a2,a3,a4,a5,a6⟩:=a
 cases a1<;>cases a2<;>cases a3<;>cases a4<;>cases a5<;>cases a6<;>kernel_rfl
structure ChkAt(w:World)(b:Nat)(v vl:Value)(t:List Nd)(last:List Int)(top:Int):Prop where
 c0:w.cell? ⟨b,0,none⟩=some v
 c2:w.cell? ⟨b,2,none⟩=some vl
 c3:w.cell? ⟨b,3,none⟩=some (.int .i64 top)
 nodes:aJ w v t
 lasts:tY w vl last
 len:last.length=t.length
theorem ChkAt.ext{w w':World}(h:Ext w w'){b:Nat}{v vl:Value}{t:List Nd}{last:List Int}{top:Int}(hx:ChkAt w b v vl t last top):ChkAt w' b v vl t last top:=
 ⟨h.cell hx.c0,h.cell hx.c2,h.cell hx.c3,hx.nodes.ext h,hx.lasts.ext h,hx.len⟩
theorem attrB_false{t:List Nd}{name:ByteArray}{f i k:Nat}(h1:f≤k)(h2:k<i)(h:(nd t (k:Int)).name=name):wH t name f i=false:=by
 unfold wH
 rw[List.all_eq_false]
 refine⟨k-f,List.mem_range.2 (by omega),?_⟩
 have:f+(k-f)=k:=by omega
 rw[this]
 simp[h]
theorem attrB_true{t:List Nd}{name:ByteArray}{f i:Nat}(h:∀k,f≤k→k<i→¬(nd t (k:Int)).name=name):wH t name f i=true:=by
 unfold wH
 rw[List.all_eq_true]
 intro k hk
 have:=h (f+k) (by omega) (by have:=List.mem_range.1 hk;omega)
 simpa using this
theorem rules_cell{k:Nat}(h:k<7):∃r,uM[k]? = some r∧fC (k:Int)=r:=by
 have hl:k<uM.length:=h
 refine⟨uM[k],List.getElem?_eq_getElem hl,?_⟩
 simp[fC,hl]
theorem fits_con(b i:Nat)(t:List Nd)(last:List Int)(top:Int)(v vl:Value)(w:World)(hC:ChkAt w b v vl t last top)(hi:i<t.length)(hp:(nd t i).parent<i)(hp0:-1≤(nd t i).parent)
  (htop:top<i) (hlast:∀(p:Nat) (h:p<last.length),p<i→last[p]<i) (hG:jV w) :
  bV Tryz.prog 115 #[.pointer (some ⟨b,0,none⟩),.int .i64 i] w (fun v' w'=>v'=.bool (kN t last top i)∧Ext w w'):=by
 have hC0:=hC
 obtain⟨o,c,rfl,h1,h2,h3,h4⟩:=hC.nodes.open_
 obtain⟨ol,cl,rfl,l1,l2,l3,l4⟩:=hC.lasts.open_
 have hl:=hC.nodes.len
 have hb0:∀w',Ext w w'→Reads w' ((⟨b,0,none⟩:Addr).add 0) 1 false (.slice o t.length c):=fun w' h=>by rw[add_zero];exact h.cell hC.c0
 have hb2:∀w',Ext w w'→Reads w' ((⟨b,0,none⟩:Addr).add 2) 1 false (.slice ol last.length cl):=fun w' h=>by rw[bW];exact h.cell hC.c2
 have hb3:∀w',Ext w w'→Reads w' ((⟨b,0,none⟩:Addr).add 3) 1 false (.int .i64 top):=fun w' h=>by rw[bW];exact h.cell hC.c3
 obtain⟨ai,hai,hci⟩:=h4 w (Ext.refl _) i hi
 have hnd:=eT hi
 have hwf:=hC.nodes.wf _ (List.getElem_mem hi)
 rw[hnd]at hp hp0
 unfold kN
 rw[hnd]
 generalize t[i]=n at *
 obtain⟨kind,name,value,parent⟩:=n
 have hkind:=hwf.kind
 have hname:=hwf.name
 have hvalue:=hwf.value
 simp only at hkind hname hvalue hp hp0
 refine enter aB Tryz.func115 (aV rfl) rfl rfl rfl ?_
 refine Load.here (hb0 _ (Ext.refl _)) ?_
 refine Idx.mk ai hai (by omega) (by omega) ?_
 refine Load.here (hci.all' rfl) ?_
 refine aG.alloc _ [.int .u8 0,.string ⟨#[]⟩,.string ⟨#[]⟩,.int .i64 0] mU rfl fun bn w1 hn1=>?_
 refine bA.store bn 0 _ [.int .u8 kind,.string name,.string value,.int .i64 parent] 50 rfl rfl (by kernel_rfl) hn1.blk (by simp) (by simp[Value.oneCell']) fun w2 hn2=>?_
 have hN:=hn1.upd hn2
 have hcn:=hN.blk.cells
 have hE2:=hN.ext
 refine Load.here (hcn.one rfl) ?_
 refine Ar.i64 (by omega) ?_
 refine aK.bH (fun g1=>?_) (fun g1=>?_)
 rotate_left
 ·repeat (first|refine gA ?_|refine gB ?_|refine gC ?_)
  refine Cond.yes (And.intro ?_ hE2)
  have:¬kind<7:=by omega
  simp[aC,this]
 have hk7:kind<7:=by omega
 obtain⟨r,hr,hro⟩:=rules_cell (k:=kind.toNat) (by omega)
 have hro:fC kind=r:=by rw[←hro];congr 1;omega
 have hel:El w (some ⟨1,0,none⟩) 6 (uM.map Rule.cells):=El.of_cells hG.rules (by
  intro x hx
  obtain⟨y,_,rfl⟩:=List.mem_map.1 hx
  rfl)
 obtain⟨ar,har,hcr⟩:=hel kind.toNat r.cells (by simp[hr])
 cases har
 repeat (first|refine gA ?_|refine gB ?_|refine gC ?_)
 refine Load.here (hcn.one rfl) ?_
 repeat (first|refine gA ?_|refine gB ?_|refine gC ?_)
 refine Need.mk ⟨by omega,by omega⟩ ?_
 repeat (first|refine gA ?_|refine gB ?_|refine gC ?_)
 refine Load.here ((hcr.ext hE2).all' rfl) ?_
 repeat (first|refine gA ?_|refine gB ?_|refine gC ?_)
 refine aG.mk _ _ (run_build242 w2) ?_
 repeat (first|refine gA ?_|refine gB ?_|refine gC ?_)
 refine sG.here (run_eql_rule r _ _ _) ?_
 repeat (first|refine gA ?_|refine gB ?_|refine gC ?_)
 refine Cond.dec (fun g2=>?_) (fun g2=>?_)
 ·refine And.intro ?_ hE2
  simp[aC,hro,g2]
 refine Load.here (hcn.one rfl) ?_
 refine Need.mk ⟨by omega,by omega⟩ ?_
 refine Load.here ((hcr.ext hE2).all' rfl) ?_
 refine aG.alloc _ [.bool false,.bool false,.bool false,.bool false,.bool false,.bool false] zero242 rfl fun br w3 hr3=>?_
 obtain⟨rn,rv,rf,rt,rr,re⟩:=r
 refine bA.store br 0 _ [.bool rn,.bool rv,.bool rf,.bool rt,.bool rr,.bool re] 242 rfl rfl (by kernel_rfl) hr3.blk (by simp) (by simp[Value.oneCell']) fun w4 hr4=>?_
 have hR:=hr3.upd hr4
 have hE4:=(hE2.trans hR.ext).trans (Ext.drew w4)
 have hcR:=hR.blk.cells.ext (Ext.drew w4)
 have hcN:=(hcn.ext hR.ext).ext (Ext.drew w4)
 have hG4:=hG.ext hE4
 have hH:rM t ⟨kind,name,value,parent⟩=!(dW name != rn||(!rn&&!decide (name=aP))||(!rv&&!decide (value=aP))||(rf&&decide (value=aP))||decide (65536<value.size)||!gU value||!iA ⟨rn,rv,rf,rt,rr,re⟩ t parent):=by
  unfold rM
  simp only[hro]
 refine aQ.join aB mixed ([(0,true),(1,true),(3,true),(4,true),(2,false)]++allT 5 39++[(44,false)]++allT 45 10++[(55,false)]++allT 56 2) [] (by kernel_rfl) (fun w'=>Ext w4.drew w') (Ext.refl _)
  (X:=Bool) (fun d=>[(0,.pointer (some ⟨b,0,none⟩)),(1,.int .i64 i),(5,.pointer (some ⟨bn,0,none⟩)),(89,.bool d)])
  (fun d w'=>Ext w4.drew w'∧d=!rM t ⟨kind,name,value,parent⟩) ?_ ?_
 ·refine Load.mk _ (fun w' e=>(hcN.ext e).one rfl) ?_
  refine Load.mk _ (fun w' e=>(hcR.ext e).one rfl) ?_
  refine aA.mk _ (xP name _ (by omega) hG4) ?_
  rintro v w5 ⟨rfl,hE5⟩
  refine Need.mk hE5 ?_
  refine sG.mk _ (fun w' _=>run_neq_bool w' _ _ _ _) ?_
  cases hA:(dW name != rn)with
  | true=>
    repeat (first|refine gA ?_|refine gB ?_|refine gC ?_)
    refine⟨true,⟨hE5,?_⟩,rfl,rfl,rfl,rfl,trivial⟩
    rw[hH];simp[hA]
  | false=>
  repeat (first|refine gA ?_|refine gB ?_|refine gC ?_)
  refine Load.mk _ (fun w' e=>(hcR.ext e).one rfl) ?_
  repeat (first|refine gA ?_|refine gB ?_|refine gC ?_)
  have hB:(rn=true∧True)∨(rn=false∧name=aP)∨(rn=false∧¬name=aP):=by cases rn<;>simp[Decidable.em]
  have hC:(rv=true∧True)∨(rv=false∧value=aP)∨(rv=false∧¬value=aP):=by cases rv<;>simp[Decidable.em]
  have hD:(rf=false∧True)∨(rf=true∧¬value=aP)∨(rf=true∧value=aP):=by
   cases rf
   ·exact .inl ⟨rfl,trivial⟩
   ·exact .inr (by by_cases h:value=aP<;>simp[h])
  rcases hB with ⟨rfl,hB⟩|⟨rfl,hB⟩|⟨rfl,hB⟩
  rotate_left 2
  ·repeat (first|refine gA ?_|refine gB ?_|refine gC ?_)
   refine Load.mk _ (fun w' e=>(hcN.ext e).one rfl) ?_
   repeat (first|refine gA ?_|refine gB ?_|refine gC ?_)
   refine aK.bP (fun h=>absurd h hB) (fun _=>?_)
   repeat (first|refine gA ?_|refine gB ?_|refine gC ?_)
   refine⟨true,⟨hE5,?_⟩,rfl,rfl,rfl,rfl,trivial⟩
   rw[hH];simp[hB]
  rotate_left
  repeat (first|refine gA ?_|refine gB ?_|refine gC ?_)
  refine Load.mk _ (fun w' e=>(hcN.ext e).one rfl) ?_
  repeat (first|refine gA ?_|refine gB ?_|refine gC ?_)
  refine aK.bP (fun _=>?_) (fun h=>absurd hB h)
  all_goals
   repeat (first|refine gA ?_|refine gB ?_|refine gC ?_)
   refine Load.mk _ (fun w' e=>(hcR.ext e).one rfl) ?_
   repeat (first|refine gA ?_|refine gB ?_|refine gC ?_)
   rcases hC with ⟨rfl,hC⟩|⟨rfl,hC⟩|⟨rfl,hC⟩
   rotate_left 2
   ·repeat (first|refine gA ?_|refine gB ?_|refine gC ?_)
    refine Load.mk _ (fun w' e=>(hcN.ext e).one rfl) ?_
    repeat (first|refine gA ?_|refine gB ?_|refine gC ?_)
    refine aK.bP (fun h=>absurd h hC) (fun _=>?_)
    repeat (first|refine gA ?_|refine gB ?_|refine gC ?_)
    refine⟨true,⟨hE5,?_⟩,rfl,rfl,rfl,rfl,trivial⟩
    rw[hH];simp[hC]
   rotate_left
   repeat (first|refine gA ?_|refine gB ?_|refine gC ?_)
   refine Load.mk _ (fun w' e=>(hcN.ext e).one rfl) ?_
   repeat (first|refine gA ?_|refine gB ?_|refine gC ?_)
   refine aK.bP (fun _=>?_) (fun h=>absurd hC h)
   all_goals
    repeat (first|refine gA ?_|refine gB ?_|refine gC ?_)
    refine Load.mk _ (fun w' e=>(hcR.ext e).one rfl) ?_
    repeat (first|refine gA ?_|refine gB ?_|refine gC ?_)
    rcases hD with ⟨rfl,hD⟩|⟨rfl,hD⟩|⟨rfl,hD⟩
    rotate_left 2
    ·repeat (first|refine gA ?_|refine gB ?_|refine gC ?_)
     refine Load.mk _ (fun w' e=>(hcN.ext e).one rfl) ?_
     repeat (first|refine gA ?_|refine gB ?_|refine gC ?_)
     refine aK.bH (fun h=>absurd hD h) (fun _=>?_)
     repeat (first|refine gA ?_|refine gB ?_|refine gC ?_)
     refine⟨true,⟨hE5,?_⟩,rfl,rfl,rfl,rfl,trivial⟩
     rw[hH];simp[hD]
    rotate_left
    repeat (first|refine gA ?_|refine gB ?_|refine gC ?_)
    refine Load.mk _ (fun w' e=>(hcN.ext e).one rfl) ?_
    repeat (first|refine gA ?_|refine gB ?_|refine gC ?_)
    refine aK.bH (fun _=>?_) (fun h=>absurd h hD)
    all_goals
     repeat (first|refine gA ?_|refine gB ?_|refine gC ?_)
     refine Load.mk _ (fun w' e=>(hcN.ext e).one rfl) ?_
     repeat (first|refine gA ?_|refine gB ?_|refine gC ?_)
     refine aK.bH (fun hF=>?_) (fun hF=>?_)
     rotate_left
     ·repeat (first|refine gA ?_|refine gB ?_|refine gC ?_)
      refine⟨true,⟨hE5,?_⟩,rfl,rfl,rfl,rfl,trivial⟩
      have:65536<value.size:=by omega
      rw[hH];simp[this]
     all_goals
      repeat (first|refine gA ?_|refine gB ?_|refine gC ?_)
      refine Load.mk _ (fun w' e=>(hcN.ext e).one rfl) ?_
      repeat (first|refine gA ?_|refine gB ?_|refine gC ?_)
      refine aA.mk _ (Texts_con value _ (by omega) (hG4.ext hE5)) ?_
      rintro v w6 ⟨rfl,hE6⟩
      have hE6':=hE5.trans hE6
      repeat (first|refine gA ?_|refine gB ?_|refine gC ?_)
      refine Need.mk hE6' ?_
      cases hT:gU value
      ·repeat (first|refine gA ?_|refine gB ?_|refine gC ?_)
       refine⟨true,⟨hE6',?_⟩,rfl,rfl,rfl,rfl,trivial⟩
       rw[hH];simp[hT]
      all_goals
       repeat (first|refine gA ?_|refine gB ?_|refine gC ?_)
       refine Load.mk _ (fun w' e=>(hcR.ext e).all' rfl) ?_
       repeat (first|refine gA ?_|refine gB ?_|refine gC ?_)
       refine Load.mk _ (fun w' e=>hb0 w' (hE4.trans e)) ?_
       repeat (first|refine gA ?_|refine gB ?_|refine gC ?_)
       refine Load.mk _ (fun w' e=>(hcN.ext e).one rfl) ?_
       repeat (first|refine gA ?_|refine gB ?_|refine gC ?_)
       refine aA.mk _ (within_con ⟨_,_,_,_,_,_⟩ t parent _ w6 (hC0.nodes.ext (hE4.trans hE6')) (by omega)) ?_
       rintro v w7 ⟨rfl,hE7⟩
       repeat (first|refine gA ?_|refine gB ?_|refine gC ?_)
       refine Need.mk (hE6'.trans hE7) ?_
       repeat (first|refine gA ?_|refine gB ?_|refine gC ?_)
       refine⟨_,⟨hE6'.trans hE7,?_⟩,rfl,rfl,rfl,rfl,trivial⟩
       have:¬65536<value.size:=by omega
       first
       | exact absurd hC hD
       | rw[hH,hA,hT];simp[hB,hC,hD,this,zsz]
 ·rintro d w5 ⟨hE5,rfl⟩
  have hE5':=hE4.trans hE5
  have hcN:=hcN.ext hE5
  refine Cond.neg (fun hhd=>?_) (fun hhd=>?_)
  ·refine And.intro ?_ hE5'
   simp[aC,hhd]
  rw[hhd]
  have hz:¬fC kind=kZ:=by rw[hro];exact g2
  obtain⟨bf,hbf0⟩:∃bf,lT ⟨kind,name,value,parent⟩ last top=bf:=⟨_,rfl⟩
  have fin:∀(b:Bool) w',Ext w w'→iP t bf i ⟨kind,name,value,parent⟩=b→
    (aC [Value.bool b]=Value.bool (decide (kind<7)&&!decide (fC kind=kZ)&&rM t ⟨kind,name,value,parent⟩&&iP t (lT ⟨kind,name,value,parent⟩ last top) i ⟨kind,name,value,parent⟩)∧Ext w w'):=
   fun b w' hE h=>⟨by rw[hbf0];simp[aC,h,hk7,hz,hhd],hE⟩
  have hvs:value.size≤65536:=by
   rcases Nat.lt_or_ge 65536 value.size with h|h
   ·rw[hH]at hhd;simp[h]at hhd
   ·exact h
  have hbef:bf=if 0≤parent then last.getD parent.toNat 0 else top:=hbf0.symm
  refine Load.here (hb3 _ hE5') ?_
  refine Load.here (hcN.one rfl) ?_
  have hll:=hC0.len
  refine Cond.dec (fun g3=>?_) (fun g3=>?_)
  rotate_left
  have hbv:bf=top:=by rw[hbef,if_neg g3]
  have hblt:bf<i:=by omega
  subst hbv
  refine Load.here (hcN.one rfl) ?_
  have hE6:=hE5'
  have hpp:∃w6,w6=w5:=⟨_,rfl⟩
  obtain⟨w6,rfl⟩:=hpp
  rotate_left
  have hpl:parent.toNat<last.length:=by omega
  have hE6:=hE5'.trans (Ext.drew w5)
  have hcN:=hcN.ext (Ext.drew w5)
  obtain⟨al,hal,hcl⟩:=l4 _ hE6 parent.toNat hpl
  have hbv:bf=last[parent.toNat]:=by rw[hbef,if_pos g3];simp[hpl]
  have hblt:bf<i:=by rw[hbv];exact hlast _ hpl (by omega)
  rw[←hbv]at hcl
  refine aQ.mk aB mixed (allT 0 9) [] (by kernel_rfl) (fun w'=>w'=w5.drew) rfl ?_
  refine Load.here (hb2 _ hE6) ?_
  refine Load.here (hcN.one rfl) ?_
  refine Idx.mk al hal (by omega) (by omega) ?_
  refine Load.here hcl.head ?_
  refine Load.here (hcN.one rfl) ?_
  generalize w5.drew=w6 at *
  all_goals
   refine Cond.dec (fun k3=>?_) (fun k3=>?_)
   ·refine Cond.dec (fun g4=>?_) (fun g4=>?_)
    ·refine fin false _ hE6 ?_
     have:¬bf<0:=by omega
     simp[iP,k3,this]
    ·refine Load.here (hcN.one rfl) ?_
     refine Ar.i64 (by omega) ?_
     refine aH.mk (X:=Int) (fun k=>[(0,.pointer (some ⟨b,0,none⟩)),(1,.int .i64 i),(5,.pointer (some ⟨bn,0,none⟩)),(8,.int .i64 k)])
      (fun k w'=>Ext w6 w'∧parent+1≤k∧k≤i∧∀j:Nat,parent+1≤j→(j:Int)<k→¬(nd t j).name=name) (fun k=>(i-k).toNat) (parent+1)
      ⟨Ext.refl _,Int.le_refl _,by omega,fun j h1 h2=>absurd h1 (by omega)⟩ ⟨rfl,rfl,rfl,rfl,trivial⟩ ?_
     rintro k w7 ⟨hE7,hk1,hk2,hnn⟩
     refine Cond.dec (fun g5=>?_) (fun g5=>?_)
     ·have hkt:k.toNat<t.length:=by omega
      have hE8:=(hE6.trans hE7).trans (Ext.drew w7)
      obtain⟨ak,hak,hck⟩:=h4 _ hE8 k.toNat hkt
      have hndk:=sN hkt
      refine aQ.mk aB mixed (allT 0 11) [] (by kernel_rfl) (fun w'=>w'=w7.drew) rfl ?_
      refine Load.here (hb0 _ hE8) ?_
      refine Idx.mk ak hak (by omega) (by omega) ?_
      refine Load.here (hck.one rfl) ?_
      refine Load.here (((hcN.ext hE7).ext (Ext.drew w7)).one rfl) ?_
      refine Cond.dec (fun g6=>?_) (fun g6=>?_)
      ·refine fin false _ hE8 ?_
       have:wH t name (parent+1).toNat i=false:=by
        refine attrB_false (k:=k.toNat) (by omega) (by omega) ?_
        rw[Int.toNat_of_nonneg (by omega),hndk]
        exact g6
       simp[iP,k3,this]
      ·refine Ar.i64 (by omega) ?_
       refine⟨k+1,⟨hE7.trans (Ext.drew w7),by omega,by omega,fun j h1 h2=>?_⟩,by omega,rfl,rfl,rfl,rfl,trivial⟩
       by_cases hj:(j:Int)=k
       ·rw[hj,hndk];exact g6
       ·exact hnn j h1 (by omega)
     ·refine fin true _ (hE6.trans hE7) ?_
      have hat:wH t name (parent+1).toNat i=true:=attrB_true fun j h1 h2=>hnn j (by omega) (by omega)
      have hbn:bf<0:=by omega
      simp[iP,k3,hat,hbn]
   refine Cond.dec (fun k4=>?_) (fun k4=>?_)
   ·refine aK.bH (fun g4=>?_) (fun g4=>?_)
    ·have hkt:bf.toNat<t.length:=by omega
     obtain⟨ak,hak,hck⟩:=h4 _ hE6 bf.toNat hkt
     have hndk:=sN hkt
     repeat (first|refine gA ?_|refine gB ?_|refine gC ?_)
     refine Load.here (hb0 _ hE6) ?_
     repeat (first|refine gA ?_|refine gB ?_|refine gC ?_)
     refine Idx.mk ak hak (by omega) (by omega) ?_
     repeat (first|refine gA ?_|refine gB ?_|refine gC ?_)
     refine Load.here (hck.one rfl) ?_
     repeat (first|refine gA ?_|refine gB ?_|refine gC ?_)
     refine fin _ _ hE6 ?_
     simp[iP,k3,k4,g4,hndk]
    ·repeat (first|refine gA ?_|refine gB ?_|refine gC ?_)
     refine fin true _ hE6 ?_
     simp[iP,k3,k4,g4]
   refine Cond.dec (fun k5=>?_) (fun k5=>?_)
   ·refine Load.here (hcN.one rfl) ?_
    refine aA.mk _ (xL value nS _ (by omega) (hG.ext hE6)) ?_
    rintro v w7 ⟨rfl,rfl⟩
    refine aK.yF (fun g4=>?_) (fun g4=>?_)
    ·repeat (first|refine gA ?_|refine gB ?_|refine gC ?_)
     refine Load.here (hcN.one rfl) ?_
     repeat (first|refine gA ?_|refine gB ?_|refine gC ?_)
     refine aA.mk _ (HasSuffix_con value dashT _ (by omega)) ?_
     rintro v w8 ⟨rfl,rfl⟩
     repeat (first|refine gA ?_|refine gB ?_|refine gC ?_)
     refine fin _ _ hE6 ?_
     simp[iP,k3,k4,k5,g4]
    ·repeat (first|refine gA ?_|refine gB ?_|refine gC ?_)
     refine fin _ _ hE6 ?_
     simp[iP,k3,k4,k5,g4]
   refine Cond.dec (fun k6=>?_) (fun k6=>?_)
   ·refine Load.here (hcN.one rfl) ?_
    refine aA.mk _ (EqualFold_con name _ (by omega) (hG.ext hE6)) ?_
    rintro v w7 ⟨rfl,hE7⟩
    have hE7':=hE6.trans hE7
    have hcN:=hcN.ext hE7
    refine aK.yF (fun g4=>?_) (fun g4=>?_)
    ·repeat (first|refine gA ?_|refine gB ?_|refine gC ?_)
     refine Load.here (hcN.one rfl) ?_
     repeat (first|refine gA ?_|refine gB ?_|refine gC ?_)
     refine aA.mk _ (xL value endT _ (by omega) (hG.ext hE7')) ?_
     rintro v w8 ⟨rfl,rfl⟩
     repeat (first|refine gA ?_|refine gB ?_|refine gC ?_)
     refine aK.yF (fun g5=>?_) (fun g5=>?_)
     ·repeat (first|refine gA ?_|refine gB ?_|refine gC ?_)
      refine Load.here (hcN.one rfl) ?_
      repeat (first|refine gA ?_|refine gB ?_|refine gC ?_)
      refine aK.bH (fun g6=>?_) (fun g6=>?_)
      ·have hvp:0<value.size:=by
        rcases Nat.eq_zero_or_pos value.size with h|h
        ·refine absurd ?_ g6
         cases value with|mk d=>
         have:d=#[]:=Array.eq_empty_of_size_eq_zero h
         rw[this]
        ·exact h
       repeat (first|refine gA ?_|refine gB ?_|refine gC ?_)
       refine Load.here (hcN.one rfl) ?_
       repeat (first|refine gA ?_|refine gB ?_|refine gC ?_)
       refine Need.mk ⟨by omega,by omega,by omega⟩ ?_
       repeat (first|refine gA ?_|refine gB ?_|refine gC ?_)
       refine aA.mk _ (Blank_con (value.extract 0 1) _ (by rw[ByteArray.size_extract];omega)) ?_
       rintro v w9 ⟨rfl,hE9⟩
       repeat (first|refine gA ?_|refine gB ?_|refine gC ?_)
       refine fin _ _ (hE7'.trans hE9) ?_
       have:¬value=aP:=g6
       simp[iP,k3,k4,k5,k6,g4,g5,this]
      ·repeat (first|refine gA ?_|refine gB ?_|refine gC ?_)
       refine fin _ _ hE7' ?_
       have:value=aP:=g6
       rw[this]at g5
       simp[iP,k3,k4,k5,k6,g4,g5,this]
     ·repeat (first|refine gA ?_|refine gB ?_|refine gC ?_)
      refine fin _ _ hE7' ?_
      simp[iP,k3,k4,k5,k6,g4,g5]
    ·repeat (first|refine gA ?_|refine gB ?_|refine gC ?_)
     refine fin _ _ hE7' ?_
     simp[iP,k3,k4,k5,k6,g4]
   ·refine fin _ _ hE6 ?_
    simp[iP,k3,k4,k5,k6]
def ints(l:List Int):List Value:=l.map (Value.int .i64)
theorem ints_len(l:List Int):(ints l).length=l.length:=by simp[ints]
theorem fG{w:World}{b:Nat}{l:List Int}{e:Nat}(h:bQ w b (ints l) e){k:Nat}(hk:k<l.length):Reads w ((⟨b,0,none⟩:Addr).add (k*1)) 1 false (.int .i64 l[k]):=by
 rw[bW]
 show w.cell? _=_
 rw[h.cell]
 simp[ints,hk]
theorem splice_ints(l:List Int)(k:Nat)(x:Int)(hk:k<l.length):splice (ints l) (0+k*1) [.int .i64 x]=ints (l.set k x):=by
 unfold splice ints
 rw[←List.map_take,←List.map_drop]
 simp only[Nat.zero_add,Nat.mul_one,List.length_singleton]
 rw[List.set_eq_take_append_cons_drop,if_pos hk]
 simp
theorem iM{P:Program}{w:World}{b:Nat}{l:List Int}{e k:Nat}{x:Int}{K:World→Prop}(hs:jM P 3 1=true)(hb:bQ w b (ints l) e)(hk:k<l.length)(h:∀w',mK w b (ints (l.set k x)) e w'→K w') :
  bA P (storeVar 3 ((⟨b,0,none⟩:Addr).add (k*1)) (.int .i64 x)) w K:=
 bA.store b (0+k*1) (ints l) [.int .i64 x] e (bW _ _ _) rfl hs hb (by rw[ints_len];simp;omega) (by simp[Value.oneCell']) fun w' hU=>h w' (by rw[splice_ints l k x hk]at hU;exact hU)
theorem ints_of_blk{w:World}{b:Nat}{l:List Int}{e:Nat}(h:bQ w b (ints l) e)(hl:l.length≤maxLen):tY w (.slice (some ⟨b,0,none⟩) l.length l.length) l:=by
 refine eO.mk' (by simp) (Nat.le_refl _) hl (fun h=>by cases h) (fun i x hi=>⟨_,rfl,fun j u hj=>?_⟩)
 simp only[List.getElem?_map,Option.map_eq_some_iff]at hi
 obtain⟨y,hy,rfl⟩:=hi
 match j,hj with
 | 0,hj=>
   cases hj
   rw[add_zero,bW,h.cell]
   simp[ints,hy]
 | j+1,hj=>simp at hj
theorem nW{t:Nat}{z:Value}{m b:Nat}(h:(Tryz.prog.info? t).map (fun i=>(i.zero,i.size,i.bytes))=some (some z,m,b)):∃i,Tryz.prog.info? t=some i∧i.zero=some z∧i.size=m∧i.bytes=b:=by
 cases hi:Tryz.prog.info? t with
 | none=>rw[hi]at h;cases h
 | some i=>
   rw[hi]at h
   simp only[Option.map_some,Option.some.injEq,Prod.mk.injEq]at h
   exact⟨i,rfl,h.1,h.2.1,h.2.2⟩
theorem zero3:∃i,Tryz.prog.info? 3=some i∧i.zero=some (.int .i64 0)∧i.size=1∧i.bytes=8:=nW (by kernel_rfl)
theorem madeCells_one(v:Value)(n:Nat):madeCells #[v] n=(List.replicate n v).toArray:=by
 apply Array.ext
 ·simp[madeCells]
 ·intro i h1 h2
  simp[madeCells,Nat.mod_one]
theorem ints_rep(n:Nat):ints (List.replicate n 0)=List.replicate n (.int .i64 0):=by simp[ints]
theorem oJ{w:World}{K:Value→World→Prop}{n:Nat}(hn:n≤2932031007402)(h:∀b w',bO w b (ints (List.replicate n 0)) 3 w'→K (.slice (some ⟨b,0,none⟩) n n) w') :
  aG Tryz.prog (Instr.makeSlice 126 (.int .i64 n) (.int .i64 n)) w K:=by
 obtain⟨i,h1,h2,h3,h4⟩:=zero3
 have:=run_make (P:=Tryz.prog) w 126 3 i _ Tryz.underlying126 h1 h2 .i64 .i64 n n (by omega) (by omega) (by rw[h4];omega) (by omega)
 refine .mk _ _ this ?_
 rw[Int.toNat_natCast,h3,Nat.mul_one]
 rw[show(Value.int .i64 0).cells=#[.int .i64 0]from rfl,madeCells_one,←ints_rep]
 exact h _ _ ⟨rfl,rfl⟩
theorem bD.max2{P:Program}{ts:Array TypeId}{ty:TypeId}{cs:Array Bool}{x y:Int}{w:World}{k:Value→World→Prop}(hk:k (.int .i64 (max x y)) w) :
  bD P (builtin .max ts ty cs #[.int .i64 x,.int .i64 y]) w k:=by
 refine .mk (.int .i64 (max x y)) w ?_ hk
 simp only[builtin,Sem.run_bind,run_max_int2,Result.andThen_ok,Sem.run_pure]
 congr 3
 split<;>omega
structure wP where
 deep:List Int
 last:List Int
 top:Int
 elements:Int
 deepest:Int
def lX(n:Nat):wP:=⟨List.replicate n 0,List.replicate n 0,-1,0,0⟩
def aD(s:wP)(last:List Int)(n:Nd)(i:Nat):wP:=
 let deep1:=if 0≤n.parent then s.deep.set i (s.deep.getD n.parent.toNat 0)else s.deep
 let deep2:=if n.kind=2 then deep1.set i (deep1.getD i 0+1)else deep1
 { deep:=deep2
   last:=if n.kind=3 then last else if n.parent<0 then last else last.set n.parent.toNat i
   top:=if n.kind=3 then s.top else if n.parent<0 then i else s.top
   elements:=if n.kind=2∧n.parent=0 then s.elements+1 else s.elements
   deepest:=if n.kind=2 then max s.deepest (deep2.getD i 0)else s.deepest }
def iC(t:List Nd)(root:Bool)(s:wP)(i:Nat):Option wP:=
 let n:=nd t i
 let last:=s.last.set i (-1)
 if fB t i=false then none
 else if root=true∧i=0 then(if n.kind=1∧n.name=aP∧n.value=aP then some { s with last:=last } else none)
 else if root=true∧n.parent<0 then none
 else if kN t last s.top i=false then none
 else some (aD s last n i)
def gW(t:List Nd)(root:Bool):Nat→Option wP
 | 0=>some (lX t.length)
 | k+1=>(gW t root k).bind fun s=>iC t root s k
def eG(t:List Nd)(root:Bool):Int:=
 if 16384<t.length then 3
 else match gW t root t.length with
  | none=>4
  | some s=>if root=true∧s.elements≠1 then 4 else if 60<s.deepest then 131 else 0
theorem runB_none{t:List Nd}{root:Bool}{k m:Nat}(h:gW t root k=none)(hm:k≤m):gW t root m=none:=by
 induction m with
 | zero=>
   have:k=0:=by omega
   subst this;exact h
 | succ m ih=>
   by_cases e:k=m+1
   ·subst e;exact h
   ·simp[gW,ih (by omega)]
theorem chase_le{t:List Nd}{q:Int}{i:Nat}(hu:∀j:Nat,j<i→(nd t j).parent<j∧-1≤(nd t j).parent):∀(n:Nat) (p:Int),p<i→-1≤p→chase t q n p≤p∧-1≤chase t q n p
 | 0,p,_,h=>⟨Int.le_refl _,h⟩
 | n+1,p,h1,h2=>by
   simp only[chase]
   split
   ·rename_i h
    have:=hu p.toNat (by omega)
    rw[Int.toNat_of_nonneg h.1]at this
    have ih:=chase_le (q:=q) hu n (nd t p).parent (by omega) this.2
    omega
   ·exact⟨Int.le_refl _,h2⟩
def Ord(t:List Nd)(i:Nat):Prop:=∀j:Nat,j<i→(nd t j).parent<j∧-1≤(nd t j).parent
theorem Ord.up{t:List Nd}{i:Nat}(h:Ord t i):Up t i:=fun j hj=>(h j hj).1
theorem Ord.open_{t:List Nd}{i:Nat}(h:Ord t i)(ho:fB t i=true):(nd t i).parent<i∧-1≤(nd t i).parent:=by
 have:=chase_le (q:=(nd t i).parent) h i ((i:Int)-1) (by omega) (by omega)
 rw[of_decide_eq_true ho]at this
 omega
theorem Ord.succ{t:List Nd}{i:Nat}(h:Ord t i)(ho:fB t i=true):Ord t (i+1):=fun j hj=>by
 by_cases e:j=i
 ·subst e;exact h.open_ ho
 ·exact h j (by omega)
end Go.Proofs.YtelffdgcikceaaaGreatDoor
end
