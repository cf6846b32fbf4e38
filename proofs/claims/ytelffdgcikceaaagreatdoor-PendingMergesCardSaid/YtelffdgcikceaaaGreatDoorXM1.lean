/- Texts L1, R1, R2, R3, R4, O1, O2, R5. Appends, closely; marks; LentNodes, KeptNodes, OverNodes. -/
import Derived.Test.YtelffdgcikceaaaGreatDoorXB6
import Derived.Laws.Small
import Derived.BigFrame

/- Appends, closely; marks; LentNodes, KeptNodes, OverNodes. -/
section
set_option linter.unusedSimpArgs false
set_option linter.unusedVariables false

namespace Go.V
open Go.RowKit (Below)

/-- What an append of at least one leaves: it went into the spare room, or all lies anew and the old lies as it was. -/
structure App2 (w : World) (v : Value) (n m : Nat) (w' : World) (v' : Value) : Prop where
  ex : (w.grownBy w' none ∧ ∀ b, v'.ownBlock = some b → w.heap.size ≤ b) ∨ (∃ g c, v = .slice (some ⟨g, 0, none⟩) n c ∧ v' = .slice (some ⟨g, 0, none⟩) (n + m) c ∧ w.grownBy w' (some g))

theorem App2.rel {w w' : World} {v v' : Value} {n m : Nat} (h : App2 w v n m w' v') : AppRel w v w' v' := by
  rcases h.ex with ⟨h1, h2⟩ | ⟨g, c, rfl, rfl, h3⟩
  · exact ⟨⟨h1.os, h1.tape, h1.output, h1.size, fun k hk _ => h1.block k hk (by simp)⟩, fun b hb => .inr (h2 b hb)⟩
  · exact ⟨h3, fun b hb => .inl hb⟩

theorem Vec.front {w : World} {B e sz : Nat} {o : Option Addr} {n c : Nat} {xs : List (List Value)} (h : Vec w B e sz (.slice o n c) xs) {k : Nat} (hk : k ≤ xs.length) (ho : o ≠ none) : Vec w B e sz (.slice o k c) (xs.take k) := by
  have hl : ∀ x ∈ xs.take k, x.length = sz := fun x hx => h.len x (List.mem_of_mem_take hx)
  refine ⟨⟨flatten_len hl, ?_⟩, hl⟩
  rcases h.own.2 with ⟨h1, h2⟩ | ⟨g, cap, cur, hv, hg, hh, hle, hcap, hcur, htake⟩
  · cases h1; exact absurd rfl ho
  · refine .inr ⟨g, cap, cur, ?_, hg, hh, ?_, hcap, hcur, ?_⟩
    · simp only [Value.slice.injEq] at hv
      obtain ⟨rfl, -, rfl⟩ := hv
      rw [List.length_take, Nat.min_eq_left hk]
    · rw [List.length_take]; omega
    · have e1 := flatten_len hl
      have e2 : xs.flatten = (xs.take k).flatten ++ (xs.drop k).flatten := by rw [← List.flatten_append, List.take_append_drop]
      rw [e2] at htake
      have e3 := congrArg (List.take ((xs.take k).length * sz)) htake
      rw [List.take_take, ← e1, List.take_left] at e3
      rw [← e3, e1]
      congr 1
      rw [List.length_take, Nat.min_eq_left hk]
      exact (Nat.min_eq_left (Nat.mul_le_mul_right _ hk)).symm

/-- The old slice is as it was. -/
theorem App2.old {w w' : World} {v v' : Value} {D e sz : Nat} {xs ys : List (List Value)} (h : App2 w v xs.length ys.length w' v') (hv : Vec w D e sz v xs) (hv' : Vec w' D e sz v' (xs ++ ys)) : Vec w' D e sz v xs := by
  rcases h.ex with ⟨h1, -⟩ | ⟨g, c, rfl, rfl, h3⟩
  · exact ⟨hv.own.kept h1 (by cases hb : v.ownBlock with
      | none => exact .inl rfl
      | some b => exact .inr (by simp)), hv.len⟩
  · have := hv'.front (k := xs.length) (by rw [List.length_append]; omega) (by simp)
    rwa [List.take_left] at this

theorem run_append2 {P : Program} {t e sz bytes : Nat} (hE : ElemOk P t e sz bytes) {w : World} {B : Nat} {v src : Value} {xs ys : List (List Value)} {ty : Nat} (hv : Vec w B e sz v xs) (hs : SlAt w src sz ys)
    (hly : ∀ y ∈ ys, y.length = sz ∧ ∀ u ∈ y, u.oneCell' = true) (hb : (xs.length + ys.length) * bytes ≤ 140737488355328) (h63 : xs.length + ys.length ≤ maxLen) (hB : B ≤ w.heap.size) (hp : 0 < ys.length) :
    ∃ v' w', (Builtin.append_ #[t, t] ty #[v, src]).run P w = .ok v' w' ∧ Vec w' B e sz v' (xs ++ ys) ∧ App2 w v xs.length ys.length w' v' := by
  obtain ⟨v', w', hrun, hvec, hg, hf⟩ := run_append_vec hE (ty := ty) hv hs hly hb h63 hB
  refine ⟨v', w', hrun, hvec, ?_⟩
  obtain ⟨i, z, hi, hz, hsz, hby, hzs⟩ := hE.info
  obtain ⟨o, cap, hsrc, hle, hcap, hnil⟩ := hs.ex
  have hl : ∀ y ∈ ys, y.length = sz := fun y hy => (hly y hy).1
  have hfl := flatten_len hl
  have hml : maxLen = 9223372036854775807 := rfl
  cases o with
  | none => have := hnil rfl; omega
  | some a =>
    have hel := el_flat (hs.el _ _ _ hsrc) hl hE.pos
    subst hsrc
    rcases hv.own.2 with ⟨h1, h2⟩ | ⟨g, cp, cur, h1, hbg, hg', hnc, hcm, hcs, htake⟩
    · have hx : xs = [] := List.eq_nil_of_length_eq_zero h2
      subst hx
      subst h1
      refine ⟨.inl ⟨hg, fun b hb => ?_⟩⟩
      rcases hf b hb with h | h
      · cases h
      · exact h
    · subst h1
      by_cases hr : xs.length + ys.length ≤ cp
      · have hfit : xs.length * i.size + ys.flatten.length ≤ cur.size := by rw [hfl, hcs, hsz, ← Nat.add_mul]; exact Nat.mul_le_mul_right _ hr
        have := run_append_room (P := P) w t ty e i hE.sl hi g xs.length cp cur hg' a ys.length cap ys.flatten (by rw [hsz]; exact hfl) hel (fun u hu => by
          obtain ⟨y, hy, huy⟩ := List.mem_flatten.1 hu
          exact (hly y hy).2 u huy) hr hfit
        rw [this] at hrun
        cases hrun
        exact ⟨.inr ⟨g, cp, rfl, rfl, hg⟩⟩
      · have holds : ∀ j u, xs.flatten[j]? = some u → w.cell? ((⟨g, 0, none⟩ : Addr).add j) = some u := hv.own.cells (g := g) rfl
        have := run_append_grow (P := P) w t ty e i z hE.sl hi hz ⟨g, 0, none⟩ xs.length cp xs.flatten (by rw [hsz]; exact flatten_len hv.len) holds a ys.length cap ys.flatten (by rw [hsz]; exact hfl) hel (by omega) (by omega) (growslice_fits (by omega) (by rw [hby]; exact hb))
        rw [this] at hrun
        cases hrun
        refine ⟨.inl ⟨⟨rfl, rfl, rfl, by simp, fun k hk _ => heap_alloc_old w.drew _ hk⟩, fun b hb => ?_⟩⟩
        have e1 : some w.heap.size = some b := hb
        cases e1
        exact Nat.le_refl _

theorem RunN.append2 {P : Program} {t e sz bytes : Nat} (hE : ElemOk P t e sz bytes) {w : World} {v src : Value} {ty : Nat} {consts : Array Bool} {k : Value → World → Prop} (B : Nat) (xs ys : List (List Value)) (hv : Vec w B e sz v xs)
    (hs : SlAt w src sz ys) (hly : ∀ y ∈ ys, y.length = sz ∧ ∀ u ∈ y, u.oneCell' = true) (hb : (xs.length + ys.length) * bytes ≤ 140737488355328) (h63 : xs.length + ys.length ≤ maxLen) (hB : B ≤ w.heap.size) (hp : 0 < ys.length)
    (hk : ∀ v' w', Vec w' B e sz v' (xs ++ ys) → App2 w v xs.length ys.length w' v' → k v' w') : RunN P (builtin .append #[t, t] ty consts #[v, src]) w k := by
  obtain ⟨v', w', hrun, h1, h2⟩ := run_append2 hE (ty := ty) hv hs hly hb h63 hB hp
  refine .mk v' w' ?_ (hk _ _ h1 h2)
  simp only [builtin, Sem.run_bind, hrun, Result.andThen_ok, Sem.run_pure]

/-- One element written. -/
theorem RunU.setEl {P : Program} {w : World} {B e sz : Nat} {o : Option Addr} {n c k : Nat} {xs : List (List Value)} {a : Addr} {val : Value} {K : World → Prop} (vs : List Value) (hs : sizeB P e vs.length = true) (h : Vec w B e sz (.slice o n c) xs) (ha : o = some a) (hk : k < xs.length)
    (hl : vs.length = sz) (hc : val.cells = vs.toArray) (h1 : ∀ u ∈ vs, u.oneCell' = true)
    (hK : ∀ w' g cs, Upd w g cs e w' → B ≤ g → (Value.slice o n c).ownBlock = some g → Vec w' B e sz (.slice o n c) (xs.set k vs) → K w') :
    RunU P (storeVar e (a.add (k * sz)) val) w K := by
  obtain ⟨g, cp, cur, hgv, hg1, hg2, hgb, hgl, hgo, hput⟩ := h.put (k := k) hk vs (off := 0) (by omega)
  simp only [Value.slice.injEq] at hgv
  obtain ⟨e1, _, _⟩ := hgv
  rw [e1] at ha
  cases ha
  refine RunU.store g (k * sz + 0) cur vs e (by rw [add_mk, Nat.zero_add]; rfl) hc hs hgb hgl h1 fun w' hU => hK w' g _ hU hg1 hgo ?_
  have := hput w' hU
  have hx : splice xs[k] 0 vs = vs := by
    have := h.len _ (List.getElem_mem hk)
    unfold splice
    rw [List.take_zero, List.nil_append, List.drop_eq_nil_of_le (by omega), List.append_nil]
  rwa [hx] at this

/-- A slice made: empty, with room. -/
theorem RunW.make0 {P : Program} {t e sz bytes : Nat} (hE : ElemOk P t e sz bytes) {w : World} {n : Nat} {K : Value → World → Prop} (B : Nat) (hB : B ≤ w.heap.size) (hn : n * bytes ≤ 140737488355328) (hm : n ≤ maxLen)
    (h : ∀ v w', Vec w' B e sz v [] → Ext w w' → (∀ b, v.ownBlock = some b → w.heap.size ≤ b) → K v w') : RunW P (Instr.makeSlice t (.int .i64 0) (.int .i64 n)) w K := by
  obtain ⟨i, z, hi, hz, hsz, hby, hzs⟩ := hE.info
  obtain ⟨w', hr, ho, hg⟩ := run_make_own (P := P) w B t e i z sz hE.sl hi hz hsz .i64 .i64 n (by rw [hby, Nat.mul_comm]; omega) hm hB
  refine .mk _ _ hr (h _ _ ⟨ho, by simp⟩ ((Below.refl _ w).grown hg (Nat.le_refl _) (fun k hk => by cases hk)) fun b hb => ?_)
  have e1 : some w.heap.size = some b := hb
  cases e1
  exact Nat.le_refl _
/-- A slice made: so many zeros. -/
theorem RunW.makeN {P : Program} {t e sz bytes : Nat} (hE : ElemOk P t e sz bytes) {w : World} {n : Nat} {K : Value → World → Prop} (B : Nat) (hB : B ≤ w.heap.size) (hn : n * bytes ≤ 140737488355328) (hm : n ≤ maxLen) (zc : List Value) (hzc : ∀ i z, P.info? e = some i → i.zero = some z → z.cells = zc.toArray)
    (h : ∀ v w', Vec w' B e sz v (List.replicate n zc) → Ext w w' → (∀ b, v.ownBlock = some b → w.heap.size ≤ b) → K v w') : RunW P (Instr.makeSlice t (.int .i64 n) (.int .i64 n)) w K := by
  obtain ⟨i, z, hi, hz, hsz, hby, hzs⟩ := hE.info
  obtain ⟨w', hr, ho, hg⟩ := run_make_full (P := P) w B t e i z sz hE.sl hi hz hsz .i64 .i64 n (by rw [hby, Nat.mul_comm]; omega) hm hB
  have hzz := hzc i z hi hz
  have hzl : zc.length = sz := by rw [hzz] at hzs; simpa using hzs
  have hsp := hE.pos
  have hfl : (madeCells z.cells (n * sz)).toList = (List.replicate n zc).flatten := by
    have hl : ∀ x ∈ List.replicate n zc, x.length = sz := fun x hx => by rw [List.eq_of_mem_replicate hx]; exact hzl
    apply List.ext_getElem?
    intro j
    rcases Nat.lt_or_ge j (n * sz) with hj | hj
    · have hq : j / sz < n := by rw [Nat.div_lt_iff_lt_mul hsp]; exact hj
      have hm' : j % sz < sz := Nat.mod_lt _ hsp
      have e : j / sz * sz + j % sz = j := by rw [Nat.mul_comm]; exact Nat.div_add_mod j sz
      have := flatten_get hl (i := j / sz) (j := j % sz) (x := zc) (u := zc[j % sz]'(by omega)) (by rw [List.getElem?_replicate, if_pos hq]) (List.getElem?_eq_getElem (by omega))
      rw [e] at this
      rw [this, hzz]
      simp [madeCells, hj, hzl, hm']
    · have h1 : (List.replicate n zc).flatten.length ≤ j := by rw [flatten_len hl]; simpa using hj
      have h2 : (madeCells z.cells (n * sz)).toList.length ≤ j := by rw [Array.length_toList, size_madeCells]; exact hj
      rw [List.getElem?_eq_none h1, List.getElem?_eq_none h2]
  refine .mk _ _ hr (h _ _ ⟨⟨?_, ?_⟩, fun x hx => by rw [List.eq_of_mem_replicate hx]; exact hzl⟩ ((Below.refl _ w).grown hg (Nat.le_refl _) (fun k hk => by cases hk)) fun b hb => ?_)
  · rw [← hfl]; have := ho.1; simpa using this
  · have := ho.2
    rw [hfl] at this
    rw [List.length_replicate]
    exact this
  · have e1 : some w.heap.size = some b := hb
    cases e1
    exact Nat.le_refl _
end Go.V
end

/- The document's answer for characters: what its functions compute, and that it is the program's. -/
section
set_option linter.unusedSimpArgs false
set_option linter.unusedVariables false
namespace Go.Proofs.YtelffdgcikceaaaGreatDoor
open Go.V
open Go.RowKit (Below)

theorem start_iff (r : Int) : nameStartB r = true ↔ ((65 ≤ r ∧ r ≤ 90) ∨ r = 95 ∨ (97 ≤ r ∧ r ≤ 122) ∨ (192 ≤ r ∧ r ≤ 214) ∨ (216 ≤ r ∧ r ≤ 246) ∨ (248 ≤ r ∧ r ≤ 767) ∨ (880 ≤ r ∧ r ≤ 893) ∨ (895 ≤ r ∧ r ≤ 8191) ∨ (8204 ≤ r ∧ r ≤ 8205) ∨ (8304 ≤ r ∧ r ≤ 8591) ∨ (11264 ≤ r ∧ r ≤ 12271) ∨ (12289 ≤ r ∧ r ≤ 55295) ∨ (63744 ≤ r ∧ r ≤ 64975) ∨ (65008 ≤ r ∧ r ≤ 65533) ∨ (65536 ≤ r ∧ r ≤ 983039)) := by
  unfold nameStartB amongB startsL
  simp only [List.any_cons, List.any_nil, Bool.or_eq_true, Bool.and_eq_true, decide_eq_true_eq, Bool.false_eq_true, or_false]
  omega
theorem char_iff (r : Int) : nameCharB r = true ↔ (nameStartB r = true ∨ (45 ≤ r ∧ r ≤ 46) ∨ (48 ≤ r ∧ r ≤ 57) ∨ r = 183 ∨ (768 ≤ r ∧ r ≤ 879) ∨ (8255 ≤ r ∧ r ≤ 8256)) := by
  unfold nameCharB amongB othersL
  simp only [List.any_cons, List.any_nil, Bool.or_eq_true, Bool.and_eq_true, decide_eq_true_eq, Bool.false_eq_true, or_false]
  constructor
  · rintro (h | h)
    · exact .inl h
    · right; omega
  · rintro (h | h)
    · exact .inl h
    · right; omega
theorem chars_iff (r : Int) : charB r = true ↔ (r = 9 ∨ r = 10 ∨ r = 13 ∨ (32 ≤ r ∧ r ≤ 55295) ∨ (57344 ≤ r ∧ r ≤ 65533) ∨ (65536 ≤ r ∧ r ≤ 1114111)) := by
  unfold charB
  repeat' split
  all_goals (first | (simp only [decide_eq_true_eq, Bool.or_eq_true, Bool.and_eq_true]; omega) | omega | (simp; omega))

theorem rWithin_con (r a b : Int) (w : World) : Con Tryz.prog 183 #[.int .i32 r, .int .i32 a, .int .i32 b] w (fun v w' => v = .bool (decide (a ≤ r ∧ r ≤ b)) ∧ w' = w) := by
  refine enter tab_ok Tryz.func183 (fnOk rfl) rfl rfl rfl ?_
  refine Grd.decT (fun g1 => ?_) (fun g1 => ?_)
  · repeat (first | refine Grd.missF ?_ | refine Grd.missT ?_ | refine Grd.hit ?_)
    refine And.intro ?_ rfl
    exact congrArg Value.bool (by rw [Bool.eq_iff_iff, decide_eq_true_eq, decide_eq_true_eq]; omega)
  · repeat (first | refine Grd.missF ?_ | refine Grd.missT ?_ | refine Grd.hit ?_)
    refine And.intro ?_ rfl
    exact congrArg Value.bool (by rw [Bool.eq_iff_iff, decide_eq_true_eq]; exact ⟨(fun h => by cases h), (fun h => absurd h.1 (by omega))⟩)

theorem rStart_con (r : Int) (w : World) : Con Tryz.prog 141 #[.int .i32 r] w (fun v w' => v = .bool (nameStartB r) ∧ w' = w) := by
  refine enter tab_ok Tryz.func141 (fnOk rfl) rfl rfl rfl ?_
  refine CallN.mk _ (rWithin_con r 97 122 w) ?_
  rintro v w1 ⟨hv1, hw1⟩
  have hw2 := hw1.symm
  subst hv1 hw2
  refine Grd.decF (fun g => ?_) (fun g => ?_)
  rotate_left
  · repeat (first | refine Grd.missF ?_ | refine Grd.missT ?_ | refine Grd.hit ?_)
    refine Cond.yes ?_
    exact And.intro (congrArg Value.bool (Bool.eq_iff_iff.2 ⟨fun _ => (start_iff r).2 (by omega), fun _ => rfl⟩)) rfl
  repeat (first | refine Grd.missF ?_ | refine Grd.missT ?_ | refine Grd.hit ?_)
  refine CallN.mk _ (rWithin_con r 65 90 w) ?_
  rintro v w1 ⟨hv1, hw1⟩
  have hw2 := hw1.symm
  subst hv1 hw2
  refine Grd.decF (fun g => ?_) (fun g => ?_)
  rotate_left
  · repeat (first | refine Grd.missF ?_ | refine Grd.missT ?_ | refine Grd.hit ?_)
    refine Cond.yes ?_
    exact And.intro (congrArg Value.bool (Bool.eq_iff_iff.2 ⟨fun _ => (start_iff r).2 (by omega), fun _ => rfl⟩)) rfl
  repeat (first | refine Grd.missF ?_ | refine Grd.missT ?_ | refine Grd.hit ?_)
  refine Grd.decF (fun g => ?_) (fun g => ?_)
  rotate_left
  · repeat (first | refine Grd.missF ?_ | refine Grd.missT ?_ | refine Grd.hit ?_)
    refine Cond.yes ?_
    exact And.intro (congrArg Value.bool (Bool.eq_iff_iff.2 ⟨fun _ => (start_iff r).2 (by omega), fun _ => rfl⟩)) rfl
  repeat (first | refine Grd.missF ?_ | refine Grd.missT ?_ | refine Grd.hit ?_)
  refine CallN.mk _ (rWithin_con r 192 214 w) ?_
  rintro v w1 ⟨hv1, hw1⟩
  have hw2 := hw1.symm
  subst hv1 hw2
  refine Grd.decF (fun g => ?_) (fun g => ?_)
  rotate_left
  · repeat (first | refine Grd.missF ?_ | refine Grd.missT ?_ | refine Grd.hit ?_)
    refine Cond.yes ?_
    exact And.intro (congrArg Value.bool (Bool.eq_iff_iff.2 ⟨fun _ => (start_iff r).2 (by omega), fun _ => rfl⟩)) rfl
  repeat (first | refine Grd.missF ?_ | refine Grd.missT ?_ | refine Grd.hit ?_)
  refine CallN.mk _ (rWithin_con r 216 246 w) ?_
  rintro v w1 ⟨hv1, hw1⟩
  have hw2 := hw1.symm
  subst hv1 hw2
  refine Grd.decF (fun g => ?_) (fun g => ?_)
  rotate_left
  · repeat (first | refine Grd.missF ?_ | refine Grd.missT ?_ | refine Grd.hit ?_)
    refine Cond.yes ?_
    exact And.intro (congrArg Value.bool (Bool.eq_iff_iff.2 ⟨fun _ => (start_iff r).2 (by omega), fun _ => rfl⟩)) rfl
  repeat (first | refine Grd.missF ?_ | refine Grd.missT ?_ | refine Grd.hit ?_)
  refine CallN.mk _ (rWithin_con r 248 767 w) ?_
  rintro v w1 ⟨hv1, hw1⟩
  have hw2 := hw1.symm
  subst hv1 hw2
  refine Cond.dec (fun g => ?_) (fun g => ?_)
  · exact And.intro (congrArg Value.bool (Bool.eq_iff_iff.2 ⟨fun _ => (start_iff r).2 (by omega), fun _ => rfl⟩)) rfl
  refine CallN.mk _ (rWithin_con r 880 893 w) ?_
  rintro v w1 ⟨hv1, hw1⟩
  have hw2 := hw1.symm
  subst hv1 hw2
  refine Grd.decF (fun g => ?_) (fun g => ?_)
  rotate_left
  · repeat (first | refine Grd.missF ?_ | refine Grd.missT ?_ | refine Grd.hit ?_)
    refine Cond.yes ?_
    exact And.intro (congrArg Value.bool (Bool.eq_iff_iff.2 ⟨fun _ => (start_iff r).2 (by omega), fun _ => rfl⟩)) rfl
  repeat (first | refine Grd.missF ?_ | refine Grd.missT ?_ | refine Grd.hit ?_)
  refine CallN.mk _ (rWithin_con r 895 8191 w) ?_
  rintro v w1 ⟨hv1, hw1⟩
  have hw2 := hw1.symm
  subst hv1 hw2
  refine Grd.decF (fun g => ?_) (fun g => ?_)
  rotate_left
  · repeat (first | refine Grd.missF ?_ | refine Grd.missT ?_ | refine Grd.hit ?_)
    refine Cond.yes ?_
    exact And.intro (congrArg Value.bool (Bool.eq_iff_iff.2 ⟨fun _ => (start_iff r).2 (by omega), fun _ => rfl⟩)) rfl
  repeat (first | refine Grd.missF ?_ | refine Grd.missT ?_ | refine Grd.hit ?_)
  refine Grd.decF (fun g => ?_) (fun g => ?_)
  rotate_left
  · repeat (first | refine Grd.missF ?_ | refine Grd.missT ?_ | refine Grd.hit ?_)
    refine Cond.yes ?_
    exact And.intro (congrArg Value.bool (Bool.eq_iff_iff.2 ⟨fun _ => (start_iff r).2 (by omega), fun _ => rfl⟩)) rfl
  repeat (first | refine Grd.missF ?_ | refine Grd.missT ?_ | refine Grd.hit ?_)
  refine Grd.decF (fun g => ?_) (fun g => ?_)
  rotate_left
  · repeat (first | refine Grd.missF ?_ | refine Grd.missT ?_ | refine Grd.hit ?_)
    refine Cond.yes ?_
    exact And.intro (congrArg Value.bool (Bool.eq_iff_iff.2 ⟨fun _ => (start_iff r).2 (by omega), fun _ => rfl⟩)) rfl
  repeat (first | refine Grd.missF ?_ | refine Grd.missT ?_ | refine Grd.hit ?_)
  refine CallN.mk _ (rWithin_con r 8304 8591 w) ?_
  rintro v w1 ⟨hv1, hw1⟩
  have hw2 := hw1.symm
  subst hv1 hw2
  refine Grd.decF (fun g => ?_) (fun g => ?_)
  rotate_left
  · repeat (first | refine Grd.missF ?_ | refine Grd.missT ?_ | refine Grd.hit ?_)
    refine Cond.yes ?_
    exact And.intro (congrArg Value.bool (Bool.eq_iff_iff.2 ⟨fun _ => (start_iff r).2 (by omega), fun _ => rfl⟩)) rfl
  repeat (first | refine Grd.missF ?_ | refine Grd.missT ?_ | refine Grd.hit ?_)
  refine CallN.mk _ (rWithin_con r 11264 12271 w) ?_
  rintro v w1 ⟨hv1, hw1⟩
  have hw2 := hw1.symm
  subst hv1 hw2
  refine Cond.dec (fun g => ?_) (fun g => ?_)
  · exact And.intro (congrArg Value.bool (Bool.eq_iff_iff.2 ⟨fun _ => (start_iff r).2 (by omega), fun _ => rfl⟩)) rfl
  refine CallN.mk _ (rWithin_con r 12289 55295 w) ?_
  rintro v w1 ⟨hv1, hw1⟩
  have hw2 := hw1.symm
  subst hv1 hw2
  refine Grd.decF (fun g => ?_) (fun g => ?_)
  rotate_left
  · repeat (first | refine Grd.missF ?_ | refine Grd.missT ?_ | refine Grd.hit ?_)
    exact And.intro (congrArg Value.bool (Bool.eq_iff_iff.2 ⟨fun _ => (start_iff r).2 (by omega), fun _ => rfl⟩)) rfl
  repeat (first | refine Grd.missF ?_ | refine Grd.missT ?_ | refine Grd.hit ?_)
  refine CallN.mk _ (rWithin_con r 63744 64975 w) ?_
  rintro v w1 ⟨hv1, hw1⟩
  have hw2 := hw1.symm
  subst hv1 hw2
  refine Grd.decF (fun g => ?_) (fun g => ?_)
  rotate_left
  · repeat (first | refine Grd.missF ?_ | refine Grd.missT ?_ | refine Grd.hit ?_)
    exact And.intro (congrArg Value.bool (Bool.eq_iff_iff.2 ⟨fun _ => (start_iff r).2 (by omega), fun _ => rfl⟩)) rfl
  repeat (first | refine Grd.missF ?_ | refine Grd.missT ?_ | refine Grd.hit ?_)
  refine CallN.mk _ (rWithin_con r 65008 65533 w) ?_
  rintro v w1 ⟨hv1, hw1⟩
  have hw2 := hw1.symm
  subst hv1 hw2
  refine Grd.decF (fun g => ?_) (fun g => ?_)
  rotate_left
  · repeat (first | refine Grd.missF ?_ | refine Grd.missT ?_ | refine Grd.hit ?_)
    exact And.intro (congrArg Value.bool (Bool.eq_iff_iff.2 ⟨fun _ => (start_iff r).2 (by omega), fun _ => rfl⟩)) rfl
  repeat (first | refine Grd.missF ?_ | refine Grd.missT ?_ | refine Grd.hit ?_)
  refine CallN.mk _ (rWithin_con r 65536 983039 w) ?_
  rintro v w1 ⟨hv1, hw1⟩
  have hw2 := hw1.symm
  subst hv1 hw2
  repeat (first | refine Grd.missF ?_ | refine Grd.missT ?_ | refine Grd.hit ?_)
  refine And.intro ?_ rfl
  exact congrArg Value.bool (by rw [Bool.eq_iff_iff, start_iff, decide_eq_true_eq]; omega)

theorem rChars_con (r : Int) (w : World) : Con Tryz.prog 184 #[.int .i32 r] w (fun v w' => v = .bool (charB r) ∧ w' = w) := by
  refine enter tab_ok Tryz.func184 (fnOk rfl) rfl rfl rfl ?_
  refine Grd.decF (fun g => ?_) (fun g => ?_)
  rotate_left
  · repeat (first | refine Grd.missF ?_ | refine Grd.missT ?_ | refine Grd.hit ?_)
    exact And.intro (congrArg Value.bool (Bool.eq_iff_iff.2 ⟨fun _ => (chars_iff r).2 (by omega), fun _ => rfl⟩)) rfl
  repeat (first | refine Grd.missF ?_ | refine Grd.missT ?_ | refine Grd.hit ?_)
  refine Grd.decF (fun g => ?_) (fun g => ?_)
  rotate_left
  · repeat (first | refine Grd.missF ?_ | refine Grd.missT ?_ | refine Grd.hit ?_)
    exact And.intro (congrArg Value.bool (Bool.eq_iff_iff.2 ⟨fun _ => (chars_iff r).2 (by omega), fun _ => rfl⟩)) rfl
  repeat (first | refine Grd.missF ?_ | refine Grd.missT ?_ | refine Grd.hit ?_)
  refine Grd.decF (fun g => ?_) (fun g => ?_)
  rotate_left
  · repeat (first | refine Grd.missF ?_ | refine Grd.missT ?_ | refine Grd.hit ?_)
    exact And.intro (congrArg Value.bool (Bool.eq_iff_iff.2 ⟨fun _ => (chars_iff r).2 (by omega), fun _ => rfl⟩)) rfl
  repeat (first | refine Grd.missF ?_ | refine Grd.missT ?_ | refine Grd.hit ?_)
  refine CallN.mk _ (rWithin_con r 32 55295 w) ?_
  rintro v w1 ⟨hv1, hw1⟩
  have hw2 := hw1.symm
  subst hv1 hw2
  refine Grd.decF (fun g => ?_) (fun g => ?_)
  rotate_left
  · repeat (first | refine Grd.missF ?_ | refine Grd.missT ?_ | refine Grd.hit ?_)
    exact And.intro (congrArg Value.bool (Bool.eq_iff_iff.2 ⟨fun _ => (chars_iff r).2 (by omega), fun _ => rfl⟩)) rfl
  repeat (first | refine Grd.missF ?_ | refine Grd.missT ?_ | refine Grd.hit ?_)
  refine CallN.mk _ (rWithin_con r 57344 65533 w) ?_
  rintro v w1 ⟨hv1, hw1⟩
  have hw2 := hw1.symm
  subst hv1 hw2
  refine Grd.decF (fun g => ?_) (fun g => ?_)
  rotate_left
  · repeat (first | refine Grd.missF ?_ | refine Grd.missT ?_ | refine Grd.hit ?_)
    exact And.intro (congrArg Value.bool (Bool.eq_iff_iff.2 ⟨fun _ => (chars_iff r).2 (by omega), fun _ => rfl⟩)) rfl
  repeat (first | refine Grd.missF ?_ | refine Grd.missT ?_ | refine Grd.hit ?_)
  refine CallN.mk _ (rWithin_con r 65536 1114111 w) ?_
  rintro v w1 ⟨hv1, hw1⟩
  have hw2 := hw1.symm
  subst hv1 hw2
  repeat (first | refine Grd.missF ?_ | refine Grd.missT ?_ | refine Grd.hit ?_)
  refine And.intro ?_ rfl
  exact congrArg Value.bool (by rw [Bool.eq_iff_iff, chars_iff, decide_eq_true_eq]; omega)


theorem rChar_con (r : Int) (w : World) : Con Tryz.prog 140 #[.int .i32 r] w (fun v w' => v = .bool (nameCharB r) ∧ w' = w) := by
  refine enter tab_ok Tryz.func140 (fnOk rfl) rfl rfl rfl ?_
  refine CallN.mk _ (rStart_con r w) ?_
  rintro v w1 ⟨hv1, hw1⟩
  have hw2 := hw1.symm
  subst hv1 hw2
  refine Grd.mk (fun g0 => ?_) (fun g0 => ?_)
  rotate_left
  · rw [g0]
    repeat (first | refine Grd.missF ?_ | refine Grd.missT ?_ | refine Grd.hit ?_)
    exact And.intro (congrArg Value.bool (Bool.eq_iff_iff.2 ⟨fun _ => (char_iff r).2 (.inl g0), fun _ => rfl⟩)) rfl
  rw [g0]
  have hc : nameCharB r = true ↔ ((45 ≤ r ∧ r ≤ 46) ∨ (48 ≤ r ∧ r ≤ 57) ∨ r = 183 ∨ (768 ≤ r ∧ r ≤ 879) ∨ (8255 ≤ r ∧ r ≤ 8256)) := by
    rw [char_iff, g0]
    simp
  repeat (first | refine Grd.missF ?_ | refine Grd.missT ?_ | refine Grd.hit ?_)
  refine Grd.decF (fun g => ?_) (fun g => ?_)
  rotate_left
  · repeat (first | refine Grd.missF ?_ | refine Grd.missT ?_ | refine Grd.hit ?_)
    exact And.intro (congrArg Value.bool (Bool.eq_iff_iff.2 ⟨fun _ => hc.2 (by omega), fun _ => rfl⟩)) rfl
  repeat (first | refine Grd.missF ?_ | refine Grd.missT ?_ | refine Grd.hit ?_)
  refine Grd.decF (fun g => ?_) (fun g => ?_)
  rotate_left
  · repeat (first | refine Grd.missF ?_ | refine Grd.missT ?_ | refine Grd.hit ?_)
    exact And.intro (congrArg Value.bool (Bool.eq_iff_iff.2 ⟨fun _ => hc.2 (by omega), fun _ => rfl⟩)) rfl
  repeat (first | refine Grd.missF ?_ | refine Grd.missT ?_ | refine Grd.hit ?_)
  refine CallN.mk _ (rWithin_con r 48 57 w) ?_
  rintro v w1 ⟨hv1, hw1⟩
  have hw2 := hw1.symm
  subst hv1 hw2
  refine Grd.decF (fun g => ?_) (fun g => ?_)
  rotate_left
  · repeat (first | refine Grd.missF ?_ | refine Grd.missT ?_ | refine Grd.hit ?_)
    exact And.intro (congrArg Value.bool (Bool.eq_iff_iff.2 ⟨fun _ => hc.2 (by omega), fun _ => rfl⟩)) rfl
  repeat (first | refine Grd.missF ?_ | refine Grd.missT ?_ | refine Grd.hit ?_)
  refine Grd.decF (fun g => ?_) (fun g => ?_)
  rotate_left
  · repeat (first | refine Grd.missF ?_ | refine Grd.missT ?_ | refine Grd.hit ?_)
    exact And.intro (congrArg Value.bool (Bool.eq_iff_iff.2 ⟨fun _ => hc.2 (by omega), fun _ => rfl⟩)) rfl
  repeat (first | refine Grd.missF ?_ | refine Grd.missT ?_ | refine Grd.hit ?_)
  refine CallN.mk _ (rWithin_con r 768 879 w) ?_
  rintro v w1 ⟨hv1, hw1⟩
  have hw2 := hw1.symm
  subst hv1 hw2
  refine Grd.decF (fun g => ?_) (fun g => ?_)
  rotate_left
  · repeat (first | refine Grd.missF ?_ | refine Grd.missT ?_ | refine Grd.hit ?_)
    exact And.intro (congrArg Value.bool (Bool.eq_iff_iff.2 ⟨fun _ => hc.2 (by omega), fun _ => rfl⟩)) rfl
  repeat (first | refine Grd.missF ?_ | refine Grd.missT ?_ | refine Grd.hit ?_)
  refine Grd.decF (fun g => ?_) (fun g => ?_)
  rotate_left
  · repeat (first | refine Grd.missF ?_ | refine Grd.missT ?_ | refine Grd.hit ?_)
    exact And.intro (congrArg Value.bool (Bool.eq_iff_iff.2 ⟨fun _ => hc.2 (by omega), fun _ => rfl⟩)) rfl
  repeat (first | refine Grd.missF ?_ | refine Grd.missT ?_ | refine Grd.hit ?_)
  repeat (first | refine Grd.missF ?_ | refine Grd.missT ?_ | refine Grd.hit ?_)
  refine And.intro ?_ rfl
  exact congrArg Value.bool (by rw [Bool.eq_iff_iff, hc, decide_eq_true_eq]; omega)


end Go.Proofs.YtelffdgcikceaaaGreatDoor
end

/- The document's answer for characters: Next. -/
section
set_option linter.unusedSimpArgs false
set_option linter.unusedVariables false
namespace Go.Proofs.YtelffdgcikceaaaGreatDoor
open Go.V
open Go.RowKit (Below)

def nextN (avail b0 b1 b2 b3 : Int) : Int × Int :=
  if b0 < 128 then (b0, 1)
  else if 194 ≤ b0 ∧ b0 ≤ 223 then (if 2 ≤ avail ∧ (128 ≤ b1 ∧ b1 ≤ 191) then (64 * (b0 - 192) + b1 - 128, 2) else (0, 0))
  else if 224 ≤ b0 ∧ b0 ≤ 239 then (if 3 ≤ avail ∧ (128 ≤ b1 ∧ b1 ≤ 191) ∧ (128 ≤ b2 ∧ b2 ≤ 191) ∧ ¬ (64 * (64 * (b0 - 224) + b1 - 128) + b2 - 128 < 2048 ∨ (55296 ≤ 64 * (64 * (b0 - 224) + b1 - 128) + b2 - 128 ∧ 64 * (64 * (b0 - 224) + b1 - 128) + b2 - 128 ≤ 57343)) then (64 * (64 * (b0 - 224) + b1 - 128) + b2 - 128, 3) else (0, 0))
  else if 240 ≤ b0 ∧ b0 ≤ 244 then (if 4 ≤ avail ∧ (128 ≤ b1 ∧ b1 ≤ 191) ∧ (128 ≤ b2 ∧ b2 ≤ 191) ∧ (128 ≤ b3 ∧ b3 ≤ 191) ∧ ¬ (64 * (64 * (64 * (b0 - 240) + b1 - 128) + b2 - 128) + b3 - 128 < 65536 ∨ 1114111 < 64 * (64 * (64 * (b0 - 240) + b1 - 128) + b2 - 128) + b3 - 128) then (64 * (64 * (64 * (b0 - 240) + b1 - 128) + b2 - 128) + b3 - 128, 4) else (0, 0))
  else (0, 0)
def nextS (s : ByteArray) (i : Nat) : Int × Int := nextN (s.size - i : Int) (byteAt s i) (byteAt s (i + 1)) (byteAt s (i + 2)) (byteAt s (i + 3))
def nextD (d : Nat × Nat) : Int × Int := if d.2 = 1 ∧ d.1 = 65533 then (0, 0) else (d.1, d.2)

theorem byte_get (s : ByteArray) (n : Nat) : byteAt s n = ((s.get! n).toNat : Int) := by
  unfold byteAt
  show _ = ((s.data[n]!).toNat : Int)
  rw [getElem!_def]
  cases s.data[n]? <;> rfl
theorem byte_lt (s : ByteArray) (n : Nat) : 0 ≤ byteAt s n ∧ byteAt s n ≤ 255 := by
  unfold byteAt
  have := (s.data[n]?.getD 0).toNat_lt
  omega
def decN (i z b0 b1 b2 b3 : Nat) : Nat × Nat :=
  if b0 < 128 then (b0, 1)
  else if b0 / 32 == 6 && (decide (i + 1 < z) && b1 / 64 == 2) then (if b0 % 32 * 64 + b1 % 64 ≥ 128 then (b0 % 32 * 64 + b1 % 64, 2) else (65533, 1))
  else if b0 / 16 == 14 && (decide (i + 1 < z) && b1 / 64 == 2) && (decide (i + 2 < z) && b2 / 64 == 2) then (if b0 % 16 * 4096 + b1 % 64 * 64 + b2 % 64 ≥ 2048 && Utf8.valid ((b0 % 16 * 4096 + b1 % 64 * 64 + b2 % 64 : Nat) : Int) then (b0 % 16 * 4096 + b1 % 64 * 64 + b2 % 64, 3) else (65533, 1))
  else if b0 / 8 == 30 && (decide (i + 1 < z) && b1 / 64 == 2) && (decide (i + 2 < z) && b2 / 64 == 2) && (decide (i + 3 < z) && b3 / 64 == 2) then (if b0 % 8 * 262144 + b1 % 64 * 4096 + b2 % 64 * 64 + b3 % 64 ≥ 65536 && Utf8.valid ((b0 % 8 * 262144 + b1 % 64 * 4096 + b2 % 64 * 64 + b3 % 64 : Nat) : Int) then (b0 % 8 * 262144 + b1 % 64 * 4096 + b2 % 64 * 64 + b3 % 64, 4) else (65533, 1))
  else (65533, 1)
theorem decN_eq (s : ByteArray) (i : Nat) : Utf8.decode s i = decN i s.size (s.get! i).toNat (s.get! (i + 1)).toNat (s.get! (i + 2)).toNat (s.get! (i + 3)).toNat := rfl

theorem next_nat (i z b0 b1 b2 b3 : Nat) (h : i < z) (c0 : b0 < 256) (c1 : b1 < 256) (c2 : b2 < 256) (c3 : b3 < 256) : nextN (z - i : Int) b0 b1 b2 b3 = nextD (decN i z b0 b1 b2 b3) := by
  unfold decN
  simp only [Bool.and_eq_true, beq_iff_eq, decide_eq_true_eq, Utf8.valid, Utf8.runeError, ge_iff_le, Bool.or_eq_true]
  by_cases g0 : b0 < 128
  · rw [if_pos g0]
    unfold nextN nextD
    rw [if_pos (by omega), if_neg (by simp; omega)]
    rfl
  rw [if_neg g0]
  by_cases g1 : b0 / 32 = 6 ∧ i + 1 < z ∧ b1 / 64 = 2
  · rw [if_pos g1]
    by_cases g2 : 128 ≤ b0 % 32 * 64 + b1 % 64
    · rw [if_pos g2]
      unfold nextN nextD
      rw [if_neg (by omega), if_pos (by omega), if_pos (by omega), if_neg (by simp)]
      simp only [Prod.mk.injEq]
      omega
    · rw [if_neg g2]
      unfold nextN nextD
      rw [if_neg (by omega), if_neg (by omega), if_neg (by omega), if_neg (by omega), if_pos (by simp)]
  rw [if_neg g1]
  by_cases g2 : (b0 / 16 = 14 ∧ i + 1 < z ∧ b1 / 64 = 2) ∧ i + 2 < z ∧ b2 / 64 = 2
  · rw [if_pos g2]
    by_cases g3 : 2048 ≤ b0 % 16 * 4096 + b1 % 64 * 64 + b2 % 64 ∧ ¬ (55296 ≤ b0 % 16 * 4096 + b1 % 64 * 64 + b2 % 64 ∧ b0 % 16 * 4096 + b1 % 64 * 64 + b2 % 64 ≤ 57343)
    · rw [if_pos (by simp; omega)]
      unfold nextN nextD
      rw [if_neg (by omega), if_neg (by omega), if_pos (by omega), if_pos (by omega), if_neg (by simp)]
      simp only [Prod.mk.injEq]
      omega
    · rw [if_neg (by simp; omega)]
      unfold nextN nextD
      rw [if_neg (by omega), if_neg (by omega), if_pos (by omega), if_neg (by omega), if_pos (by simp)]
  rw [if_neg g2]
  by_cases g3 : ((b0 / 8 = 30 ∧ i + 1 < z ∧ b1 / 64 = 2) ∧ i + 2 < z ∧ b2 / 64 = 2) ∧ i + 3 < z ∧ b3 / 64 = 2
  · rw [if_pos g3]
    by_cases g4 : 65536 ≤ b0 % 8 * 262144 + b1 % 64 * 4096 + b2 % 64 * 64 + b3 % 64 ∧ b0 % 8 * 262144 + b1 % 64 * 4096 + b2 % 64 * 64 + b3 % 64 ≤ 1114111
    · rw [if_pos (by simp; omega)]
      unfold nextN nextD
      rw [if_neg (by omega), if_neg (by omega), if_neg (by omega), if_pos (by omega), if_pos (by omega), if_neg (by simp)]
      simp only [Prod.mk.injEq]
      omega
    · rw [if_neg (by simp; omega)]
      unfold nextN nextD
      rw [if_neg (by omega), if_neg (by omega), if_neg (by omega)]
      by_cases g5 : b0 ≤ 244
      · rw [if_pos (by omega), if_neg (by omega), if_pos (by simp)]
      · rw [if_neg (by omega), if_pos (by simp)]
  rw [if_neg g3]
  unfold nextN nextD
  rw [if_neg (by omega), if_pos (show (65533, 1).2 = 1 ∧ (65533, 1).1 = 65533 by simp)]
  by_cases k1 : 194 ≤ (b0 : Int) ∧ (b0 : Int) ≤ 223
  · rw [if_pos k1, if_neg (by omega)]
  rw [if_neg k1]
  by_cases k2 : 224 ≤ (b0 : Int) ∧ (b0 : Int) ≤ 239
  · rw [if_pos k2, if_neg (by omega)]
  rw [if_neg k2]
  by_cases k3 : 240 ≤ (b0 : Int) ∧ (b0 : Int) ≤ 244
  · rw [if_pos k3, if_neg (by omega)]
  rw [if_neg k3]
theorem next_decode (s : ByteArray) (i : Nat) (h : i < s.size) : nextS s i = nextD (Utf8.decode s i) := by
  rw [decN_eq, ← next_nat _ _ _ _ _ _ h (s.get! i).toNat_lt (s.get! (i + 1)).toNat_lt (s.get! (i + 2)).toNat_lt (s.get! (i + 3)).toNat_lt]
  unfold nextS
  rw [byte_get s i, byte_get s (i + 1), byte_get s (i + 2), byte_get s (i + 3)]

/-- What a first byte leads to. -/
def leadO (b : Int) : Option (Int × Int) := if 194 ≤ b ∧ b ≤ 223 then some (2, b - 192) else if 224 ≤ b ∧ b ≤ 239 then some (3, b - 224) else if 240 ≤ b ∧ b ≤ 244 then some (4, b - 240) else none
def contR (s : ByteArray) (i : Nat) (r : Int) : Nat → Int
  | 0 => r
  | k + 1 => 64 * contR s i r k + byteAt s (i + (k + 1)) - 128

theorem rNext_con (s : ByteArray) (i : Nat) (w : World) (hi : i < s.size) (hs : s.size ≤ 140737488355328) :
    Con Tryz.prog 139 #[.string s, .int .i64 i] w (fun v w' => v = .tuple #[.int .i32 (nextS s i).1, .int .i64 (nextS s i).2] ∧ w' = w) := by
  have c0 := byte_lt s i
  refine enter tab_ok Tryz.func139 (fnOk rfl) rfl rfl rfl ?_
  refine Need.mk (by omega) ?_
  rw [Int.toNat_natCast]
  refine Ar.i32 (by omega) ?_
  have fin : ∀ a b : Int, nextS s i = (a, b) → (tupleOf [Value.int .i32 a, Value.int .i64 b] = Value.tuple #[.int .i32 (nextS s i).1, .int .i64 (nextS s i).2] ∧ w = w) := fun a b h => by rw [h]; exact ⟨rfl, rfl⟩
  have e0 : ¬ byteAt s i < 128 → leadO (byteAt s i) = none → nextS s i = (0, 0) := fun g1 h => by
    unfold leadO at h
    unfold nextS nextN
    rw [if_neg g1]
    split at h
    · cases h
    · rename_i k1
      rw [if_neg k1]
      split at h
      · cases h
      · rename_i k2
        rw [if_neg k2]
        split at h
        · cases h
        · rename_i k3
          rw [if_neg k3]
  refine Cond.join (X := Int × Int) (fun x => [(0, .string s), (1, .int .i64 i), (7, .int .i64 x.1), (8, .int .i32 x.2)]) (fun x w' => w' = w ∧ ¬ byteAt s i < 128 ∧ leadO (byteAt s i) = some x) (fun g1 => ?_) (fun g1 => ?_) ?_
  · refine fin _ _ ?_
    unfold nextS nextN
    rw [if_pos (of_decide_eq_true g1)]
  · have g1' := of_decide_eq_false g1
    have third : ¬ (194 ≤ byteAt s i ∧ byteAt s i ≤ 223) → ¬ (224 ≤ byteAt s i ∧ byteAt s i ≤ 239) → (leadO (byteAt s i) = if 240 ≤ byteAt s i ∧ byteAt s i ≤ 244 then some (4, byteAt s i - 240) else none) := fun h1 h2 => by
      unfold leadO
      rw [if_neg h1, if_neg h2]
    have second : ¬ (194 ≤ byteAt s i ∧ byteAt s i ≤ 223) → (224 ≤ byteAt s i ∧ byteAt s i ≤ 239) → leadO (byteAt s i) = some (3, byteAt s i - 224) := fun h1 h2 => by
      unfold leadO
      rw [if_neg h1, if_pos h2]
    refine Grd.decT (fun g2 => ?_) (fun g2 => ?_)
    · repeat (first | refine Grd.missF ?_ | refine Grd.missT ?_ | refine Grd.hit ?_)
      refine Cond.dec (fun g3 => ?_) (fun g3 => ?_)
      · refine Ar.i32 (by omega) ?_
        refine ⟨(2, byteAt s i - 192), ⟨rfl, g1', ?_⟩, rfl, rfl, rfl, rfl, trivial⟩
        unfold leadO
        rw [if_pos ⟨g2, g3⟩]
      · have h1 : ¬ (194 ≤ byteAt s i ∧ byteAt s i ≤ 223) := fun h => g3 h.2
        refine Grd.decT (fun g4 => ?_) (fun g4 => ?_)
        · repeat (first | refine Grd.missF ?_ | refine Grd.missT ?_ | refine Grd.hit ?_)
          refine Cond.dec (fun g5 => ?_) (fun g5 => ?_)
          · refine Ar.i32 (by omega) ?_
            exact ⟨(3, byteAt s i - 224), ⟨rfl, g1', second h1 ⟨g4, g5⟩⟩, rfl, rfl, rfl, rfl, trivial⟩
          · have h2 : ¬ (224 ≤ byteAt s i ∧ byteAt s i ≤ 239) := fun h => g5 h.2
            refine Grd.decT (fun g6 => ?_) (fun g6 => ?_)
            · repeat (first | refine Grd.missF ?_ | refine Grd.missT ?_ | refine Grd.hit ?_)
              refine Cond.dec (fun g7 => ?_) (fun g7 => ?_)
              · refine Ar.i32 (by omega) ?_
                exact ⟨(4, byteAt s i - 240), ⟨rfl, g1', by rw [third h1 h2, if_pos ⟨g6, g7⟩]⟩, rfl, rfl, rfl, rfl, trivial⟩
              · exact fin _ _ (e0 g1' (by rw [third h1 h2, if_neg (fun h => g7 h.2)]))
            · exact absurd (show 240 ≤ byteAt s i by omega) g6
        · exact absurd (show 224 ≤ byteAt s i by omega) g4
    · repeat (first | refine Grd.missF ?_ | refine Grd.missT ?_ | refine Grd.hit ?_)
      refine Cond.no ?_
      have h1 : ¬ (194 ≤ byteAt s i ∧ byteAt s i ≤ 223) := fun h => g2 h.1
      refine Grd.decT (fun g4 => absurd g4 (by omega)) (fun g4 => ?_)
      repeat (first | refine Grd.missF ?_ | refine Grd.missT ?_ | refine Grd.hit ?_)
      refine Cond.no ?_
      have h2 : ¬ (224 ≤ byteAt s i ∧ byteAt s i ≤ 239) := fun h => g4 h.1
      refine Grd.decT (fun g6 => absurd g6 (by omega)) (fun g6 => ?_)
      repeat (first | refine Grd.missF ?_ | refine Grd.missT ?_ | refine Grd.hit ?_)
      refine Cond.no ?_
      exact fin _ _ (e0 g1' (by rw [third h1 h2, if_neg (fun h => g6 h.1)]))
  rintro ⟨n, r0⟩ w' ⟨hw', g1, hx⟩
  subst hw'
  have hn : (n = 2 ∧ r0 = byteAt s i - 192 ∧ 194 ≤ byteAt s i ∧ byteAt s i ≤ 223) ∨ (n = 3 ∧ r0 = byteAt s i - 224 ∧ 224 ≤ byteAt s i ∧ byteAt s i ≤ 239) ∨ (n = 4 ∧ r0 = byteAt s i - 240 ∧ 240 ≤ byteAt s i ∧ byteAt s i ≤ 244) := by
    unfold leadO at hx
    split at hx
    · rename_i k; cases hx; exact .inl ⟨rfl, rfl, k⟩
    · split at hx
      · rename_i k; cases hx; exact .inr (.inl ⟨rfl, rfl, k⟩)
      · split at hx
        · rename_i k; cases hx; exact .inr (.inr ⟨rfl, rfl, k⟩)
        · cases hx
  clear e0
  simp only
  have c1 := byte_lt s (i + 1)
  have c2 := byte_lt s (i + 2)
  have c3 := byte_lt s (i + 3)
  refine Ar.i64 (by omega) ?_
  refine Cond.dec (fun g2 => ?_) (fun g2 => ?_)
  · refine fin _ _ ?_
    unfold nextS nextN
    rw [if_neg g1]
    rcases hn with ⟨rfl, rfl, k⟩ | ⟨rfl, rfl, k⟩ | ⟨rfl, rfl, k⟩
    · rw [if_pos k, if_neg (by omega)]
    · rw [if_neg (by omega), if_pos k, if_neg (by omega)]
    · rw [if_neg (by omega), if_neg (by omega), if_pos k, if_neg (by omega)]
  refine LoopVC.mk (X := Nat) (fun k => [(0, .string s), (1, .int .i64 i), (7, .int .i64 n), (8, .int .i32 (contR s i r0 k)), (9, .int .i64 (k + 1 : Nat))])
    (fun k w'' => w'' = w' ∧ (k : Int) + 1 ≤ n ∧ ∀ j, 1 ≤ j → j ≤ k → 128 ≤ byteAt s (i + j) ∧ byteAt s (i + j) ≤ 191) (fun k => 4 - k) 0 ⟨rfl, by omega, fun j h1 h2 => by omega⟩ ⟨rfl, rfl, rfl, rfl, rfl, trivial⟩ ?_
  rintro k w2 ⟨hw2, hk, hc⟩
  subst hw2
  have hk3 : k = 0 ∨ k = 1 ∨ k = 2 ∨ k = 3 := by omega
  have bnd : 0 ≤ contR s i r0 k ∧ contR s i r0 k ≤ 8388607 ∧ (k < 3 → contR s i r0 k ≤ 131071) := by
    rcases hk3 with rfl | rfl | rfl | rfl
    · simp only [contR, Nat.reduceAdd]; omega
    · have := hc 1 (by omega) (by omega)
      simp only [contR, Nat.reduceAdd]; omega
    · have := hc 1 (by omega) (by omega)
      have := hc 2 (by omega) (by omega)
      simp only [contR, Nat.reduceAdd]; omega
    · have := hc 1 (by omega) (by omega)
      have := hc 2 (by omega) (by omega)
      have := hc 3 (by omega) (by omega)
      simp only [contR, Nat.reduceAdd]; omega
  have bad : ∀ j : Nat, 1 ≤ j → (j : Int) < n → ¬ (128 ≤ byteAt s (i + j) ∧ byteAt s (i + j) ≤ 191) → nextS s i = (0, 0) := fun j h1 h2 h3 => by
    have hj : j = 1 ∨ j = 2 ∨ j = 3 := by omega
    unfold nextS nextN
    rw [if_neg g1]
    rcases hn with ⟨rfl, rfl, k⟩ | ⟨rfl, rfl, k⟩ | ⟨rfl, rfl, k⟩
    · rw [if_pos k, if_neg]
      rintro ⟨-, h⟩
      rcases hj with rfl | rfl | rfl
      · exact h3 h
      · omega
      · omega
    · rw [if_neg (by omega), if_pos k, if_neg]
      rintro ⟨-, h, h', -⟩
      rcases hj with rfl | rfl | rfl
      · exact h3 h
      · exact h3 h'
      · omega
    · rw [if_neg (by omega), if_neg (by omega), if_pos k, if_neg]
      rintro ⟨-, h, h', h'', -⟩
      rcases hj with rfl | rfl | rfl
      · exact h3 h
      · exact h3 h'
      · exact h3 h''
  refine Cond.dec (fun g3 => ?_) (fun g3 => ?_)
  · have cx := byte_lt s (i + (k + 1))
    refine Ar.i64n (i + (k + 1)) (by omega) (by omega) ?_
    refine Need.mk (by omega) ?_
    rw [Int.toNat_natCast]
    refine Ar.i32 (by omega) ?_
    refine Grd.decF (fun g4 => ?_) (fun g4 => ?_)
    rotate_left
    · repeat (first | refine Grd.missF ?_ | refine Grd.missT ?_ | refine Grd.hit ?_)
      refine Cond.yes ?_
      exact fin _ _ (bad (k + 1) (by omega) (by omega) (by omega))
    repeat (first | refine Grd.missF ?_ | refine Grd.missT ?_ | refine Grd.hit ?_)
    refine Cond.dec (fun g5 => ?_) (fun g5 => ?_)
    · exact fin _ _ (bad (k + 1) (by omega) (by omega) (by omega))
    have hk2 : k < 3 := by omega
    have := bnd.2.2 hk2
    refine Ar.i32 (by omega) ?_
    refine Ar.i32 (by omega) ?_
    refine Ar.i32 (by omega) ?_
    refine Ar.i64n (k + 1 + 1) (by omega) (by omega) ?_
    refine ⟨k + 1, ⟨rfl, by omega, fun j h1 h2 => ?_⟩, by omega, rfl, rfl, rfl, rfl, rfl, trivial⟩
    by_cases e : j = k + 1
    · subst e; omega
    · exact hc j h1 (by omega)
  · have hkn : (k : Int) + 1 = n := by omega
    have hb : ∀ j : Nat, 1 ≤ j → (j : Int) < n → 128 ≤ byteAt s (i + j) ∧ byteAt s (i + j) ≤ 191 := fun j h1 h2 => hc j h1 (by omega)
    rcases hn with ⟨rfl, hr, k1⟩ | ⟨rfl, hr, k1⟩ | ⟨rfl, hr, k1⟩
    · have hk1 : k = 1 := by omega
      subst hk1 hr
      have b1 := hb 1 (by omega) (by omega)
      repeat (first | refine Grd.missF ?_ | refine Grd.missT ?_ | refine Grd.hit ?_)
      refine Cond.no ?_
      refine fin _ _ ?_
      unfold nextS nextN
      rw [if_neg g1, if_pos k1, if_pos ⟨by omega, b1⟩]
      rfl
    · have hk1 : k = 2 := by omega
      subst hk1 hr
      have b1 := hb 1 (by omega) (by omega)
      have b2 := hb 2 (by omega) (by omega)
      have er : contR s i (byteAt s i - 224) 2 = 64 * (64 * (byteAt s i - 224) + byteAt s (i + 1) - 128) + byteAt s (i + 2) - 128 := rfl
      rw [er]
      generalize hq : 64 * (64 * (byteAt s i - 224) + byteAt s (i + 1) - 128) + byteAt s (i + 2) - 128 = q at *
      have val : nextS s i = if ¬ (q < 2048 ∨ (55296 ≤ q ∧ q ≤ 57343)) then (q, 3) else (0, 0) := by
        unfold nextS nextN
        rw [if_neg g1, if_neg (by omega), if_pos k1, hq]
        by_cases h : q < 2048 ∨ (55296 ≤ q ∧ q ≤ 57343)
        · rw [if_neg (fun hh => hh.2.2.2 h), if_neg (fun hh => hh h)]
        · rw [if_pos ⟨by omega, b1, b2, h⟩, if_pos h]
      repeat (first | refine Grd.missF ?_ | refine Grd.missT ?_ | refine Grd.hit ?_)
      refine Grd.decF (fun g4 => ?_) (fun g4 => ?_)
      · repeat (first | refine Grd.missF ?_ | refine Grd.missT ?_ | refine Grd.hit ?_)
        refine CallN.mk _ (rWithin_con q 55296 57343 w2) ?_
        rintro v w3 ⟨hv3, hw3⟩
        have hw3' := hw3.symm
        subst hv3 hw3'
        repeat (first | refine Grd.missF ?_ | refine Grd.missT ?_ | refine Grd.hit ?_)
        refine Grd.decF (fun g5 => ?_) (fun g5 => ?_)
        · repeat (first | refine Grd.missF ?_ | refine Grd.missT ?_ | refine Grd.hit ?_)
          refine Cond.no ?_
          exact fin _ _ (by rw [val, if_pos (fun h => h.elim g4 g5)])
        · repeat (first | refine Grd.missF ?_ | refine Grd.missT ?_ | refine Grd.hit ?_)
          refine Cond.yes ?_
          exact fin _ _ (by rw [val, if_neg (fun h => h (.inr g5))])
      · repeat (first | refine Grd.missF ?_ | refine Grd.missT ?_ | refine Grd.hit ?_)
        refine Cond.yes ?_
        exact fin _ _ (by rw [val, if_neg (fun h => h (.inl g4))])
    · have hk1 : k = 3 := by omega
      subst hk1 hr
      have b1 := hb 1 (by omega) (by omega)
      have b2 := hb 2 (by omega) (by omega)
      have b3 := hb 3 (by omega) (by omega)
      have er : contR s i (byteAt s i - 240) 3 = 64 * (64 * (64 * (byteAt s i - 240) + byteAt s (i + 1) - 128) + byteAt s (i + 2) - 128) + byteAt s (i + 3) - 128 := rfl
      rw [er]
      generalize hq : 64 * (64 * (64 * (byteAt s i - 240) + byteAt s (i + 1) - 128) + byteAt s (i + 2) - 128) + byteAt s (i + 3) - 128 = q at *
      have val : nextS s i = if ¬ (q < 65536 ∨ 1114111 < q) then (q, 4) else (0, 0) := by
        unfold nextS nextN
        rw [if_neg g1, if_neg (by omega), if_neg (by omega), if_pos k1, hq]
        by_cases h : q < 65536 ∨ 1114111 < q
        · rw [if_neg (fun hh => hh.2.2.2.2 h), if_neg (fun hh => hh h)]
        · rw [if_pos ⟨by omega, b1, b2, b3, h⟩, if_pos h]
      repeat (first | refine Grd.missF ?_ | refine Grd.missT ?_ | refine Grd.hit ?_)
      refine Grd.decF (fun g4 => ?_) (fun g4 => ?_)
      · repeat (first | refine Grd.missF ?_ | refine Grd.missT ?_ | refine Grd.hit ?_)
        refine Cond.dec (fun g5 => ?_) (fun g5 => ?_)
        · exact fin _ _ (by rw [val, if_neg (fun h => h (.inr g5))])
        · exact fin _ _ (by rw [val, if_pos (fun h => h.elim g4 g5)])
      · repeat (first | refine Grd.missF ?_ | refine Grd.missT ?_ | refine Grd.hit ?_)
        refine Cond.yes ?_
        exact fin _ _ (by rw [val, if_neg (fun h => h (.inl g4))])

/-! ### Texts, Name, Blank -/
theorem next_drop (s : ByteArray) (i : Nat) (h : i < s.size) : nextS s i = nextD (Lib.decodeL (s.data.toList.drop i)) := by
  rw [next_decode s i h, decode_drop]
theorem valid_fuel : ∀ (n m : Nat) (l : List UInt8), l.length ≤ n → l.length ≤ m → Lib.validGoD n l = Lib.validGoD m l
  | 0, 0, _, _, _ => rfl
  | 0, m + 1, l, h, _ => by
    have : l = [] := List.eq_nil_of_length_eq_zero (by omega)
    simp [Lib.validGoD, this]
  | n + 1, 0, l, _, h => by
    have : l = [] := List.eq_nil_of_length_eq_zero (by omega)
    simp [Lib.validGoD, this]
  | n + 1, m + 1, l, h1, h2 => by
    simp only [Lib.validGoD]
    by_cases e : l = []
    · rw [if_pos e, if_pos e]
    · rw [if_neg e, if_neg e]
      have hw := Lib.decodeL_width l
      have hl : 0 < l.length := List.length_pos_iff.2 e
      rw [valid_fuel n m (l.drop (Lib.decodeL l).2) (by rw [List.length_drop]; omega) (by rw [List.length_drop]; omega)]
theorem valid_step {l : List UInt8} (h : l ≠ []) : Lib.validD l = if (Lib.decodeL l).1 = 65533 ∧ (Lib.decodeL l).2 = 1 then false else Lib.validD (l.drop (Lib.decodeL l).2) := by
  have hl : 0 < l.length := List.length_pos_iff.2 h
  have hw := Lib.decodeL_width l
  obtain ⟨n, hn⟩ : ∃ n, l.length = n + 1 := ⟨l.length - 1, by omega⟩
  unfold Lib.validD
  rw [hn]
  simp only [Lib.validGoD]
  rw [if_neg h, valid_fuel n (l.drop (Lib.decodeL l).2).length _ (by rw [List.length_drop]; omega) (Nat.le_refl _)]
/-- All that a text holds is right, and such. -/
def goodF (p : Int → Bool) (l : List UInt8) : Bool := allR p l && Lib.validD l
theorem good_nil (p : Int → Bool) : goodF p [] = true := rfl
theorem good_step (p : Int → Bool) {l : List UInt8} (h : l ≠ []) : goodF p l = (!decide ((nextD (Lib.decodeL l)).2 = 0) && (p (nextD (Lib.decodeL l)).1 && goodF p (l.drop (Lib.decodeL l).2))) := by
  have hw := Lib.decodeL_width l
  have hl : 0 < l.length := List.length_pos_iff.2 h
  unfold goodF allR
  rw [runes_cons h, List.all_cons, valid_step h, runes_all_pos p _ _ 0]
  unfold nextD
  by_cases e : (Lib.decodeL l).2 = 1 ∧ (Lib.decodeL l).1 = 65533
  · rw [if_pos ⟨e.2, e.1⟩, if_pos e]
    simp
  · rw [if_neg (fun h => e ⟨h.2, h.1⟩), if_neg e]
    have : ¬ ((Lib.decodeL l).2 : Int) = 0 := by omega
    have this2 : ¬ (Lib.decodeL l).2 = 0 := by omega
    simp [this, this2, Bool.and_assoc]
theorem next_width {l : List UInt8} (h : l ≠ []) (h2 : ¬ (nextD (Lib.decodeL l)).2 = 0) : (nextD (Lib.decodeL l)).2 = ((Lib.decodeL l).2 : Int) := by
  unfold nextD at *
  split at h2
  · exact absurd rfl h2
  · rw [if_neg ‹_›]

theorem next_le (s : ByteArray) (i : Nat) (h : i < s.size) : (nextS s i).2 ≤ (s.size - i : Int) := by
  unfold nextS nextN
  repeat' split
  all_goals (simp only; omega)
theorem drop_ne {s : ByteArray} {i : Nat} (h : i < s.size) : s.data.toList.drop i ≠ [] := fun e => by
  have := congrArg List.length e
  rw [List.length_drop, show s.data.toList.length = s.size from Array.length_toList] at this
  simp only [List.length_nil] at this
  omega
theorem drop_end {s : ByteArray} {i : Nat} (h : s.size ≤ i) : s.data.toList.drop i = [] := List.drop_eq_nil_of_le (by rw [show s.data.toList.length = s.size from Array.length_toList]; exact h)

theorem rTexts_con (s : ByteArray) (w : World) (hs : s.size ≤ 140737488355328) :
    Con Tryz.prog 142 #[.string s] w (fun v w' => v = .bool (textsB s) ∧ w' = w) := by
  have hlen : s.data.toList.length = s.size := Array.length_toList
  refine enter tab_ok Tryz.func142 (fnOk rfl) rfl rfl rfl ?_
  refine LoopVC.mk (X := Nat) (fun i => [(0, .string s), (3, .int .i64 i)]) (fun i w' => w' = w ∧ i ≤ s.size ∧ textsB s = goodF charB (s.data.toList.drop i)) (fun i => s.size - i) 0
    ⟨rfl, Nat.zero_le _, rfl⟩ ⟨rfl, rfl, trivial⟩ ?_
  rintro i w2 ⟨hw2, hi, hg⟩
  subst hw2
  refine Cond.dec (fun g1 => ?_) (fun g1 => ?_)
  · have hil : i < s.size := by omega
    have hne := drop_ne hil
    have hle := next_le s i hil
    rw [next_drop s i hil] at hle
    refine CallN.mk _ (rNext_con s i w2 hil hs) ?_
    rintro v w3 ⟨hv, hw3⟩
    have hw3' := hw3.symm
    subst hv hw3'
    rw [next_drop s i hil]
    have hst := good_step charB hne
    rw [List.drop_drop] at hst
    have hw := Lib.decodeL_width (s.data.toList.drop i)
    refine Grd.decF (fun g2 => ?_) (fun g2 => ?_)
    rotate_left
    · repeat (first | refine Grd.missF ?_ | refine Grd.missT ?_ | refine Grd.hit ?_)
      refine Cond.yes ?_
      refine And.intro ?_ rfl
      rw [hg, hst, g2]
      rfl
    · repeat (first | refine Grd.missF ?_ | refine Grd.missT ?_ | refine Grd.hit ?_)
      refine CallN.mk _ (rChars_con _ w2) ?_
      rintro v w3 ⟨hv, hw3⟩
      have hw3' := hw3.symm
      subst hv hw3'
      have hnw := next_width hne g2
      repeat (first | refine Grd.missF ?_ | refine Grd.missT ?_ | refine Grd.hit ?_)
      refine Cond.neg (fun h => ?_) (fun h => ?_)
      · refine And.intro ?_ rfl
        rw [hg, hst, h, Bool.false_and, Bool.and_false]
        rfl
      · rw [hnw] at hle ⊢
        refine Ar.i64n (i + (Lib.decodeL (s.data.toList.drop i)).2) (by omega) (by omega) ?_
        refine ⟨i + (Lib.decodeL (s.data.toList.drop i)).2, ⟨rfl, by omega, ?_⟩, by omega, rfl, rfl, trivial⟩
        rw [hg, hst, h, decide_eq_false g2]
        rfl
  · refine And.intro ?_ rfl
    rw [hg, drop_end (by omega), good_nil]
    rfl

theorem name_good (s : ByteArray) (h1 : 1 ≤ s.size) (h2 : s.size ≤ 100) : nameB s = (nameStartB (nextD (Lib.decodeL s.data.toList)).1 && goodF nameCharB s.data.toList) := by
  have hne : s.data.toList ≠ [] := by have := drop_ne (s := s) (i := 0) (by omega); simpa using this
  have e1 : nameB s = (nameStartB ((Lib.decodeL s.data.toList).1 : Nat) && goodF nameCharB s.data.toList) := by
    unfold nameB goodF
    rw [decide_eq_true h2, Bool.and_true, Bool.and_assoc]
    congr 1
    split
    · rename_i e; exact absurd e hne
    · rfl
  rw [e1, good_step nameCharB hne]
  unfold nextD
  by_cases e : (Lib.decodeL s.data.toList).2 = 1 ∧ (Lib.decodeL s.data.toList).1 = 65533
  · rw [if_pos e]; simp
  · rw [if_neg e]
theorem rName_con (s : ByteArray) (w : World) (hs : s.size ≤ 140737488355328) :
    Con Tryz.prog 86 #[.string s] w (fun v w' => v = .bool (nameB s) ∧ w' = w) := by
  have hlen : s.data.toList.length = s.size := Array.length_toList
  refine enter tab_ok Tryz.func86 (fnOk rfl) rfl rfl rfl ?_
  refine Grd.decF (fun g1 => ?_) (fun g1 => ?_)
  rotate_left
  · repeat (first | refine Grd.missF ?_ | refine Grd.missT ?_ | refine Grd.hit ?_)
    refine Cond.yes ?_
    refine And.intro ?_ rfl
    have : s.data.toList = [] := List.eq_nil_of_length_eq_zero (by omega)
    simp [nameB, this, tupleOf]
  repeat (first | refine Grd.missF ?_ | refine Grd.missT ?_ | refine Grd.hit ?_)
  refine Cond.dec (fun g2 => ?_) (fun g2 => ?_)
  · refine And.intro ?_ rfl
    have : ¬ s.size ≤ 100 := by omega
    simp [nameB, this, tupleOf]
  have hb := name_good s (by omega) (by omega)
  refine LoopVC.mk (X := Nat) (fun i => [(0, .string s), (3, .int .i64 i)]) (fun i w' => w' = w ∧ i ≤ s.size ∧ (i = 0 ∨ nameStartB (nextD (Lib.decodeL s.data.toList)).1 = true) ∧ goodF nameCharB s.data.toList = goodF nameCharB (s.data.toList.drop i)) (fun i => s.size - i) 0
    ⟨rfl, Nat.zero_le _, .inl rfl, rfl⟩ ⟨rfl, rfl, trivial⟩ ?_
  rintro i w2 ⟨hw2, hi, hz, hg⟩
  subst hw2
  refine Cond.dec (fun g3 => ?_) (fun g3 => ?_)
  · have hil : i < s.size := by omega
    have hne := drop_ne hil
    have hle := next_le s i hil
    rw [next_drop s i hil] at hle
    refine CallN.mk _ (rNext_con s i w2 hil hs) ?_
    rintro v w3 ⟨hv, hw3⟩
    have hw3' := hw3.symm
    subst hv hw3'
    rw [next_drop s i hil]
    have hst := good_step nameCharB hne
    rw [List.drop_drop] at hst
    have hw := Lib.decodeL_width (s.data.toList.drop i)
    have no : goodF nameCharB (s.data.toList.drop i) = false → (tupleOf [Value.bool false] = Value.bool (nameB s) ∧ w2 = w2) := fun h => by
      rw [hb, hg, h, Bool.and_false]
      exact ⟨rfl, rfl⟩
    refine Grd.decF (fun g4 => ?_) (fun g4 => ?_)
    rotate_left
    · repeat (first | refine Grd.missF ?_ | refine Grd.missT ?_ | refine Grd.hit ?_)
      refine Cond.yes ?_
      exact no (by rw [hst, g4]; rfl)
    · repeat (first | refine Grd.missF ?_ | refine Grd.missT ?_ | refine Grd.hit ?_)
      refine CallN.mk _ (rChar_con _ w2) ?_
      rintro v w3 ⟨hv, hw3⟩
      have hw3' := hw3.symm
      subst hv hw3'
      have hnw := next_width hne g4
      repeat (first | refine Grd.missF ?_ | refine Grd.missT ?_ | refine Grd.hit ?_)
      refine Grd.negF (fun h => ?_) (fun h => ?_)
      rotate_left
      · rw [h]
        repeat (first | refine Grd.missF ?_ | refine Grd.missT ?_ | refine Grd.hit ?_)
        refine Cond.yes ?_
        exact no (by rw [hst, h, Bool.false_and, Bool.and_false])
      · repeat (first | refine Grd.missF ?_ | refine Grd.missT ?_ | refine Grd.hit ?_)
        have next : (i = 0 → nameStartB (nextD (Lib.decodeL s.data.toList)).1 = true) → (nameStartB (nextD (Lib.decodeL s.data.toList)).1 = true) ∧ goodF nameCharB s.data.toList = goodF nameCharB (s.data.toList.drop (i + (Lib.decodeL (s.data.toList.drop i)).2)) := fun h0 => by
          refine ⟨?_, ?_⟩
          · rcases hz with e | e
            · exact h0 e
            · exact e
          · rw [hg, hst, h, decide_eq_false g4]
            rfl
        refine Grd.decT (fun g5 => ?_) (fun g5 => ?_)
        · have hi0 : i = 0 := by omega
          repeat (first | refine Grd.missF ?_ | refine Grd.missT ?_ | refine Grd.hit ?_)
          refine CallN.mk _ (rStart_con _ w2) ?_
          rintro v w3 ⟨hv, hw3⟩
          have hw3' := hw3.symm
          subst hv hw3'
          repeat (first | refine Grd.missF ?_ | refine Grd.missT ?_ | refine Grd.hit ?_)
          refine Cond.neg (fun k => ?_) (fun k => ?_)
          · refine And.intro ?_ rfl
            rw [hi0, List.drop_zero] at k
            rw [hb, k]
            rfl
          · rw [hnw] at hle ⊢
            have hn := next (fun _ => by rw [hi0, List.drop_zero] at k; exact k)
            refine Ar.i64n (i + (Lib.decodeL (s.data.toList.drop i)).2) (by omega) (by omega) ?_
            exact ⟨i + (Lib.decodeL (s.data.toList.drop i)).2, ⟨rfl, by omega, .inr hn.1, hn.2⟩, by omega, rfl, rfl, trivial⟩
        · repeat (first | refine Grd.missF ?_ | refine Grd.missT ?_ | refine Grd.hit ?_)
          refine Cond.no ?_
          rw [hnw] at hle ⊢
          have hn := next (fun e => absurd (show (i : Int) = 0 by omega) g5)
          refine Ar.i64n (i + (Lib.decodeL (s.data.toList.drop i)).2) (by omega) (by omega) ?_
          exact ⟨i + (Lib.decodeL (s.data.toList.drop i)).2, ⟨rfl, by omega, .inr hn.1, hn.2⟩, by omega, rfl, rfl, trivial⟩
  · refine And.intro ?_ rfl
    have hz' : nameStartB (nextD (Lib.decodeL s.data.toList)).1 = true := by
      rcases hz with e | e
      · omega
      · exact e
    rw [hb, hg, hz', drop_end (by omega), good_nil]
    rfl
end Go.Proofs.YtelffdgcikceaaaGreatDoor
end

/- The document's answer for rows: its small functions. -/
section
set_option linter.unusedSimpArgs false
set_option linter.unusedVariables false
namespace Go.Proofs.YtelffdgcikceaaaGreatDoor
open Go.V
open Go.RowKit (Below)

def parK (t : List Nd) (i : Nat) : Int := if (nd t (i : Int)).parent < 0 then 0 else (nd t (nd t (i : Int)).parent).kind
theorem rParent_con (v : Value) (t : List Nd) (i : Nat) (w : World) (ht : NodesAt w v t) (hi : i < t.length) (hp : (nd t (i : Int)).parent < t.length) :
    Con Tryz.prog 207 #[v, .int .i64 i] w (fun v' w' => v' = .int .u8 (parK t i) ∧ w' = w) := by
  obtain ⟨o, c, rfl, h1, h2, h3, h4⟩ := ht.open_
  have hl := ht.len
  obtain ⟨a, rfl, hc⟩ := h4 w (Ext.refl _) i hi
  have hn := nd_of hi
  rw [← hn] at hc
  refine enter tab_ok Tryz.func207 (fnOk rfl) rfl rfl rfl ?_
  refine Idx.mk a rfl (by omega) (by omega) ?_
  refine Load.here (hc.one (k := 3) rfl) ?_
  refine Cond.dec (fun g1 => ?_) (fun g1 => ?_)
  · refine And.intro ?_ rfl
    simp [tupleOf, parK, g1]
  · have hlt : (nd t (i : Int)).parent.toNat < t.length := by omega
    obtain ⟨a2, ha2, hc2⟩ := h4 w (Ext.refl _) _ hlt
    cases ha2
    rw [← nd_of' hlt] at hc2
    refine Idx.mk a rfl (by omega) (by omega) ?_
    refine Load.here (hc.one (k := 3) rfl) ?_
    refine Idx.mk a rfl (by omega) (by omega) ?_
    refine Load.here (hc2.one (k := 0) rfl) ?_
    refine And.intro ?_ rfl
    simp [tupleOf, parK, g1]

/-- The last sibling ahead. -/
def sibF (t : List Nd) (i : Nat) : Nat → Int
  | 0 => -1
  | k + 1 => if (nd t (i : Int)).parent < (k : Int) then (if (nd t (k : Int)).parent = (nd t (i : Int)).parent ∧ (nd t (k : Int)).kind ≠ 3 then (k : Int) else sibF t i k) else -1
theorem rSibling_con (v : Value) (t : List Nd) (i : Nat) (w : World) (ht : NodesAt w v t) (hi : i < t.length) (hp : -1 ≤ (nd t (i : Int)).parent) :
    Con Tryz.prog 209 #[v, .int .i64 i] w (fun v' w' => v' = .int .i64 (sibF t i i) ∧ Ext w w') := by
  obtain ⟨o, c, rfl, h1, h2, h3, h4⟩ := ht.open_
  have hl := ht.len
  have hn := nd_of hi
  refine enter tab_ok Tryz.func209 (fnOk rfl) rfl rfl rfl ?_
  refine Ar.i64 (by omega) ?_
  refine LoopVC.mk (X := Nat) (fun k => [(0, .slice o t.length c), (1, .int .i64 i), (5, .int .i64 ((k : Int) - 1))]) (fun k w' => Ext w w' ∧ k ≤ i ∧ sibF t i i = sibF t i k) (fun k => k) i
    ⟨Ext.refl _, Nat.le_refl _, rfl⟩ ⟨rfl, rfl, rfl, trivial⟩ ?_
  rintro k w1 ⟨hE, hk, hs⟩
  obtain ⟨a, rfl, hc⟩ := h4 w1 hE i hi
  rw [← hn] at hc
  refine Idx.mk a rfl (by omega) (by omega) ?_
  refine Load.here (hc.one (k := 3) rfl) ?_
  refine Cond.dec (fun g1 => ?_) (fun g1 => ?_)
  · obtain ⟨m, rfl⟩ : ∃ m, k = m + 1 := ⟨k - 1, by omega⟩
    have hm : m < t.length := by omega
    have hst : sibF t i (m + 1) = (if (nd t (m : Int)).parent = (nd t (i : Int)).parent ∧ (nd t (m : Int)).kind ≠ 3 then (m : Int) else sibF t i m) := by
      simp only [sibF]
      rw [if_pos (by omega)]
    have em : ((m + 1 : Nat) : Int) - 1 = (m : Int) := by omega
    rw [em]
    have hE2 := hE.trans (Ext.drew w1)
    obtain ⟨a', ha', hc'⟩ := h4 _ hE2 i hi
    cases ha'
    rw [← hn] at hc'
    obtain ⟨a', ha', hcm⟩ := h4 _ hE2 m hm
    cases ha'
    rw [← nd_of hm] at hcm
    refine DrawVC.mk tab_ok mixed (allT 0 19) [] (by kernel_rfl) (fun w' => w' = w1.drew) rfl ?_
    refine Idx.mk a rfl (by omega) (by omega) ?_
    refine Load.here (hcm.one (k := 3) rfl) ?_
    refine Idx.mk a rfl (by omega) (by omega) ?_
    refine Load.here (hc'.one (k := 3) rfl) ?_
    refine Grd.decT (fun g2 => ?_) (fun g2 => ?_)
    · repeat (first | refine Grd.missF ?_ | refine Grd.missT ?_ | refine Grd.hit ?_)
      refine Idx.mk a rfl (by omega) (by omega) ?_
      repeat (first | refine Grd.missF ?_ | refine Grd.missT ?_ | refine Grd.hit ?_)
      refine Load.here (hcm.one (k := 0) rfl) ?_
      repeat (first | refine Grd.missF ?_ | refine Grd.missT ?_ | refine Grd.hit ?_)
      refine Cond.ndec (fun g3 => ?_) (fun g3 => ?_)
      · refine And.intro ?_ hE2
        rw [hs, hst, if_pos ⟨g2, g3⟩]
        rfl
      · refine Ar.i64 (by omega) ?_
        refine ⟨m, ⟨hE2, by omega, ?_⟩, by omega, rfl, rfl, rfl, trivial⟩
        rw [hs, hst, if_neg (fun h => h.2 g3)]
    · repeat (first | refine Grd.missF ?_ | refine Grd.missT ?_ | refine Grd.hit ?_)
      refine Cond.no ?_
      refine Ar.i64 (by omega) ?_
      refine ⟨m, ⟨hE2, by omega, ?_⟩, by omega, rfl, rfl, rfl, trivial⟩
      rw [hs, hst, if_neg (fun h => g2 h.1)]
  · refine And.intro ?_ hE
    rw [hs]
    cases k with
    | zero => rfl
    | succ m =>
      simp only [sibF]
      rw [if_neg (by omega)]
      rfl

/-- All between the parent and here are other attributes of it. -/
def attrsF (t : List Nd) (i : Nat) (k : Nat) : Bool := decide ((nd t (k : Int)).parent = (nd t (i : Int)).parent) && (decide ((nd t (k : Int)).kind = 3) && !decide ((nd t (k : Int)).name = (nd t (i : Int)).name))
def attrR (t : List Nd) (i : Nat) : Bool := decide (parK t i = 2) && (nameB (nd t (i : Int)).name && (List.range (i - ((nd t (i : Int)).parent + 1).toNat)).all fun k => attrsF t i (((nd t (i : Int)).parent + 1).toNat + k))
theorem rAttribute_con (v : Value) (t : List Nd) (i : Nat) (w : World) (ht : NodesAt w v t) (hi : i < t.length) (hp : -1 ≤ (nd t (i : Int)).parent ∧ (nd t (i : Int)).parent < i) :
    Con Tryz.prog 208 #[v, .int .i64 i] w (fun v' w' => v' = .bool (attrR t i) ∧ Ext w w') := by
  have ht0 := ht
  obtain ⟨o, c, rfl, h1, h2, h3, h4⟩ := ht.open_
  have hl := ht.len
  have hn := nd_of hi
  obtain ⟨a, ha, hc⟩ := h4 w (Ext.refl _) i hi
  subst ha
  rw [← hn] at hc
  have hwf := ht.wf _ (List.getElem_mem hi)
  rw [← hn] at hwf
  refine enter tab_ok Tryz.func208 (fnOk rfl) rfl rfl rfl ?_
  refine Idx.mk a rfl (by omega) (by omega) ?_
  refine Load.here (hc.one (k := 3) rfl) ?_
  refine CallN.mk _ (rParent_con _ t i w ht0 hi (by omega)) ?_
  rintro v w1 ⟨hv, hw⟩
  have hw' := hw.symm
  subst hv hw'
  refine Grd.ndecF (fun g1 => ?_) (fun g1 => ?_)
  rotate_left
  · repeat (first | refine Grd.missF ?_ | refine Grd.missT ?_ | refine Grd.hit ?_)
    refine Cond.yes ?_
    refine And.intro ?_ (Ext.refl _)
    unfold attrR
    rw [decide_eq_false g1]
    rfl
  repeat (first | refine Grd.missF ?_ | refine Grd.missT ?_ | refine Grd.hit ?_)
  refine Idx.mk a rfl (by omega) (by omega) ?_
  repeat (first | refine Grd.missF ?_ | refine Grd.missT ?_ | refine Grd.hit ?_)
  refine Load.here (hc.one (k := 1) rfl) ?_
  repeat (first | refine Grd.missF ?_ | refine Grd.missT ?_ | refine Grd.hit ?_)
  refine CallN.mk _ (rName_con _ w hwf.name) ?_
  rintro v w1 ⟨hv, hw⟩
  have hw' := hw.symm
  subst hv hw'
  repeat (first | refine Grd.missF ?_ | refine Grd.missT ?_ | refine Grd.hit ?_)
  refine Cond.neg (fun g2 => ?_) (fun g2 => ?_)
  · refine And.intro ?_ (Ext.refl _)
    unfold attrR
    rw [g2, Bool.false_and, Bool.and_false]
    rfl
  obtain ⟨q, hq⟩ : ∃ q : Nat, q = ((nd t (i : Int)).parent + 1).toNat := ⟨_, rfl⟩
  have hqi : (nd t (i : Int)).parent + 1 = (q : Int) := by omega
  have hval : attrR t i = (List.range (i - q)).all fun k => attrsF t i (q + k) := by
    unfold attrR
    rw [decide_eq_true g1, g2, ← hq]
    rfl
  refine Ar.i64n q hqi (by omega) ?_
  refine LoopVC.mk (X := Nat) (fun k => [(0, .slice (some a) t.length c), (1, .int .i64 i), (5, .int .i64 (nd t (i : Int)).parent), (6, .int .i64 (q + k : Nat))]) (fun k w' => Ext w w' ∧ q + k ≤ i ∧ (List.range k).all (fun k => attrsF t i (q + k)) = true) (fun k => i - (q + k)) 0
    ⟨Ext.refl _, by omega, rfl⟩ ⟨rfl, rfl, rfl, rfl, trivial⟩ ?_
  rintro k w1 ⟨hE, hk, hs⟩
  refine Cond.dec (fun g3 => ?_) (fun g3 => ?_)
  · have hm : q + k < t.length := by omega
    have hE2 := hE.trans (Ext.drew w1)
    obtain ⟨a', ha', hc'⟩ := h4 _ hE2 i hi
    cases ha'
    rw [← hn] at hc'
    obtain ⟨a', ha', hcm⟩ := h4 _ hE2 (q + k) hm
    cases ha'
    rw [← nd_of hm] at hcm
    have no : attrsF t i (q + k) = false → (tupleOf [Value.bool false] = Value.bool (attrR t i) ∧ Ext w w1.drew) := fun h => by
      refine ⟨?_, hE2⟩
      have : attrR t i = false := by
        rw [hval, List.all_eq_false]
        exact ⟨k, List.mem_range.2 (by omega), by simp [h]⟩
      rw [this]
      rfl
    refine DrawVC.mk tab_ok mixed (allT 0 28) [] (by kernel_rfl) (fun w' => w' = w1.drew) rfl ?_
    refine Idx.mk a rfl (by omega) (by omega) ?_
    refine Load.here (hcm.one (k := 3) rfl) ?_
    refine Grd.ndecF (fun g4 => ?_) (fun g4 => ?_)
    · repeat (first | refine Grd.missF ?_ | refine Grd.missT ?_ | refine Grd.hit ?_)
      refine Idx.mk a rfl (by omega) (by omega) ?_
      repeat (first | refine Grd.missF ?_ | refine Grd.missT ?_ | refine Grd.hit ?_)
      refine Load.here (hcm.one (k := 0) rfl) ?_
      repeat (first | refine Grd.missF ?_ | refine Grd.missT ?_ | refine Grd.hit ?_)
      refine Grd.ndecF (fun g5 => ?_) (fun g5 => ?_)
      · repeat (first | refine Grd.missF ?_ | refine Grd.missT ?_ | refine Grd.hit ?_)
        refine Idx.mk a rfl (by omega) (by omega) ?_
        repeat (first | refine Grd.missF ?_ | refine Grd.missT ?_ | refine Grd.hit ?_)
        refine Load.here (hcm.one (k := 1) rfl) ?_
        repeat (first | refine Grd.missF ?_ | refine Grd.missT ?_ | refine Grd.hit ?_)
        refine Idx.mk a rfl (by omega) (by omega) ?_
        repeat (first | refine Grd.missF ?_ | refine Grd.missT ?_ | refine Grd.hit ?_)
        refine Load.here (hc'.one (k := 1) rfl) ?_
        repeat (first | refine Grd.missF ?_ | refine Grd.missT ?_ | refine Grd.hit ?_)
        refine Cond.dec (fun g6 => ?_) (fun g6 => ?_)
        · exact no (by unfold attrsF; rw [decide_eq_true g6, Bool.not_true, Bool.and_false, Bool.and_false])
        · refine Ar.i64n (q + (k + 1)) (by omega) (by omega) ?_
          refine ⟨k + 1, ⟨hE2, by omega, ?_⟩, by omega, rfl, rfl, rfl, rfl, trivial⟩
          rw [List.range_succ, List.all_append, hs, List.all_cons, List.all_nil, Bool.and_true, Bool.true_and]
          unfold attrsF
          rw [decide_eq_true g4, decide_eq_true g5, decide_eq_false g6]
          rfl
      · repeat (first | refine Grd.missF ?_ | refine Grd.missT ?_ | refine Grd.hit ?_)
        refine Cond.yes ?_
        exact no (by unfold attrsF; rw [decide_eq_false g5, Bool.false_and, Bool.and_false])
    · repeat (first | refine Grd.missF ?_ | refine Grd.missT ?_ | refine Grd.hit ?_)
      refine Cond.yes ?_
      exact no (by unfold attrsF; rw [decide_eq_false g4, Bool.false_and])
  · refine And.intro ?_ hE
    have hk2 : i - q = k := by omega
    rw [hval, hk2, hs]
    rfl

/-- How many elements deep. -/
def deepF (t : List Nd) : Nat → Int → Int
  | 0, _ => 0
  | n + 1, p => if 0 ≤ p then (if (nd t p).kind = 2 then 1 else 0) + deepF t n (nd t p).parent else 0
theorem deepF_fuel {t : List Nd} {N : Nat} (hu : ∀ j : Nat, j < N → (nd t (j : Int)).parent < j) : ∀ (n m : Nat) (p : Int), p < N → p < n → p < m → deepF t n p = deepF t m p
  | 0, 0, _, _, _, _ => rfl
  | 0, m + 1, p, _, h, _ => by
    unfold deepF
    rw [if_neg (by omega)]
  | n + 1, 0, p, _, _, h => by
    unfold deepF
    rw [if_neg (by omega)]
  | n + 1, m + 1, p, h0, h1, h2 => by
    unfold deepF
    by_cases hp : 0 ≤ p
    · rw [if_pos hp, if_pos hp]
      have := hu p.toNat (by omega)
      rw [show ((p.toNat : Nat) : Int) = p by omega] at this
      rw [deepF_fuel hu n m _ (by omega) (by omega) (by omega)]
    · rw [if_neg hp, if_neg hp]
theorem rDeep_con (v : Value) (t : List Nd) (i : Nat) (w : World) (ht : NodesAt w v t) (hi : i < t.length) (hu : ∀ j : Nat, j < i + 1 → (nd t (j : Int)).parent < j) :
    Con Tryz.prog 186 #[v, .int .i64 i] w (fun v' w' => v' = .int .i64 (deepF t (i + 1) i) ∧ w' = w) := by
  obtain ⟨o, c, rfl, h1, h2, h3, h4⟩ := ht.open_
  have hl := ht.len
  refine enter tab_ok Tryz.func186 (fnOk rfl) rfl rfl rfl ?_
  refine LoopVC.mk (X := Nat × Int × Int) (fun x => [(0, .slice o t.length c), (1, .int .i64 i), (5, .int .i64 x.2.1), (6, .int .i64 x.2.2)]) (fun x w' => w' = w ∧ x.1 ≤ i + 1 ∧ x.2.2 < x.1 ∧ 0 ≤ x.2.1 ∧ x.2.1 + x.1 ≤ i + 1 ∧ x.2.1 + deepF t x.1 x.2.2 = deepF t (i + 1) i) (fun x => x.1) (i + 1, 0, i)
    ⟨rfl, Nat.le_refl _, by simp; omega, Int.le_refl _, by simp, by simp⟩ ⟨rfl, rfl, rfl, rfl, trivial⟩ ?_
  rintro ⟨k, d, p⟩ w1 ⟨hw, hk, hpk, hd, hdk, hs⟩
  simp only at hk hpk hd hdk hs ⊢
  subst hw
  refine Cond.dec (fun g1 => ?_) (fun g1 => ?_)
  · obtain ⟨m, rfl⟩ : ∃ m, k = m + 1 := ⟨k - 1, by omega⟩
    have hpl : p.toNat < t.length := by omega
    obtain ⟨a, ha, hc⟩ := h4 w1 (Ext.refl _) _ hpl
    subst ha
    rw [← nd_of' hpl] at hc
    have hup := hu p.toNat (by omega)
    rw [show ((p.toNat : Nat) : Int) = p by omega] at hup
    have hst : deepF t (m + 1) p = (if (nd t p).kind = 2 then 1 else 0) + deepF t m (nd t p).parent := by
      show (if 0 ≤ p then (if (nd t p).kind = 2 then 1 else 0) + deepF t m (nd t p).parent else 0) = _
      rw [if_pos g1]
    rw [hst] at hs
    refine Idx.mk a rfl (by omega) (by omega) ?_
    refine Load.here (hc.one (k := 0) rfl) ?_
    refine Cond.dec (fun g2 => ?_) (fun g2 => ?_)
    · rw [if_pos g2] at hs
      refine Ar.i64 (by omega) ?_
      refine Idx.mk a rfl (by omega) (by omega) ?_
      refine Load.here (hc.one (k := 3) rfl) ?_
      exact ⟨(m, d + 1, (nd t p).parent), ⟨rfl, by simp only; omega, by simp only; omega, by simp only; omega, by simp only; omega, by simp only; omega⟩, by simp only; omega, rfl, rfl, rfl, rfl, trivial⟩
    · rw [if_neg g2] at hs
      refine Idx.mk a rfl (by omega) (by omega) ?_
      refine Load.here (hc.one (k := 3) rfl) ?_
      exact ⟨(m, d, (nd t p).parent), ⟨rfl, by simp only; omega, by simp only; omega, by simp only; omega, by simp only; omega, by simp only; omega⟩, by simp only; omega, rfl, rfl, rfl, rfl, trivial⟩
  · refine And.intro ?_ rfl
    have : deepF t k p = 0 := by
      cases k with
      | zero => rfl
      | succ m => unfold deepF; rw [if_neg g1]
    rw [← hs, this, Int.add_zero]
    rfl

/-- In order, as the reference asks. -/
theorem rInOrder_con (v : Value) (t : List Nd) (w : World) (ht : NodesAt w v t) :
    Con Tryz.prog 175 #[v] w (fun v' w' => v' = .bool ((List.range t.length).all (openB t)) ∧ w' = w) := by
  obtain ⟨o, c, rfl, h1, h2, h3, h4⟩ := ht.open_
  have hl := ht.len
  have hwp : ∀ (j : Nat) (hj : j < t.length), -9223372036854775808 ≤ (nd t (j : Int)).parent ∧ (nd t (j : Int)).parent ≤ 9223372036854775807 := fun j hj => by
    rw [nd_of hj]; exact (ht.wf _ (List.getElem_mem hj)).parent
  refine enter tab_ok Tryz.func175 (fnOk rfl) rfl rfl rfl ?_
  refine LoopVC.mk (X := Nat) (fun i => [(0, .slice o t.length c), (3, .int .i64 i)]) (fun i w' => w' = w ∧ i ≤ t.length ∧ (List.range i).all (openB t) = true ∧ ∀ j : Nat, j < i → -1 ≤ (nd t (j : Int)).parent ∧ (nd t (j : Int)).parent < j) (fun i => t.length - i) 0
    ⟨rfl, Nat.zero_le _, rfl, fun j h => by omega⟩ ⟨rfl, rfl, trivial⟩ ?_
  rintro i w1 ⟨hw, hi, hs, hu⟩
  subst hw
  refine Cond.dec (fun g1 => ?_) (fun g1 => ?_)
  · have hil : i < t.length := by omega
    obtain ⟨a, ha, hc⟩ := h4 w1 (Ext.refl _) i hil
    subst ha
    rw [← nd_of hil] at hc
    refine Ar.i64 (by omega) ?_
    have no : openB t i = false → (tupleOf [Value.bool false] = Value.bool ((List.range t.length).all (openB t)) ∧ w1 = w1) := fun h => by
      have : (List.range t.length).all (openB t) = false := by
        rw [List.all_eq_false]
        exact ⟨i, List.mem_range.2 hil, by simp [h]⟩
      rw [this]
      exact ⟨rfl, rfl⟩
    refine LoopVC.mk (X := Nat × Int) (fun x => [(0, .slice (some a) t.length c), (3, .int .i64 i), (4, .int .i64 x.2)]) (fun x w' => w' = w1 ∧ -1 ≤ x.2 ∧ x.2 < i ∧ x.2 + 1 ≤ x.1 ∧ chase t (nd t (i : Int)).parent x.1 x.2 = chase t (nd t (i : Int)).parent i ((i : Int) - 1)) (fun x => (x.2 + 1).toNat) (i, (i : Int) - 1)
      ⟨rfl, by simp only; omega, by simp only; omega, by simp only; omega, rfl⟩ ⟨rfl, rfl, rfl, trivial⟩ ?_
    rintro ⟨n, p⟩ w2 ⟨hw, hp0, hp1, hn, hch⟩
    simp only at hp0 hp1 hn hch ⊢
    subst hw
    refine Idx.mk a rfl (by omega) (by omega) ?_
    refine Load.here (hc.one (k := 3) rfl) ?_
    refine Cond.ndec (fun g2 => ?_) (fun g2 => ?_)
    · refine Cond.dec (fun g3 => ?_) (fun g3 => ?_)
      · refine no ?_
        unfold openB
        rw [← hch, chase_stop (by omega)]
        exact decide_eq_false g2
      · have hpl : p.toNat < t.length := by omega
        obtain ⟨a', ha', hcp⟩ := h4 w2 (Ext.refl _) _ hpl
        cases ha'
        rw [← nd_of' hpl] at hcp
        have hup := hu p.toNat (by omega)
        rw [show ((p.toNat : Nat) : Int) = p by omega] at hup
        refine Idx.mk a rfl (by omega) (by omega) ?_
        refine Load.here (hcp.one (k := 3) rfl) ?_
        refine ⟨(n - 1, (nd t p).parent), ⟨rfl, by simp only; omega, by simp only; omega, by simp only; omega, ?_⟩, by simp only; omega, rfl, rfl, rfl, trivial⟩
        simp only
        rw [← hch]
        obtain ⟨m, rfl⟩ : ∃ m, n = m + 1 := ⟨n - 1, by omega⟩
        simp only [chase]
        rw [if_pos ⟨by omega, g2⟩]
        rfl
    · have hob : openB t i = true := by
        unfold openB
        rw [← hch, chase_stop (by omega)]
        exact decide_eq_true g2
      refine Ar.i64 (by omega) ?_
      refine ⟨i + 1, ⟨rfl, by omega, ?_, fun j hj => ?_⟩, by omega, rfl, rfl, trivial⟩
      · rw [List.range_succ, List.all_append, hs, List.all_cons, List.all_nil, hob]
        rfl
      · by_cases e : j = i
        · subst e; omega
        · exact hu j (by omega)
  · refine And.intro ?_ rfl
    have : i = t.length := by omega
    rw [← this, hs]
    rfl

/-! ### has, xml, Blank -/
def hasF (s p : ByteArray) : Bool := (List.range (s.size + 1 - p.size)).any fun i => decide (s.extract i (i + p.size) = p)
theorem rHas_con (s p : ByteArray) (w : World) (hs : s.size ≤ 140737488355328) (hp : p.size ≤ 10) :
    Con Tryz.prog 210 #[.string s, .string p] w (fun v' w' => v' = .bool (hasF s p) ∧ w' = w) := by
  refine enter tab_ok Tryz.func210 (fnOk rfl) rfl rfl rfl ?_
  refine LoopVC.mk (X := Nat) (fun i => [(0, .string s), (1, .string p), (5, .int .i64 i)]) (fun i w' => w' = w ∧ i ≤ s.size + 1 - p.size ∧ (List.range i).any (fun i => decide (s.extract i (i + p.size) = p)) = false) (fun i => s.size + 1 - p.size - i) 0
    ⟨rfl, Nat.zero_le _, rfl⟩ ⟨rfl, rfl, rfl, trivial⟩ ?_
  rintro i w1 ⟨hw, hi, hn⟩
  subst hw
  refine Ar.i64 (by omega) ?_
  refine Cond.dec (fun g1 => ?_) (fun g1 => ?_)
  · refine Ar.i64n (i + p.size) (by omega) (by omega) ?_
    refine Need.mk (by omega) ?_
    simp only [Int.toNat_natCast]
    refine Cond.dec (fun g2 => ?_) (fun g2 => ?_)
    · refine And.intro ?_ rfl
      have : hasF s p = true := by
        unfold hasF
        rw [List.any_eq_true]
        exact ⟨i, List.mem_range.2 (by omega), decide_eq_true g2⟩
      rw [this]
      rfl
    · refine Ar.i64 (by omega) ?_
      refine ⟨i + 1, ⟨rfl, by omega, ?_⟩, by omega, rfl, rfl, rfl, trivial⟩
      rw [List.range_succ, List.any_append, hn, List.any_cons, List.any_nil, decide_eq_false g2]
      rfl
  · refine And.intro ?_ rfl
    have hi2 : i = s.size + 1 - p.size := by omega
    unfold hasF
    rw [← hi2, hn]
    rfl

theorem rXml_con (s : ByteArray) (w : World) : Con Tryz.prog 211 #[.string s] w (fun v' w' => v' = .bool (xmlB s) ∧ w' = w) := by
  have e0 : byteAt xmlT 0 = 120 := rfl
  have e1 : byteAt xmlT 1 = 109 := rfl
  have e2 : byteAt xmlT 2 = 108 := rfl
  have n0 : Int.toNat 0 = 0 := rfl
  have n1 : Int.toNat 1 = 1 := rfl
  have n2 : Int.toNat 2 = 2 := rfl
  refine enter tab_ok Tryz.func211 (fnOk rfl) rfl rfl rfl ?_
  refine Grd.decT (fun g0 => ?_) (fun g0 => ?_)
  rotate_left
  · repeat (first | refine Grd.missF ?_ | refine Grd.missT ?_ | refine Grd.hit ?_)
    refine And.intro ?_ rfl
    have : ¬ s.size = 3 := by omega
    simp [tupleOf, xmlB, this]
  have g3 : s.size = 3 := by omega
  repeat' (first | refine Grd.missF ?_ | refine Grd.missT ?_ | refine Grd.hit ?_ | refine Need.mk (by omega) ?_ | refine Grd.decF (fun _ => ?_) (fun _ => ?_) | refine Grd.decT (fun _ => ?_) (fun _ => ?_))
  all_goals (refine And.intro ?_ rfl; simp only [n0, n1, n2] at *; simp [tupleOf, xmlB, foldc, e0, e1, e2, *])

theorem rBlank_con (s : ByteArray) (w : World) (hs : s.size = 1) : Con Tryz.prog 212 #[.string s] w (fun v' w' => v' = .bool (decide (byteAt s 0 = 9 ∨ byteAt s 0 = 10 ∨ byteAt s 0 = 13 ∨ byteAt s 0 = 32)) ∧ w' = w) := by
  refine enter tab_ok Tryz.func212 (fnOk rfl) rfl rfl rfl ?_
  refine LoopVC.mk (X := Nat) (fun i => [(0, .string s), (3, .int .i64 i)]) (fun i w' => w' = w ∧ (i = 0 ∨ (i = 1 ∧ (byteAt s 0 = 9 ∨ byteAt s 0 = 10 ∨ byteAt s 0 = 13 ∨ byteAt s 0 = 32)))) (fun i => 1 - i) 0
    ⟨rfl, .inl rfl⟩ ⟨rfl, rfl, trivial⟩ ?_
  rintro i w1 ⟨hw, hi⟩
  subst hw
  refine Cond.dec (fun g1 => ?_) (fun g1 => ?_)
  · have hi0 : i = 0 := by omega
    subst hi0
    have nx : (byteAt s 0 = 9 ∨ byteAt s 0 = 10 ∨ byteAt s 0 = 13 ∨ byteAt s 0 = 32) → ∀ w', w' = w1 → (w' = w1 ∧ (0 + 1 = 0 ∨ (0 + 1 = 1 ∧ (byteAt s 0 = 9 ∨ byteAt s 0 = 10 ∨ byteAt s 0 = 13 ∨ byteAt s 0 = 32)))) := fun h w' e => ⟨e, .inr ⟨rfl, h⟩⟩
    have z0 : ((0 : Nat) : Int).toNat = 0 := rfl
    refine Need.mk (by omega) ?_
    refine Grd.ndecT (fun g2 => ?_) (fun g2 => ?_)
    rotate_left
    · rw [z0] at g2
      repeat (first | refine Grd.missF ?_ | refine Grd.missT ?_ | refine Grd.hit ?_)
      refine Cond.no ?_
      refine Ar.i64n (0 + 1) (by omega) (by omega) ?_
      exact ⟨0 + 1, nx (.inl g2) _ rfl, by omega, rfl, rfl, trivial⟩
    repeat (first | refine Grd.missF ?_ | refine Grd.missT ?_ | refine Grd.hit ?_)
    refine Need.mk (by omega) ?_
    refine Grd.hit ?_
    refine Grd.ndecT (fun g3 => ?_) (fun g3 => ?_)
    rotate_left
    · rw [z0] at g3
      repeat (first | refine Grd.missF ?_ | refine Grd.missT ?_ | refine Grd.hit ?_)
      refine Cond.no ?_
      refine Ar.i64n (0 + 1) (by omega) (by omega) ?_
      exact ⟨0 + 1, nx (.inr (.inl g3)) _ rfl, by omega, rfl, rfl, trivial⟩
    repeat (first | refine Grd.missF ?_ | refine Grd.missT ?_ | refine Grd.hit ?_)
    refine Need.mk (by omega) ?_
    refine Grd.hit ?_
    refine Grd.ndecT (fun g4 => ?_) (fun g4 => ?_)
    rotate_left
    · rw [z0] at g4
      repeat (first | refine Grd.missF ?_ | refine Grd.missT ?_ | refine Grd.hit ?_)
      refine Cond.no ?_
      refine Ar.i64n (0 + 1) (by omega) (by omega) ?_
      exact ⟨0 + 1, nx (.inr (.inr (.inl g4))) _ rfl, by omega, rfl, rfl, trivial⟩
    repeat (first | refine Grd.missF ?_ | refine Grd.missT ?_ | refine Grd.hit ?_)
    refine Need.mk (by omega) ?_
    refine Grd.hit ?_
    refine Cond.ndec (fun g5 => ?_) (fun g5 => ?_)
    · rw [z0] at *
      refine And.intro ?_ rfl
      rw [decide_eq_false (by simp [g2, g3, g4, g5])]
      rfl
    · rw [z0] at g5
      refine Ar.i64n (0 + 1) (by omega) (by omega) ?_
      exact ⟨0 + 1, nx (.inr (.inr (.inr g5))) _ rfl, by omega, rfl, rfl, trivial⟩
  · have hi1 : i = 1 ∧ (byteAt s 0 = 9 ∨ byteAt s 0 = 10 ∨ byteAt s 0 = 13 ∨ byteAt s 0 = 32) := by
      rcases hi with h | h
      · omega
      · exact h
    refine And.intro ?_ rfl
    rw [decide_eq_true hi1.2]
    rfl
end Go.Proofs.YtelffdgcikceaaaGreatDoor
end

/- The document's answer for rows: fits. -/
section
set_option linter.unusedSimpArgs false
set_option linter.unusedVariables false
namespace Go.Proofs.YtelffdgcikceaaaGreatDoor
open Go.V
open Go.RowKit (Below)

/-- May a parent of this kind (0: none) have such? -/
def insideR (up : Int) : Bool := decide (up = 0 ∨ up = 2 ∨ up = 1)
def blank1 (s : ByteArray) : Bool := decide (byteAt s 0 = 9 ∨ byteAt s 0 = 10 ∨ byteAt s 0 = 13 ∨ byteAt s 0 = 32)
def kindR (t : List Nd) (i : Nat) (up : Int) (n : Nd) : Bool :=
  if n.kind = 1 then decide (i = 0) && (decide (n.name = zname) && decide (n.value = zname))
  else if n.kind = 2 then insideR up && (nameB n.name && decide (n.value = zname))
  else if n.kind = 3 then attrR t i
  else if n.kind = 4 then decide (up = 0 ∨ up = 2) && (decide (n.name = zname) && (!decide (n.value = zname) && (decide (sibF t i i < 0) || !decide ((nd t (sibF t i i)).kind = 4))))
  else if n.kind = 5 then insideR up && (decide (n.name = zname) && (!hasF n.value dashesT && (decide (n.value = zname) || !decide (byteAt n.value (n.value.size - 1) = 45))))
  else if n.kind = 6 then insideR up && (nameB n.name && (!xmlB n.name && (!hasF n.value endT && (decide (n.value = zname) || !blank1 (n.value.extract 0 1)))))
  else false
def rFits (t : List Nd) (i : Nat) : Bool := textsB (nd t (i : Int)).value && (!decide (65536 < (nd t (i : Int)).value.size) && kindR t i (parK t i) (nd t (i : Int)))

theorem sib_lt (t : List Nd) (i : Nat) : ∀ k, -1 ≤ sibF t i k ∧ sibF t i k < k
  | 0 => by simp [sibF]
  | k + 1 => by
    have := sib_lt t i k
    simp only [sibF]
    split
    · split <;> omega
    · omega
theorem empty_iff (s : ByteArray) : s = zname ↔ s.size = 0 := by
  constructor
  · intro h; rw [h]; rfl
  · intro h
    obtain ⟨d⟩ := s
    have : d = #[] := Array.eq_empty_of_size_eq_zero h
    rw [this]; rfl

set_option maxHeartbeats 2000000 in
theorem rFits_con (v : Value) (t : List Nd) (i : Nat) (w : World) (ht : NodesAt w v t) (hi : i < t.length) (hp : -1 ≤ (nd t (i : Int)).parent ∧ (nd t (i : Int)).parent < i) :
    Con Tryz.prog 185 #[v, .int .i64 i] w (fun v' w' => v' = .bool (rFits t i) ∧ Ext w w') := by
  have ht0 := ht
  obtain ⟨o, c, rfl, h1, h2, h3, h4⟩ := ht.open_
  have hl := ht.len
  obtain ⟨ai, hai, hci⟩ := h4 w (Ext.refl _) i hi
  subst hai
  have hnd := nd_of hi
  have hwf := ht.wf _ (List.getElem_mem hi)
  have hF : rFits t i = (textsB (t[i]).value && (!decide (65536 < (t[i]).value.size) && kindR t i (parK t i) t[i])) := by unfold rFits; rw [hnd]
  have hp' := hp
  rw [hnd] at hp'
  have hSib := sib_lt t i i
  generalize t[i] = n at *
  obtain ⟨kind, name, value, parent⟩ := n
  have hkind := hwf.kind
  have hname := hwf.name
  have hvalue := hwf.value
  simp only at hkind hname hvalue hp' hF
  refine enter tab_ok Tryz.func185 (fnOk rfl) rfl rfl rfl ?_
  refine Idx.mk ai rfl (by omega) (by omega) ?_
  refine Load.here (hci.all' rfl) ?_
  refine RunW.alloc _ [.int .u8 0, .string ⟨#[]⟩, .string ⟨#[]⟩, .int .i64 0] zero50 rfl fun bn w1 hn1 => ?_
  refine RunU.store bn 0 _ [.int .u8 kind, .string name, .string value, .int .i64 parent] 50 rfl rfl (by kernel_rfl) hn1.blk (by simp) (by simp [Value.oneCell']) fun w2 hn2 => ?_
  have hN := hn1.upd hn2
  have hcn := hN.blk.cells
  have hE2 := hN.ext
  have ht2 := ht0.ext hE2
  refine CallN.mk _ (rParent_con _ t i w2 ht2 hi (by omega)) ?_
  rintro v w3 ⟨hv, hw⟩
  have hw' := hw.symm
  subst hv hw'
  obtain ⟨up, hup⟩ : ∃ up, parK t i = up := ⟨_, rfl⟩
  rw [hup] at hF ⊢
  have fin : ∀ (b : Bool) (w' : World), rFits t i = b → Ext w w' → (tupleOf [Value.bool b] = Value.bool (rFits t i) ∧ Ext w w') := fun b w' h1 h2 => by rw [h1]; exact ⟨rfl, h2⟩
  refine Load.here (hcn.one (k := 2) rfl) ?_
  refine CallN.mk _ (rTexts_con value w2 hvalue) ?_
  rintro v w3 ⟨hv, hw⟩
  have hw' := hw.symm
  subst hv hw'
  refine Grd.negF (fun g1 => ?_) (fun g1 => ?_)
  rotate_left
  · rw [g1]
    repeat (first | refine Grd.missF ?_ | refine Grd.missT ?_ | refine Grd.hit ?_)
    refine Cond.yes ?_
    exact fin _ _ (by rw [hF, g1]; rfl) hE2
  rw [g1] at hF ⊢
  repeat (first | refine Grd.missF ?_ | refine Grd.missT ?_ | refine Grd.hit ?_)
  refine Load.here (hcn.one (k := 2) rfl) ?_
  repeat (first | refine Grd.missF ?_ | refine Grd.missT ?_ | refine Grd.hit ?_)
  refine Cond.dec (fun g2 => ?_) (fun g2 => ?_)
  · exact fin _ _ (by rw [hF, decide_eq_true (by omega)]; rfl) hE2
  have g2' : ¬ 65536 < value.size := by omega
  rw [decide_eq_false g2'] at hF
  simp only [Bool.true_and, Bool.not_false] at hF
  have hV1 : kind = 1 → rFits t i = (decide (i = 0) && (decide (name = zname) && decide (value = zname))) := fun k1 => by rw [hF]; unfold kindR; rw [if_pos k1]
  have hV2 : kind = 2 → rFits t i = (insideR up && (nameB name && decide (value = zname))) := fun k => by rw [hF]; unfold kindR; rw [if_neg (by simp only; omega), if_pos k]
  have hV3 : kind = 3 → rFits t i = attrR t i := fun k => by rw [hF]; unfold kindR; rw [if_neg (by simp only; omega), if_neg (by simp only; omega), if_pos k]
  have hV4 : kind = 4 → rFits t i = (decide (up = 0 ∨ up = 2) && (decide (name = zname) && (!decide (value = zname) && (decide (sibF t i i < 0) || !decide ((nd t (sibF t i i)).kind = 4))))) := fun k => by rw [hF]; unfold kindR; rw [if_neg (by simp only; omega), if_neg (by simp only; omega), if_neg (by simp only; omega), if_pos k]
  have hV5 : kind = 5 → rFits t i = (insideR up && (decide (name = zname) && (!hasF value dashesT && (decide (value = zname) || !decide (byteAt value (value.size - 1) = 45))))) := fun k => by rw [hF]; unfold kindR; rw [if_neg (by simp only; omega), if_neg (by simp only; omega), if_neg (by simp only; omega), if_neg (by simp only; omega), if_pos k]
  have hV6 : kind = 6 → rFits t i = (insideR up && (nameB name && (!xmlB name && (!hasF value endT && (decide (value = zname) || !blank1 (value.extract 0 1)))))) := fun k => by rw [hF]; unfold kindR; rw [if_neg (by simp only; omega), if_neg (by simp only; omega), if_neg (by simp only; omega), if_neg (by simp only; omega), if_neg (by simp only; omega), if_pos k]
  have hV7 : ¬ kind = 1 → ¬ kind = 2 → ¬ kind = 3 → ¬ kind = 4 → ¬ kind = 5 → ¬ kind = 6 → rFits t i = false := fun a b c d e f => by rw [hF]; unfold kindR; rw [if_neg a, if_neg b, if_neg c, if_neg d, if_neg e, if_neg f]
  clear hF
  refine Grd.decF (fun u0 => ?_) (fun hu0 => ?_)
  · repeat (first | refine Grd.missF ?_ | refine Grd.missT ?_ | refine Grd.hit ?_)
    refine Grd.decF (fun u2 => ?_) (fun hu2 => ?_)
    · repeat (first | refine Grd.missF ?_ | refine Grd.missT ?_ | refine Grd.hit ?_)
      by_cases u1 : up = 1
      · have hin : insideR up = true := decide_eq_true (.inr (.inr u1))
        repeat (first | refine Grd.missF ?_ | refine Grd.missT ?_ | refine Grd.hit ?_)
        refine Load.here (hcn.one (k := 0) rfl) ?_
        refine Cond.dec (fun k1 => ?_) (fun k1 => ?_)
        · refine Grd.decT (fun q1 => ?_) (fun q1 => ?_)
          · repeat (first | refine Grd.missF ?_ | refine Grd.missT ?_ | refine Grd.hit ?_)
            refine Load.here (hcn.one (k := 1) rfl) ?_
            repeat (first | refine Grd.missF ?_ | refine Grd.missT ?_ | refine Grd.hit ?_)
            refine Grd.decT (fun q2 => ?_) (fun q2 => ?_)
            · repeat (first | refine Grd.missF ?_ | refine Grd.missT ?_ | refine Grd.hit ?_)
              refine Load.here (hcn.one (k := 2) rfl) ?_
              repeat (first | refine Grd.missF ?_ | refine Grd.missT ?_ | refine Grd.hit ?_)
              have q1' : i = 0 := by omega
              exact fin _ _ (by rw [hV1 k1, decide_eq_true q1', decide_eq_true (show name = zname from q2)]; rfl) hE2
            · repeat (first | refine Grd.missF ?_ | refine Grd.missT ?_ | refine Grd.hit ?_)
              exact fin _ _ (by rw [hV1 k1, decide_eq_false (show ¬ name = zname from q2), Bool.false_and, Bool.and_false]) hE2
          · repeat (first | refine Grd.missF ?_ | refine Grd.missT ?_ | refine Grd.hit ?_)
            have q1' : ¬ i = 0 := by omega
            exact fin _ _ (by rw [hV1 k1, decide_eq_false q1', Bool.false_and]) hE2
        refine Cond.dec (fun k2 => ?_) (fun k2 => ?_)
        · refine Grd.decT (fun uu => ?_) (fun uu => absurd u1 uu)
          repeat (first | refine Grd.missF ?_ | refine Grd.missT ?_ | refine Grd.hit ?_)
          refine Load.here (hcn.one (k := 1) rfl) ?_
          repeat (first | refine Grd.missF ?_ | refine Grd.missT ?_ | refine Grd.hit ?_)
          refine CallN.mk _ (rName_con name w2 hname) ?_
          rintro v w4 ⟨hv, hw⟩
          have hw' := hw.symm
          subst hv hw'
          repeat (first | refine Grd.missF ?_ | refine Grd.missT ?_ | refine Grd.hit ?_)
          refine Grd.mk (fun q2 => ?_) (fun q2 => ?_)
          · rw [q2]
            repeat (first | refine Grd.missF ?_ | refine Grd.missT ?_ | refine Grd.hit ?_)
            refine Load.here (hcn.one (k := 2) rfl) ?_
            repeat (first | refine Grd.missF ?_ | refine Grd.missT ?_ | refine Grd.hit ?_)
            exact fin _ _ (by rw [hV2 k2, hin, q2]; rfl) hE2
          · rw [q2]
            repeat (first | refine Grd.missF ?_ | refine Grd.missT ?_ | refine Grd.hit ?_)
            exact fin _ _ (by rw [hV2 k2, q2, Bool.not_true, Bool.false_and, Bool.and_false]) hE2
        refine Cond.dec (fun k3 => ?_) (fun k3 => ?_)
        · refine CallN.mk _ (rAttribute_con _ t i w2 ht2 hi hp) ?_
          rintro v w4 ⟨rfl, hE4⟩
          exact fin _ _ (hV3 k3) (hE2.trans hE4)
        refine Cond.dec (fun k4 => ?_) (fun k4 => ?_)
        · refine CallN.mk _ (rSibling_con _ t i w2 ht2 hi hp.1) ?_
          rintro v w4 ⟨rfl, hE4⟩
          have hE04 := hE2.trans hE4
          have hc4 := hcn.ext hE4
          have tail : up = 0 ∨ up = 2 → ∀ b, (b = (decide (name = zname) && (!decide (value = zname) && (decide (sibF t i i < 0) || !decide ((nd t (sibF t i i)).kind = 4))))) → rFits t i = b := fun h b hb => by
            rw [hV4 k4, decide_eq_true h, hb, Bool.true_and]
          refine Grd.decF (fun u => ?_) (fun u => absurd u (by omega))
          repeat (first | refine Grd.missF ?_ | refine Grd.missT ?_ | refine Grd.hit ?_)
          refine Grd.decT (fun u2 => absurd u2 (by omega)) (fun u2 => ?_)
          repeat (first | refine Grd.missF ?_ | refine Grd.missT ?_ | refine Grd.hit ?_)
          exact fin _ _ (by rw [hV4 k4, decide_eq_false (by omega), Bool.false_and]) hE04
        refine Cond.dec (fun k5 => ?_) (fun k5 => ?_)
        · refine Grd.decT (fun uu => ?_) (fun uu => absurd u1 uu)
          repeat (first | refine Grd.missF ?_ | refine Grd.missT ?_ | refine Grd.hit ?_)
          refine Load.here (hcn.one (k := 1) rfl) ?_
          repeat (first | refine Grd.missF ?_ | refine Grd.missT ?_ | refine Grd.hit ?_)
          refine Grd.decT (fun q2 => ?_) (fun q2 => ?_)
          rotate_left
          · repeat (first | refine Grd.missF ?_ | refine Grd.missT ?_ | refine Grd.hit ?_)
            exact fin _ _ (by rw [hV5 k5, decide_eq_false (show ¬ name = zname from q2), Bool.false_and, Bool.and_false]) hE2
          repeat (first | refine Grd.missF ?_ | refine Grd.missT ?_ | refine Grd.hit ?_)
          refine Load.here (hcn.one (k := 2) rfl) ?_
          repeat (first | refine Grd.missF ?_ | refine Grd.missT ?_ | refine Grd.hit ?_)
          refine CallN.mk _ (rHas_con value dashesT w2 hvalue (by decide)) ?_
          rintro v w4 ⟨hv, hw⟩
          have hw' := hw.symm
          subst hv hw'
          repeat (first | refine Grd.missF ?_ | refine Grd.missT ?_ | refine Grd.hit ?_)
          refine Grd.negT (fun q3 => ?_) (fun q3 => ?_)
          rotate_left
          · rw [q3]
            repeat (first | refine Grd.missF ?_ | refine Grd.missT ?_ | refine Grd.hit ?_)
            exact fin _ _ (by rw [hV5 k5, q3, Bool.not_true, Bool.false_and, Bool.and_false, Bool.and_false]) hE2
          rw [q3]
          repeat (first | refine Grd.missF ?_ | refine Grd.missT ?_ | refine Grd.hit ?_)
          refine Load.here (hcn.one (k := 2) rfl) ?_
          repeat (first | refine Grd.missF ?_ | refine Grd.missT ?_ | refine Grd.hit ?_)
          refine Grd.decF (fun q4 => ?_) (fun q4 => ?_)
          rotate_left
          · repeat (first | refine Grd.missF ?_ | refine Grd.missT ?_ | refine Grd.hit ?_)
            exact fin _ _ (by rw [hV5 k5, hin, q3, decide_eq_true (show name = zname from q2), decide_eq_true (show value = zname from q4)]; rfl) hE2
          have hsz : ¬ value.size = 0 := fun h => q4 ((empty_iff value).2 h)
          repeat (first | refine Grd.missF ?_ | refine Grd.missT ?_ | refine Grd.hit ?_)
          refine Load.here (hcn.one (k := 2) rfl) ?_
          repeat (first | refine Grd.missF ?_ | refine Grd.missT ?_ | refine Grd.hit ?_)
          refine Load.here (hcn.one (k := 2) rfl) ?_
          repeat (first | refine Grd.missF ?_ | refine Grd.missT ?_ | refine Grd.hit ?_)
          refine Ar.i64n (value.size - 1) (by omega) (by omega) ?_
          repeat (first | refine Grd.missF ?_ | refine Grd.missT ?_ | refine Grd.hit ?_)
          refine Need.mk (by omega) ?_
          repeat (first | refine Grd.missF ?_ | refine Grd.missT ?_ | refine Grd.hit ?_)
          rw [Int.toNat_natCast]
          exact fin _ _ (by rw [hV5 k5, hin, q3, decide_eq_true (show name = zname from q2), decide_eq_false (show ¬ value = zname from q4)]; rfl) hE2
        refine Cond.dec (fun k6 => ?_) (fun k6 => ?_)
        · refine Grd.decT (fun uu => ?_) (fun uu => absurd u1 uu)
          repeat (first | refine Grd.missF ?_ | refine Grd.missT ?_ | refine Grd.hit ?_)
          refine Load.here (hcn.one (k := 1) rfl) ?_
          repeat (first | refine Grd.missF ?_ | refine Grd.missT ?_ | refine Grd.hit ?_)
          refine CallN.mk _ (rName_con name w2 hname) ?_
          rintro v w4 ⟨hv, hw⟩
          have hw' := hw.symm
          subst hv hw'
          repeat (first | refine Grd.missF ?_ | refine Grd.missT ?_ | refine Grd.hit ?_)
          refine Grd.mk (fun q2 => ?_) (fun q2 => ?_)
          rotate_left
          · rw [q2]
            repeat (first | refine Grd.missF ?_ | refine Grd.missT ?_ | refine Grd.hit ?_)
            exact fin _ _ (by rw [hV6 k6, q2, Bool.not_true, Bool.false_and, Bool.and_false]) hE2
          rw [q2]
          repeat (first | refine Grd.missF ?_ | refine Grd.missT ?_ | refine Grd.hit ?_)
          refine Load.here (hcn.one (k := 1) rfl) ?_
          repeat (first | refine Grd.missF ?_ | refine Grd.missT ?_ | refine Grd.hit ?_)
          refine CallN.mk _ (rXml_con name w2) ?_
          rintro v w4 ⟨hv, hw⟩
          have hw' := hw.symm
          subst hv hw'
          repeat (first | refine Grd.missF ?_ | refine Grd.missT ?_ | refine Grd.hit ?_)
          refine Grd.negT (fun q3 => ?_) (fun q3 => ?_)
          rotate_left
          · rw [q3]
            repeat (first | refine Grd.missF ?_ | refine Grd.missT ?_ | refine Grd.hit ?_)
            exact fin _ _ (by rw [hV6 k6, q3, Bool.not_true, Bool.false_and, Bool.and_false, Bool.and_false]) hE2
          rw [q3]
          repeat (first | refine Grd.missF ?_ | refine Grd.missT ?_ | refine Grd.hit ?_)
          refine Load.here (hcn.one (k := 2) rfl) ?_
          repeat (first | refine Grd.missF ?_ | refine Grd.missT ?_ | refine Grd.hit ?_)
          refine CallN.mk _ (rHas_con value endT w2 hvalue (by decide)) ?_
          rintro v w4 ⟨hv, hw⟩
          have hw' := hw.symm
          subst hv hw'
          repeat (first | refine Grd.missF ?_ | refine Grd.missT ?_ | refine Grd.hit ?_)
          refine Grd.negT (fun q4 => ?_) (fun q4 => ?_)
          rotate_left
          · rw [q4]
            repeat (first | refine Grd.missF ?_ | refine Grd.missT ?_ | refine Grd.hit ?_)
            exact fin _ _ (by rw [hV6 k6, q4, Bool.not_true, Bool.false_and, Bool.and_false, Bool.and_false, Bool.and_false]) hE2
          rw [q4]
          repeat (first | refine Grd.missF ?_ | refine Grd.missT ?_ | refine Grd.hit ?_)
          refine Load.here (hcn.one (k := 2) rfl) ?_
          repeat (first | refine Grd.missF ?_ | refine Grd.missT ?_ | refine Grd.hit ?_)
          refine Grd.decF (fun q5 => ?_) (fun q5 => ?_)
          rotate_left
          · repeat (first | refine Grd.missF ?_ | refine Grd.missT ?_ | refine Grd.hit ?_)
            exact fin _ _ (by rw [hV6 k6, hin, q2, q3, q4, decide_eq_true (show value = zname from q5)]; rfl) hE2
          have hsz : ¬ value.size = 0 := fun h => q5 ((empty_iff value).2 h)
          repeat (first | refine Grd.missF ?_ | refine Grd.missT ?_ | refine Grd.hit ?_)
          refine Load.here (hcn.one (k := 2) rfl) ?_
          repeat (first | refine Grd.missF ?_ | refine Grd.missT ?_ | refine Grd.hit ?_)
          refine Need.mk ⟨by omega, by omega, by omega⟩ ?_
          repeat (first | refine Grd.missF ?_ | refine Grd.missT ?_ | refine Grd.hit ?_)
          refine CallN.mk _ (rBlank_con (value.extract 0 1) w2 (by rw [ByteArray.size_extract]; omega)) ?_
          rintro v w4 ⟨hv, hw⟩
          have hw' := hw.symm
          subst hv hw'
          repeat (first | refine Grd.missF ?_ | refine Grd.missT ?_ | refine Grd.hit ?_)
          exact fin _ _ (by rw [hV6 k6, hin, q2, q3, q4, decide_eq_false (show ¬ value = zname from q5)]; rfl) hE2
        exact fin _ _ (by rw [hV7 k1 k2 k3 k4 k5 k6]) hE2
      · have hin : insideR up = false := decide_eq_false (by omega)
        repeat (first | refine Grd.missF ?_ | refine Grd.missT ?_ | refine Grd.hit ?_)
        refine Load.here (hcn.one (k := 0) rfl) ?_
        refine Cond.dec (fun k1 => ?_) (fun k1 => ?_)
        · refine Grd.decT (fun q1 => ?_) (fun q1 => ?_)
          · repeat (first | refine Grd.missF ?_ | refine Grd.missT ?_ | refine Grd.hit ?_)
            refine Load.here (hcn.one (k := 1) rfl) ?_
            repeat (first | refine Grd.missF ?_ | refine Grd.missT ?_ | refine Grd.hit ?_)
            refine Grd.decT (fun q2 => ?_) (fun q2 => ?_)
            · repeat (first | refine Grd.missF ?_ | refine Grd.missT ?_ | refine Grd.hit ?_)
              refine Load.here (hcn.one (k := 2) rfl) ?_
              repeat (first | refine Grd.missF ?_ | refine Grd.missT ?_ | refine Grd.hit ?_)
              have q1' : i = 0 := by omega
              exact fin _ _ (by rw [hV1 k1, decide_eq_true q1', decide_eq_true (show name = zname from q2)]; rfl) hE2
            · repeat (first | refine Grd.missF ?_ | refine Grd.missT ?_ | refine Grd.hit ?_)
              exact fin _ _ (by rw [hV1 k1, decide_eq_false (show ¬ name = zname from q2), Bool.false_and, Bool.and_false]) hE2
          · repeat (first | refine Grd.missF ?_ | refine Grd.missT ?_ | refine Grd.hit ?_)
            have q1' : ¬ i = 0 := by omega
            exact fin _ _ (by rw [hV1 k1, decide_eq_false q1', Bool.false_and]) hE2
        refine Cond.dec (fun k2 => ?_) (fun k2 => ?_)
        · refine Grd.decT (fun uu => absurd uu u1) (fun uu => ?_)
          repeat (first | refine Grd.missF ?_ | refine Grd.missT ?_ | refine Grd.hit ?_)
          exact fin _ _ (by rw [hV2 k2, hin, Bool.false_and]) hE2
        refine Cond.dec (fun k3 => ?_) (fun k3 => ?_)
        · refine CallN.mk _ (rAttribute_con _ t i w2 ht2 hi hp) ?_
          rintro v w4 ⟨rfl, hE4⟩
          exact fin _ _ (hV3 k3) (hE2.trans hE4)
        refine Cond.dec (fun k4 => ?_) (fun k4 => ?_)
        · refine CallN.mk _ (rSibling_con _ t i w2 ht2 hi hp.1) ?_
          rintro v w4 ⟨rfl, hE4⟩
          have hE04 := hE2.trans hE4
          have hc4 := hcn.ext hE4
          have tail : up = 0 ∨ up = 2 → ∀ b, (b = (decide (name = zname) && (!decide (value = zname) && (decide (sibF t i i < 0) || !decide ((nd t (sibF t i i)).kind = 4))))) → rFits t i = b := fun h b hb => by
            rw [hV4 k4, decide_eq_true h, hb, Bool.true_and]
          refine Grd.decF (fun u => ?_) (fun u => absurd u (by omega))
          repeat (first | refine Grd.missF ?_ | refine Grd.missT ?_ | refine Grd.hit ?_)
          refine Grd.decT (fun u2 => absurd u2 (by omega)) (fun u2 => ?_)
          repeat (first | refine Grd.missF ?_ | refine Grd.missT ?_ | refine Grd.hit ?_)
          exact fin _ _ (by rw [hV4 k4, decide_eq_false (by omega), Bool.false_and]) hE04
        refine Cond.dec (fun k5 => ?_) (fun k5 => ?_)
        · refine Grd.decT (fun uu => absurd uu u1) (fun uu => ?_)
          repeat (first | refine Grd.missF ?_ | refine Grd.missT ?_ | refine Grd.hit ?_)
          exact fin _ _ (by rw [hV5 k5, hin, Bool.false_and]) hE2
        refine Cond.dec (fun k6 => ?_) (fun k6 => ?_)
        · refine Grd.decT (fun uu => absurd uu u1) (fun uu => ?_)
          repeat (first | refine Grd.missF ?_ | refine Grd.missT ?_ | refine Grd.hit ?_)
          exact fin _ _ (by rw [hV6 k6, hin, Bool.false_and]) hE2
        exact fin _ _ (by rw [hV7 k1 k2 k3 k4 k5 k6]) hE2
    · have hin : insideR up = true := decide_eq_true (.inr (.inl hu2))
      repeat (first | refine Grd.missF ?_ | refine Grd.missT ?_ | refine Grd.hit ?_)
      refine Load.here (hcn.one (k := 0) rfl) ?_
      refine Cond.dec (fun k1 => ?_) (fun k1 => ?_)
      · refine Grd.decT (fun q1 => ?_) (fun q1 => ?_)
        · repeat (first | refine Grd.missF ?_ | refine Grd.missT ?_ | refine Grd.hit ?_)
          refine Load.here (hcn.one (k := 1) rfl) ?_
          repeat (first | refine Grd.missF ?_ | refine Grd.missT ?_ | refine Grd.hit ?_)
          refine Grd.decT (fun q2 => ?_) (fun q2 => ?_)
          · repeat (first | refine Grd.missF ?_ | refine Grd.missT ?_ | refine Grd.hit ?_)
            refine Load.here (hcn.one (k := 2) rfl) ?_
            repeat (first | refine Grd.missF ?_ | refine Grd.missT ?_ | refine Grd.hit ?_)
            have q1' : i = 0 := by omega
            exact fin _ _ (by rw [hV1 k1, decide_eq_true q1', decide_eq_true (show name = zname from q2)]; rfl) hE2
          · repeat (first | refine Grd.missF ?_ | refine Grd.missT ?_ | refine Grd.hit ?_)
            exact fin _ _ (by rw [hV1 k1, decide_eq_false (show ¬ name = zname from q2), Bool.false_and, Bool.and_false]) hE2
        · repeat (first | refine Grd.missF ?_ | refine Grd.missT ?_ | refine Grd.hit ?_)
          have q1' : ¬ i = 0 := by omega
          exact fin _ _ (by rw [hV1 k1, decide_eq_false q1', Bool.false_and]) hE2
      refine Cond.dec (fun k2 => ?_) (fun k2 => ?_)
      · repeat (first | refine Grd.missF ?_ | refine Grd.missT ?_ | refine Grd.hit ?_)
        refine Load.here (hcn.one (k := 1) rfl) ?_
        repeat (first | refine Grd.missF ?_ | refine Grd.missT ?_ | refine Grd.hit ?_)
        refine CallN.mk _ (rName_con name w2 hname) ?_
        rintro v w4 ⟨hv, hw⟩
        have hw' := hw.symm
        subst hv hw'
        repeat (first | refine Grd.missF ?_ | refine Grd.missT ?_ | refine Grd.hit ?_)
        refine Grd.mk (fun q2 => ?_) (fun q2 => ?_)
        · rw [q2]
          repeat (first | refine Grd.missF ?_ | refine Grd.missT ?_ | refine Grd.hit ?_)
          refine Load.here (hcn.one (k := 2) rfl) ?_
          repeat (first | refine Grd.missF ?_ | refine Grd.missT ?_ | refine Grd.hit ?_)
          exact fin _ _ (by rw [hV2 k2, hin, q2]; rfl) hE2
        · rw [q2]
          repeat (first | refine Grd.missF ?_ | refine Grd.missT ?_ | refine Grd.hit ?_)
          exact fin _ _ (by rw [hV2 k2, q2, Bool.not_true, Bool.false_and, Bool.and_false]) hE2
      refine Cond.dec (fun k3 => ?_) (fun k3 => ?_)
      · refine CallN.mk _ (rAttribute_con _ t i w2 ht2 hi hp) ?_
        rintro v w4 ⟨rfl, hE4⟩
        exact fin _ _ (hV3 k3) (hE2.trans hE4)
      refine Cond.dec (fun k4 => ?_) (fun k4 => ?_)
      · refine CallN.mk _ (rSibling_con _ t i w2 ht2 hi hp.1) ?_
        rintro v w4 ⟨rfl, hE4⟩
        have hE04 := hE2.trans hE4
        have hc4 := hcn.ext hE4
        have tail : up = 0 ∨ up = 2 → ∀ b, (b = (decide (name = zname) && (!decide (value = zname) && (decide (sibF t i i < 0) || !decide ((nd t (sibF t i i)).kind = 4))))) → rFits t i = b := fun h b hb => by
          rw [hV4 k4, decide_eq_true h, hb, Bool.true_and]
        refine Grd.decF (fun u => ?_) (fun u => absurd u (by omega))
        repeat (first | refine Grd.missF ?_ | refine Grd.missT ?_ | refine Grd.hit ?_)
        refine Grd.decT (fun u2 => ?_) (fun u2 => absurd hu2 u2)
        repeat (first | refine Grd.missF ?_ | refine Grd.missT ?_ | refine Grd.hit ?_)
        refine Load.here (hc4.one (k := 1) rfl) ?_
        repeat (first | refine Grd.missF ?_ | refine Grd.missT ?_ | refine Grd.hit ?_)
        refine Grd.decT (fun q2 => ?_) (fun q2 => ?_)
        rotate_left
        · repeat (first | refine Grd.missF ?_ | refine Grd.missT ?_ | refine Grd.hit ?_)
          exact fin _ _ (tail (.inr hu2) _ (by rw [decide_eq_false (show ¬ name = zname from q2), Bool.false_and])) hE04
        repeat (first | refine Grd.missF ?_ | refine Grd.missT ?_ | refine Grd.hit ?_)
        refine Load.here (hc4.one (k := 2) rfl) ?_
        repeat (first | refine Grd.missF ?_ | refine Grd.missT ?_ | refine Grd.hit ?_)
        refine Grd.ndecT (fun q3 => ?_) (fun q3 => ?_)
        rotate_left
        · repeat (first | refine Grd.missF ?_ | refine Grd.missT ?_ | refine Grd.hit ?_)
          exact fin _ _ (tail (.inr hu2) _ (by rw [decide_eq_true (show value = zname from q3), Bool.not_true, Bool.false_and, Bool.and_false])) hE04
        repeat (first | refine Grd.missF ?_ | refine Grd.missT ?_ | refine Grd.hit ?_)
        refine Grd.decF (fun q4 => ?_) (fun q4 => ?_)
        rotate_left
        · repeat (first | refine Grd.missF ?_ | refine Grd.missT ?_ | refine Grd.hit ?_)
          exact fin _ _ (tail (.inr hu2) _ (by rw [decide_eq_true (show name = zname from q2), decide_eq_false (show ¬ value = zname from q3), decide_eq_true q4]; rfl)) hE04
        repeat (first | refine Grd.missF ?_ | refine Grd.missT ?_ | refine Grd.hit ?_)
        have hsl : (sibF t i i).toNat < t.length := by omega
        obtain ⟨as_, has, hcs⟩ := h4 w4 hE04 _ hsl
        cases has
        rw [← nd_of' hsl] at hcs
        refine Idx.mk ai rfl (by omega) (by omega) ?_
        repeat (first | refine Grd.missF ?_ | refine Grd.missT ?_ | refine Grd.hit ?_)
        refine Load.here (hcs.one (k := 0) rfl) ?_
        repeat (first | refine Grd.missF ?_ | refine Grd.missT ?_ | refine Grd.hit ?_)
        exact fin _ _ (tail (.inr hu2) _ (by rw [decide_eq_true (show name = zname from q2), decide_eq_false (show ¬ value = zname from q3), decide_eq_false q4]; rfl)) hE04
      refine Cond.dec (fun k5 => ?_) (fun k5 => ?_)
      · repeat (first | refine Grd.missF ?_ | refine Grd.missT ?_ | refine Grd.hit ?_)
        refine Load.here (hcn.one (k := 1) rfl) ?_
        repeat (first | refine Grd.missF ?_ | refine Grd.missT ?_ | refine Grd.hit ?_)
        refine Grd.decT (fun q2 => ?_) (fun q2 => ?_)
        rotate_left
        · repeat (first | refine Grd.missF ?_ | refine Grd.missT ?_ | refine Grd.hit ?_)
          exact fin _ _ (by rw [hV5 k5, decide_eq_false (show ¬ name = zname from q2), Bool.false_and, Bool.and_false]) hE2
        repeat (first | refine Grd.missF ?_ | refine Grd.missT ?_ | refine Grd.hit ?_)
        refine Load.here (hcn.one (k := 2) rfl) ?_
        repeat (first | refine Grd.missF ?_ | refine Grd.missT ?_ | refine Grd.hit ?_)
        refine CallN.mk _ (rHas_con value dashesT w2 hvalue (by decide)) ?_
        rintro v w4 ⟨hv, hw⟩
        have hw' := hw.symm
        subst hv hw'
        repeat (first | refine Grd.missF ?_ | refine Grd.missT ?_ | refine Grd.hit ?_)
        refine Grd.negT (fun q3 => ?_) (fun q3 => ?_)
        rotate_left
        · rw [q3]
          repeat (first | refine Grd.missF ?_ | refine Grd.missT ?_ | refine Grd.hit ?_)
          exact fin _ _ (by rw [hV5 k5, q3, Bool.not_true, Bool.false_and, Bool.and_false, Bool.and_false]) hE2
        rw [q3]
        repeat (first | refine Grd.missF ?_ | refine Grd.missT ?_ | refine Grd.hit ?_)
        refine Load.here (hcn.one (k := 2) rfl) ?_
        repeat (first | refine Grd.missF ?_ | refine Grd.missT ?_ | refine Grd.hit ?_)
        refine Grd.decF (fun q4 => ?_) (fun q4 => ?_)
        rotate_left
        · repeat (first | refine Grd.missF ?_ | refine Grd.missT ?_ | refine Grd.hit ?_)
          exact fin _ _ (by rw [hV5 k5, hin, q3, decide_eq_true (show name = zname from q2), decide_eq_true (show value = zname from q4)]; rfl) hE2
        have hsz : ¬ value.size = 0 := fun h => q4 ((empty_iff value).2 h)
        repeat (first | refine Grd.missF ?_ | refine Grd.missT ?_ | refine Grd.hit ?_)
        refine Load.here (hcn.one (k := 2) rfl) ?_
        repeat (first | refine Grd.missF ?_ | refine Grd.missT ?_ | refine Grd.hit ?_)
        refine Load.here (hcn.one (k := 2) rfl) ?_
        repeat (first | refine Grd.missF ?_ | refine Grd.missT ?_ | refine Grd.hit ?_)
        refine Ar.i64n (value.size - 1) (by omega) (by omega) ?_
        repeat (first | refine Grd.missF ?_ | refine Grd.missT ?_ | refine Grd.hit ?_)
        refine Need.mk (by omega) ?_
        repeat (first | refine Grd.missF ?_ | refine Grd.missT ?_ | refine Grd.hit ?_)
        rw [Int.toNat_natCast]
        exact fin _ _ (by rw [hV5 k5, hin, q3, decide_eq_true (show name = zname from q2), decide_eq_false (show ¬ value = zname from q4)]; rfl) hE2
      refine Cond.dec (fun k6 => ?_) (fun k6 => ?_)
      · repeat (first | refine Grd.missF ?_ | refine Grd.missT ?_ | refine Grd.hit ?_)
        refine Load.here (hcn.one (k := 1) rfl) ?_
        repeat (first | refine Grd.missF ?_ | refine Grd.missT ?_ | refine Grd.hit ?_)
        refine CallN.mk _ (rName_con name w2 hname) ?_
        rintro v w4 ⟨hv, hw⟩
        have hw' := hw.symm
        subst hv hw'
        repeat (first | refine Grd.missF ?_ | refine Grd.missT ?_ | refine Grd.hit ?_)
        refine Grd.mk (fun q2 => ?_) (fun q2 => ?_)
        rotate_left
        · rw [q2]
          repeat (first | refine Grd.missF ?_ | refine Grd.missT ?_ | refine Grd.hit ?_)
          exact fin _ _ (by rw [hV6 k6, q2, Bool.not_true, Bool.false_and, Bool.and_false]) hE2
        rw [q2]
        repeat (first | refine Grd.missF ?_ | refine Grd.missT ?_ | refine Grd.hit ?_)
        refine Load.here (hcn.one (k := 1) rfl) ?_
        repeat (first | refine Grd.missF ?_ | refine Grd.missT ?_ | refine Grd.hit ?_)
        refine CallN.mk _ (rXml_con name w2) ?_
        rintro v w4 ⟨hv, hw⟩
        have hw' := hw.symm
        subst hv hw'
        repeat (first | refine Grd.missF ?_ | refine Grd.missT ?_ | refine Grd.hit ?_)
        refine Grd.negT (fun q3 => ?_) (fun q3 => ?_)
        rotate_left
        · rw [q3]
          repeat (first | refine Grd.missF ?_ | refine Grd.missT ?_ | refine Grd.hit ?_)
          exact fin _ _ (by rw [hV6 k6, q3, Bool.not_true, Bool.false_and, Bool.and_false, Bool.and_false]) hE2
        rw [q3]
        repeat (first | refine Grd.missF ?_ | refine Grd.missT ?_ | refine Grd.hit ?_)
        refine Load.here (hcn.one (k := 2) rfl) ?_
        repeat (first | refine Grd.missF ?_ | refine Grd.missT ?_ | refine Grd.hit ?_)
        refine CallN.mk _ (rHas_con value endT w2 hvalue (by decide)) ?_
        rintro v w4 ⟨hv, hw⟩
        have hw' := hw.symm
        subst hv hw'
        repeat (first | refine Grd.missF ?_ | refine Grd.missT ?_ | refine Grd.hit ?_)
        refine Grd.negT (fun q4 => ?_) (fun q4 => ?_)
        rotate_left
        · rw [q4]
          repeat (first | refine Grd.missF ?_ | refine Grd.missT ?_ | refine Grd.hit ?_)
          exact fin _ _ (by rw [hV6 k6, q4, Bool.not_true, Bool.false_and, Bool.and_false, Bool.and_false, Bool.and_false]) hE2
        rw [q4]
        repeat (first | refine Grd.missF ?_ | refine Grd.missT ?_ | refine Grd.hit ?_)
        refine Load.here (hcn.one (k := 2) rfl) ?_
        repeat (first | refine Grd.missF ?_ | refine Grd.missT ?_ | refine Grd.hit ?_)
        refine Grd.decF (fun q5 => ?_) (fun q5 => ?_)
        rotate_left
        · repeat (first | refine Grd.missF ?_ | refine Grd.missT ?_ | refine Grd.hit ?_)
          exact fin _ _ (by rw [hV6 k6, hin, q2, q3, q4, decide_eq_true (show value = zname from q5)]; rfl) hE2
        have hsz : ¬ value.size = 0 := fun h => q5 ((empty_iff value).2 h)
        repeat (first | refine Grd.missF ?_ | refine Grd.missT ?_ | refine Grd.hit ?_)
        refine Load.here (hcn.one (k := 2) rfl) ?_
        repeat (first | refine Grd.missF ?_ | refine Grd.missT ?_ | refine Grd.hit ?_)
        refine Need.mk ⟨by omega, by omega, by omega⟩ ?_
        repeat (first | refine Grd.missF ?_ | refine Grd.missT ?_ | refine Grd.hit ?_)
        refine CallN.mk _ (rBlank_con (value.extract 0 1) w2 (by rw [ByteArray.size_extract]; omega)) ?_
        rintro v w4 ⟨hv, hw⟩
        have hw' := hw.symm
        subst hv hw'
        repeat (first | refine Grd.missF ?_ | refine Grd.missT ?_ | refine Grd.hit ?_)
        exact fin _ _ (by rw [hV6 k6, hin, q2, q3, q4, decide_eq_false (show ¬ value = zname from q5)]; rfl) hE2
      exact fin _ _ (by rw [hV7 k1 k2 k3 k4 k5 k6]) hE2
  · have hin : insideR up = true := decide_eq_true (.inl hu0)
    repeat (first | refine Grd.missF ?_ | refine Grd.missT ?_ | refine Grd.hit ?_)
    refine Load.here (hcn.one (k := 0) rfl) ?_
    refine Cond.dec (fun k1 => ?_) (fun k1 => ?_)
    · refine Grd.decT (fun q1 => ?_) (fun q1 => ?_)
      · repeat (first | refine Grd.missF ?_ | refine Grd.missT ?_ | refine Grd.hit ?_)
        refine Load.here (hcn.one (k := 1) rfl) ?_
        repeat (first | refine Grd.missF ?_ | refine Grd.missT ?_ | refine Grd.hit ?_)
        refine Grd.decT (fun q2 => ?_) (fun q2 => ?_)
        · repeat (first | refine Grd.missF ?_ | refine Grd.missT ?_ | refine Grd.hit ?_)
          refine Load.here (hcn.one (k := 2) rfl) ?_
          repeat (first | refine Grd.missF ?_ | refine Grd.missT ?_ | refine Grd.hit ?_)
          have q1' : i = 0 := by omega
          exact fin _ _ (by rw [hV1 k1, decide_eq_true q1', decide_eq_true (show name = zname from q2)]; rfl) hE2
        · repeat (first | refine Grd.missF ?_ | refine Grd.missT ?_ | refine Grd.hit ?_)
          exact fin _ _ (by rw [hV1 k1, decide_eq_false (show ¬ name = zname from q2), Bool.false_and, Bool.and_false]) hE2
      · repeat (first | refine Grd.missF ?_ | refine Grd.missT ?_ | refine Grd.hit ?_)
        have q1' : ¬ i = 0 := by omega
        exact fin _ _ (by rw [hV1 k1, decide_eq_false q1', Bool.false_and]) hE2
    refine Cond.dec (fun k2 => ?_) (fun k2 => ?_)
    · repeat (first | refine Grd.missF ?_ | refine Grd.missT ?_ | refine Grd.hit ?_)
      refine Load.here (hcn.one (k := 1) rfl) ?_
      repeat (first | refine Grd.missF ?_ | refine Grd.missT ?_ | refine Grd.hit ?_)
      refine CallN.mk _ (rName_con name w2 hname) ?_
      rintro v w4 ⟨hv, hw⟩
      have hw' := hw.symm
      subst hv hw'
      repeat (first | refine Grd.missF ?_ | refine Grd.missT ?_ | refine Grd.hit ?_)
      refine Grd.mk (fun q2 => ?_) (fun q2 => ?_)
      · rw [q2]
        repeat (first | refine Grd.missF ?_ | refine Grd.missT ?_ | refine Grd.hit ?_)
        refine Load.here (hcn.one (k := 2) rfl) ?_
        repeat (first | refine Grd.missF ?_ | refine Grd.missT ?_ | refine Grd.hit ?_)
        exact fin _ _ (by rw [hV2 k2, hin, q2]; rfl) hE2
      · rw [q2]
        repeat (first | refine Grd.missF ?_ | refine Grd.missT ?_ | refine Grd.hit ?_)
        exact fin _ _ (by rw [hV2 k2, q2, Bool.not_true, Bool.false_and, Bool.and_false]) hE2
    refine Cond.dec (fun k3 => ?_) (fun k3 => ?_)
    · refine CallN.mk _ (rAttribute_con _ t i w2 ht2 hi hp) ?_
      rintro v w4 ⟨rfl, hE4⟩
      exact fin _ _ (hV3 k3) (hE2.trans hE4)
    refine Cond.dec (fun k4 => ?_) (fun k4 => ?_)
    · refine CallN.mk _ (rSibling_con _ t i w2 ht2 hi hp.1) ?_
      rintro v w4 ⟨rfl, hE4⟩
      have hE04 := hE2.trans hE4
      have hc4 := hcn.ext hE4
      have tail : up = 0 ∨ up = 2 → ∀ b, (b = (decide (name = zname) && (!decide (value = zname) && (decide (sibF t i i < 0) || !decide ((nd t (sibF t i i)).kind = 4))))) → rFits t i = b := fun h b hb => by
        rw [hV4 k4, decide_eq_true h, hb, Bool.true_and]
      refine Grd.decF (fun u => absurd hu0 u) (fun u => ?_)
      repeat (first | refine Grd.missF ?_ | refine Grd.missT ?_ | refine Grd.hit ?_)
      refine Load.here (hc4.one (k := 1) rfl) ?_
      repeat (first | refine Grd.missF ?_ | refine Grd.missT ?_ | refine Grd.hit ?_)
      refine Grd.decT (fun q2 => ?_) (fun q2 => ?_)
      rotate_left
      · repeat (first | refine Grd.missF ?_ | refine Grd.missT ?_ | refine Grd.hit ?_)
        exact fin _ _ (tail (.inl hu0) _ (by rw [decide_eq_false (show ¬ name = zname from q2), Bool.false_and])) hE04
      repeat (first | refine Grd.missF ?_ | refine Grd.missT ?_ | refine Grd.hit ?_)
      refine Load.here (hc4.one (k := 2) rfl) ?_
      repeat (first | refine Grd.missF ?_ | refine Grd.missT ?_ | refine Grd.hit ?_)
      refine Grd.ndecT (fun q3 => ?_) (fun q3 => ?_)
      rotate_left
      · repeat (first | refine Grd.missF ?_ | refine Grd.missT ?_ | refine Grd.hit ?_)
        exact fin _ _ (tail (.inl hu0) _ (by rw [decide_eq_true (show value = zname from q3), Bool.not_true, Bool.false_and, Bool.and_false])) hE04
      repeat (first | refine Grd.missF ?_ | refine Grd.missT ?_ | refine Grd.hit ?_)
      refine Grd.decF (fun q4 => ?_) (fun q4 => ?_)
      rotate_left
      · repeat (first | refine Grd.missF ?_ | refine Grd.missT ?_ | refine Grd.hit ?_)
        exact fin _ _ (tail (.inl hu0) _ (by rw [decide_eq_true (show name = zname from q2), decide_eq_false (show ¬ value = zname from q3), decide_eq_true q4]; rfl)) hE04
      repeat (first | refine Grd.missF ?_ | refine Grd.missT ?_ | refine Grd.hit ?_)
      have hsl : (sibF t i i).toNat < t.length := by omega
      obtain ⟨as_, has, hcs⟩ := h4 w4 hE04 _ hsl
      cases has
      rw [← nd_of' hsl] at hcs
      refine Idx.mk ai rfl (by omega) (by omega) ?_
      repeat (first | refine Grd.missF ?_ | refine Grd.missT ?_ | refine Grd.hit ?_)
      refine Load.here (hcs.one (k := 0) rfl) ?_
      repeat (first | refine Grd.missF ?_ | refine Grd.missT ?_ | refine Grd.hit ?_)
      exact fin _ _ (tail (.inl hu0) _ (by rw [decide_eq_true (show name = zname from q2), decide_eq_false (show ¬ value = zname from q3), decide_eq_false q4]; rfl)) hE04
    refine Cond.dec (fun k5 => ?_) (fun k5 => ?_)
    · repeat (first | refine Grd.missF ?_ | refine Grd.missT ?_ | refine Grd.hit ?_)
      refine Load.here (hcn.one (k := 1) rfl) ?_
      repeat (first | refine Grd.missF ?_ | refine Grd.missT ?_ | refine Grd.hit ?_)
      refine Grd.decT (fun q2 => ?_) (fun q2 => ?_)
      rotate_left
      · repeat (first | refine Grd.missF ?_ | refine Grd.missT ?_ | refine Grd.hit ?_)
        exact fin _ _ (by rw [hV5 k5, decide_eq_false (show ¬ name = zname from q2), Bool.false_and, Bool.and_false]) hE2
      repeat (first | refine Grd.missF ?_ | refine Grd.missT ?_ | refine Grd.hit ?_)
      refine Load.here (hcn.one (k := 2) rfl) ?_
      repeat (first | refine Grd.missF ?_ | refine Grd.missT ?_ | refine Grd.hit ?_)
      refine CallN.mk _ (rHas_con value dashesT w2 hvalue (by decide)) ?_
      rintro v w4 ⟨hv, hw⟩
      have hw' := hw.symm
      subst hv hw'
      repeat (first | refine Grd.missF ?_ | refine Grd.missT ?_ | refine Grd.hit ?_)
      refine Grd.negT (fun q3 => ?_) (fun q3 => ?_)
      rotate_left
      · rw [q3]
        repeat (first | refine Grd.missF ?_ | refine Grd.missT ?_ | refine Grd.hit ?_)
        exact fin _ _ (by rw [hV5 k5, q3, Bool.not_true, Bool.false_and, Bool.and_false, Bool.and_false]) hE2
      rw [q3]
      repeat (first | refine Grd.missF ?_ | refine Grd.missT ?_ | refine Grd.hit ?_)
      refine Load.here (hcn.one (k := 2) rfl) ?_
      repeat (first | refine Grd.missF ?_ | refine Grd.missT ?_ | refine Grd.hit ?_)
      refine Grd.decF (fun q4 => ?_) (fun q4 => ?_)
      rotate_left
      · repeat (first | refine Grd.missF ?_ | refine Grd.missT ?_ | refine Grd.hit ?_)
        exact fin _ _ (by rw [hV5 k5, hin, q3, decide_eq_true (show name = zname from q2), decide_eq_true (show value = zname from q4)]; rfl) hE2
      have hsz : ¬ value.size = 0 := fun h => q4 ((empty_iff value).2 h)
      repeat (first | refine Grd.missF ?_ | refine Grd.missT ?_ | refine Grd.hit ?_)
      refine Load.here (hcn.one (k := 2) rfl) ?_
      repeat (first | refine Grd.missF ?_ | refine Grd.missT ?_ | refine Grd.hit ?_)
      refine Load.here (hcn.one (k := 2) rfl) ?_
      repeat (first | refine Grd.missF ?_ | refine Grd.missT ?_ | refine Grd.hit ?_)
      refine Ar.i64n (value.size - 1) (by omega) (by omega) ?_
      repeat (first | refine Grd.missF ?_ | refine Grd.missT ?_ | refine Grd.hit ?_)
      refine Need.mk (by omega) ?_
      repeat (first | refine Grd.missF ?_ | refine Grd.missT ?_ | refine Grd.hit ?_)
      rw [Int.toNat_natCast]
      exact fin _ _ (by rw [hV5 k5, hin, q3, decide_eq_true (show name = zname from q2), decide_eq_false (show ¬ value = zname from q4)]; rfl) hE2
    refine Cond.dec (fun k6 => ?_) (fun k6 => ?_)
    · repeat (first | refine Grd.missF ?_ | refine Grd.missT ?_ | refine Grd.hit ?_)
      refine Load.here (hcn.one (k := 1) rfl) ?_
      repeat (first | refine Grd.missF ?_ | refine Grd.missT ?_ | refine Grd.hit ?_)
      refine CallN.mk _ (rName_con name w2 hname) ?_
      rintro v w4 ⟨hv, hw⟩
      have hw' := hw.symm
      subst hv hw'
      repeat (first | refine Grd.missF ?_ | refine Grd.missT ?_ | refine Grd.hit ?_)
      refine Grd.mk (fun q2 => ?_) (fun q2 => ?_)
      rotate_left
      · rw [q2]
        repeat (first | refine Grd.missF ?_ | refine Grd.missT ?_ | refine Grd.hit ?_)
        exact fin _ _ (by rw [hV6 k6, q2, Bool.not_true, Bool.false_and, Bool.and_false]) hE2
      rw [q2]
      repeat (first | refine Grd.missF ?_ | refine Grd.missT ?_ | refine Grd.hit ?_)
      refine Load.here (hcn.one (k := 1) rfl) ?_
      repeat (first | refine Grd.missF ?_ | refine Grd.missT ?_ | refine Grd.hit ?_)
      refine CallN.mk _ (rXml_con name w2) ?_
      rintro v w4 ⟨hv, hw⟩
      have hw' := hw.symm
      subst hv hw'
      repeat (first | refine Grd.missF ?_ | refine Grd.missT ?_ | refine Grd.hit ?_)
      refine Grd.negT (fun q3 => ?_) (fun q3 => ?_)
      rotate_left
      · rw [q3]
        repeat (first | refine Grd.missF ?_ | refine Grd.missT ?_ | refine Grd.hit ?_)
        exact fin _ _ (by rw [hV6 k6, q3, Bool.not_true, Bool.false_and, Bool.and_false, Bool.and_false]) hE2
      rw [q3]
      repeat (first | refine Grd.missF ?_ | refine Grd.missT ?_ | refine Grd.hit ?_)
      refine Load.here (hcn.one (k := 2) rfl) ?_
      repeat (first | refine Grd.missF ?_ | refine Grd.missT ?_ | refine Grd.hit ?_)
      refine CallN.mk _ (rHas_con value endT w2 hvalue (by decide)) ?_
      rintro v w4 ⟨hv, hw⟩
      have hw' := hw.symm
      subst hv hw'
      repeat (first | refine Grd.missF ?_ | refine Grd.missT ?_ | refine Grd.hit ?_)
      refine Grd.negT (fun q4 => ?_) (fun q4 => ?_)
      rotate_left
      · rw [q4]
        repeat (first | refine Grd.missF ?_ | refine Grd.missT ?_ | refine Grd.hit ?_)
        exact fin _ _ (by rw [hV6 k6, q4, Bool.not_true, Bool.false_and, Bool.and_false, Bool.and_false, Bool.and_false]) hE2
      rw [q4]
      repeat (first | refine Grd.missF ?_ | refine Grd.missT ?_ | refine Grd.hit ?_)
      refine Load.here (hcn.one (k := 2) rfl) ?_
      repeat (first | refine Grd.missF ?_ | refine Grd.missT ?_ | refine Grd.hit ?_)
      refine Grd.decF (fun q5 => ?_) (fun q5 => ?_)
      rotate_left
      · repeat (first | refine Grd.missF ?_ | refine Grd.missT ?_ | refine Grd.hit ?_)
        exact fin _ _ (by rw [hV6 k6, hin, q2, q3, q4, decide_eq_true (show value = zname from q5)]; rfl) hE2
      have hsz : ¬ value.size = 0 := fun h => q5 ((empty_iff value).2 h)
      repeat (first | refine Grd.missF ?_ | refine Grd.missT ?_ | refine Grd.hit ?_)
      refine Load.here (hcn.one (k := 2) rfl) ?_
      repeat (first | refine Grd.missF ?_ | refine Grd.missT ?_ | refine Grd.hit ?_)
      refine Need.mk ⟨by omega, by omega, by omega⟩ ?_
      repeat (first | refine Grd.missF ?_ | refine Grd.missT ?_ | refine Grd.hit ?_)
      refine CallN.mk _ (rBlank_con (value.extract 0 1) w2 (by rw [ByteArray.size_extract]; omega)) ?_
      rintro v w4 ⟨hv, hw⟩
      have hw' := hw.symm
      subst hv hw'
      repeat (first | refine Grd.missF ?_ | refine Grd.missT ?_ | refine Grd.hit ?_)
      exact fin _ _ (by rw [hV6 k6, hin, q2, q3, q4, decide_eq_false (show ¬ value = zname from q5)]; rfl) hE2
    exact fin _ _ (by rw [hV7 k1 k2 k3 k4 k5 k6]) hE2
end Go.Proofs.YtelffdgcikceaaaGreatDoor
end

/- Plain: parts in another order, those of one kind and one target in theirs. -/
section
set_option linter.unusedSimpArgs false
set_option linter.unusedVariables false
namespace Go.Proofs.YtelffdgcikceaaaGreatDoor
open Go.V

/-- Of one kind and one target. -/
def sameC (x y : Pt) : Bool := decide (x.kind = y.kind) && decide (x.target = y.target)
def clsF (o : List Pt) (p : Pt) : List Pt := o.filter (fun q => sameC q p)
def ordStep (l o : List Pt) (p : Pt) : List Pt := if o.any (fun q => sameC q p) then o else o ++ clsF l p
def pt0 : Pt := ⟨0, 0, ⟨#[]⟩, []⟩
def firstO (l : List Pt) (s k : Nat) : Pt := l.getD ((k + s) % l.length) pt0
def ordK (l : List Pt) (s : Nat) : Nat → List Pt
  | 0 => []
  | k + 1 => ordStep l (ordK l s k) (firstO l s k)

theorem sameC_iff {x y : Pt} : sameC x y = true ↔ x.kind = y.kind ∧ x.target = y.target := by simp [sameC]
theorem sameC_refl (x : Pt) : sameC x x = true := sameC_iff.2 ⟨rfl, rfl⟩
/-- Parts in another order. -/
structure Reord (l o : List Pt) : Prop where
  cls : ∀ p, clsF o p = clsF l p
section
variable {l o : List Pt}
theorem Reord.mem (h : Reord l o) {p : Pt} : p ∈ o ↔ p ∈ l := by
  have e := h.cls p
  constructor
  · intro hp
    have : p ∈ clsF o p := List.mem_filter.2 ⟨hp, sameC_refl p⟩
    rw [e] at this
    exact (List.mem_filter.1 this).1
  · intro hp
    have : p ∈ clsF l p := List.mem_filter.2 ⟨hp, sameC_refl p⟩
    rw [← e] at this
    exact (List.mem_filter.1 this).1
theorem Reord.perm (h : Reord l o) : o.Perm l := by
  rw [List.perm_iff_count]
  intro a
  have key : ∀ x : List Pt, x.count a = (clsF x a).count a := fun x => by
    unfold clsF
    exact (List.count_filter (p := fun q => sameC q a) (sameC_refl a)).symm
  rw [key o, key l, h.cls a]
theorem Reord.len (h : Reord l o) : o.length = l.length := h.perm.length_eq
theorem kp_inj {x y : Pt} (hx : -9223372036854775808 ≤ x.target ∧ x.target ≤ 9223372036854775807) (hy : -9223372036854775808 ≤ y.target ∧ y.target ≤ 9223372036854775807) : kp x = kp y ↔ sameC x y = true := by
  rw [sameC_iff]
  unfold kp
  constructor
  · intro h
    have : x.kind = y.kind := by omega
    exact ⟨this, by omega⟩
  · rintro ⟨h1, h2⟩
    rw [h1, h2]
theorem Reord.same (h : Reord l o) (hw : ∀ p ∈ l, -9223372036854775808 ≤ p.target ∧ p.target ≤ 9223372036854775807) : Same kp o l := fun κ => by
  by_cases g : ∃ x ∈ l, kp x = κ
  · obtain ⟨x, hx, rfl⟩ := g
    have key : ∀ z : List Pt, (∀ p ∈ z, p ∈ l) → z.filter (fun y => decide (kp y = kp x)) = clsF z x := fun z hz => by
      refine List.filter_congr fun y hy => ?_
      rw [Bool.eq_iff_iff, decide_eq_true_eq]
      exact kp_inj (hw y (hz y hy)) (hw x hx)
    rw [key o (fun p hp => h.mem.1 hp), key l (fun p hp => hp), h.cls x]
  · rw [List.filter_eq_nil_iff.2 (fun y hy => by simpa using fun e => g ⟨y, h.mem.1 hy, e⟩), List.filter_eq_nil_iff.2 (fun y hy => by simpa using fun e => g ⟨y, hy, e⟩)]
theorem Reord.merge (h : Reord l o) (hw : ∀ p ∈ l, -9223372036854775808 ≤ p.target ∧ p.target ≤ 9223372036854775807) : mergeP o = mergeP l := by
  unfold mergeP
  rw [isort_congr (h.same hw)]
  have : (o.all fun p => splitOk p.nodes) = (l.all fun p => splitOk p.nodes) := by
    rw [Bool.eq_iff_iff, List.all_eq_true, List.all_eq_true]
    exact ⟨fun g p hp => g p (h.mem.2 hp), fun g p hp => g p (h.mem.1 hp)⟩
  rw [this]

theorem firstErr_iff {t : List Nd} : ∀ {l : List Pt}, firstErr t l = 0 ↔ ∀ p ∈ l, partErr t p = 0
  | [] => by simp [firstErr]
  | p :: r => by
    unfold firstErr
    by_cases h : partErr t p = 0
    · rw [if_neg (by simpa using h), firstErr_iff]
      simp [h]
    · rw [if_pos h]
      constructor
      · intro g; exact absurd g h
      · intro g; exact absurd (g p List.mem_cons_self) h
theorem cntP_cons (x : Pt) (l : List Pt) (a b : Int) : cntP (x :: l) a b = (if x.kind = a ∧ x.target = b then 1 else 0) + cntP l a b := by
  unfold cntP
  rw [List.filter_cons]
  by_cases h : x.kind = a ∧ x.target = b
  · rw [if_pos (by simpa using h), if_pos h, List.length_cons]; omega
  · rw [if_neg (by simpa using h), if_neg h]; omega
theorem onceF_iff : ∀ (l s : List Pt), onceF s l = true ↔ ∀ p ∈ l, (shapeOf p.kind).once = true → cntP s p.kind p.target + cntP l p.kind p.target ≤ 1
  | [], s => by simp [onceF]
  | x :: r, s => by
    unfold onceF
    rw [Bool.and_eq_true, onceF_iff r (s ++ [x])]
    constructor
    · rintro ⟨h1, h2⟩ p hp ho
      rcases List.mem_cons.1 hp with rfl | hp
      · have e1 : cntP s p.kind p.target = 0 := by
          rw [ho] at h1
          simpa using h1
        have e2 : cntP r p.kind p.target = 0 := by
          refine Classical.byContradiction fun g => ?_
          have hne : (r.filter fun q => decide (q.kind = p.kind ∧ q.target = p.target)) ≠ [] := fun e => g (by unfold cntP; rw [e]; rfl)
          obtain ⟨q, hq⟩ := List.exists_mem_of_ne_nil _ hne
          obtain ⟨hq1, hq2⟩ := List.mem_filter.1 hq
          have hq3 := of_decide_eq_true hq2
          have := h2 q hq1 (by rw [hq3.1]; exact ho)
          rw [hq3.1, hq3.2, cntP_snoc, if_pos ⟨rfl, rfl⟩] at this
          omega
        rw [cntP_cons, if_pos ⟨rfl, rfl⟩, e1, e2]
        decide
      · have := h2 p hp ho
        rw [cntP_snoc] at this
        rw [cntP_cons]
        omega
    · intro h
      refine ⟨?_, fun p hp ho => ?_⟩
      · cases ho : (shapeOf x.kind).once with
        | false => simp
        | true =>
          have := h x List.mem_cons_self ho
          rw [cntP_cons, if_pos ⟨rfl, rfl⟩] at this
          have e : cntP s x.kind x.target = 0 := by omega
          simp [e]
      · have := h p (List.mem_cons_of_mem _ hp) ho
        rw [cntP_cons] at this
        rw [cntP_snoc]
        omega
theorem cntP_cls (l : List Pt) (p : Pt) : cntP l p.kind p.target = (clsF l p).length := by
  unfold cntP clsF
  congr 1
  refine List.filter_congr fun x _ => ?_
  rw [Bool.eq_iff_iff, sameC_iff, decide_eq_true_eq]
theorem Reord.once (h : Reord l o) : onceB o = onceB l := by
  rw [Bool.eq_iff_iff]
  unfold onceB
  rw [onceF_iff, onceF_iff]
  simp only [cntP_cls, h.cls]
  exact ⟨fun g p hp => g p (h.mem.2 hp), fun g p hp => g p (h.mem.1 hp)⟩
theorem check_zero {t : List Nd} {l : List Pt} : checkP t l = 0 ↔ allB t true = 0 ∧ l.length ≤ 1000 ∧ firstErr t l = 0 ∧ onceB l = true := by
  unfold checkP
  split
  · rename_i h
    exact ⟨fun g => absurd g (by decide), fun g => absurd g.1 h⟩
  · rename_i h1
    split
    · rename_i h
      exact ⟨fun g => absurd g (by decide), fun g => by omega⟩
    · split
      · rename_i h
        exact ⟨fun g => absurd g h, fun g => absurd g.2.2.1 h⟩
      · rename_i h2 h3
        split
        · rename_i h
          exact ⟨fun _ => ⟨Decidable.not_not.1 h1, by omega, Decidable.not_not.1 h3, h⟩, fun _ => rfl⟩
        · rename_i h
          exact ⟨fun g => absurd g (by decide), fun g => absurd g.2.2.2 h⟩
theorem Reord.check (h : Reord l o) (t : List Nd) : checkP t o = 0 ↔ checkP t l = 0 := by
  rw [check_zero, check_zero, h.len, h.once, firstErr_iff, firstErr_iff]
  have : (∀ p ∈ o, partErr t p = 0) ↔ ∀ p ∈ l, partErr t p = 0 := ⟨fun g p hp => g p (h.mem.2 hp), fun g p hp => g p (h.mem.1 hp)⟩
  rw [this]
theorem Reord.apply (h : Reord l o) (hw : ∀ p ∈ l, -9223372036854775808 ≤ p.target ∧ p.target ≤ 9223372036854775807) (t : List Nd) : (applyP t l).2 = (applyP t o).2 ∧ ((applyP t l).1 = 0 ↔ (applyP t o).1 = 0) := by
  by_cases g : checkP t l = 0
  · have g' := (h.check t).2 g
    have : applyP t o = applyP t l := by
      unfold applyP
      rw [h.merge hw, g, g']
    rw [this]
    exact ⟨rfl, Iff.rfl⟩
  · have g' : checkP t o ≠ 0 := fun e => g ((h.check t).1 e)
    unfold applyP
    rw [if_pos g, if_pos g']
    exact ⟨rfl, ⟨fun e => absurd e g, fun e => absurd e g'⟩⟩
end
end Go.Proofs.YtelffdgcikceaaaGreatDoor
end

/- The laws: PendingOrder. -/
section
set_option linter.unusedSimpArgs false
set_option linter.unusedVariables false
namespace Go.Proofs.YtelffdgcikceaaaGreatDoor
open Go.V
open Go.RowKit (Below)

theorem insK_lenP {α : Type} {key : α → Int} (x : α) : ∀ l : List α, (insK key x l).length = l.length + 1
  | [] => rfl
  | y :: r => by
    unfold insK
    split
    · rfl
    · simp only [List.length_cons, insK_lenP x r]
theorem isort_lenP {α : Type} {key : α → Int} : ∀ l : List α, (isort key l).length = l.length
  | [] => rfl
  | x :: r => by
    show (insK key x (isort key r)).length = _
    rw [insK_lenP, isort_lenP r, List.length_cons]
theorem rowOut_lenP (r : List Pt) : (rowOut r).length ≤ r.length := by
  unfold rowOut
  split
  · exact Nat.le_refl _
  · split
    · exact Nat.le_refl _
    · split <;> simp
theorem flat_rowOut_len : ∀ rows : List (List Pt), ((rows.map rowOut).flatten).length ≤ rows.flatten.length
  | [] => Nat.le_refl _
  | r :: rs => by
    have := flat_rowOut_len rs
    have := rowOut_lenP r
    simp only [List.map_cons, List.flatten_cons, List.length_append]
    omega
theorem mergeP_len (l : List Pt) : (mergeP l).length ≤ l.length := by
  unfold mergeP
  split
  · have := flat_rowOut_len (rowsG samePt (isort kp l))
    unfold rowsG at this ⊢
    rw [rowsGF_flat _ _ (Nat.le_refl _)] at this
    exact Nat.le_trans this (Nat.le_of_eq (isort_lenP l))
  · exact Nat.zero_le _
theorem OutAt.parts {w : World} {D : Nat} {vo : Value} {outs : List RPt} {ps : List Pt} (h : OutAt w D vo outs ps) (hl : ps.length ≤ 2513169434916) : PartsAt w vo ps :=
  ⟨⟨outs, h.vec.sl, h.len, fun i r p h1 h2 => by
    obtain ⟨⟨a, b, c⟩, ⟨d, e, f⟩, g, i1, i2, -⟩ := h.el i r p h1 h2
    exact ⟨a, b, c, ⟨g.sl, i1, i2⟩, d, e, f⟩⟩, hl⟩
end Go.Proofs.YtelffdgcikceaaaGreatDoor
end

/- The document's answer for rows: check. -/
section
set_option linter.unusedSimpArgs false
set_option linter.unusedVariables false
namespace Go.Proofs.YtelffdgcikceaaaGreatDoor
open Go.V
open Go.RowKit (Below)

theorem inord_par {t : List Nd} : ∀ (N : Nat), (List.range N).all (openB t) = true → ∀ j : Nat, j < N → -1 ≤ (nd t (j : Int)).parent ∧ (nd t (j : Int)).parent < j
  | 0, _, j, h => absurd h (Nat.not_lt_zero _)
  | N + 1, h, j, hj => by
    rw [List.range_succ, List.all_append, Bool.and_eq_true] at h
    have ih := inord_par N h.1
    by_cases e : j = N
    · subst e
      have ho : openB t j = true := by simpa using h.2
      have ho' := of_decide_eq_true ho
      have := chase_le (t := t) (q := (nd t (j : Int)).parent) (i := j) (fun m hm => ⟨(ih m hm).2, (ih m hm).1⟩) j ((j : Int) - 1) (by omega) (by omega)
      omega
    · exact ih j (by omega)

def okR (t : List Nd) (root : Bool) (i : Nat) : Bool := rFits t i && (decide ((nd t (i : Int)).kind = 1) == (root && decide (i = 0)))
def topsR (t : List Nd) (k : Nat) : Nat := (List.range k).countP fun i : Nat => decide ((nd t (i : Int)).parent < 0)
def elemsR (t : List Nd) (k : Nat) : Nat := (List.range k).countP fun i : Nat => decide ((nd t (i : Int)).parent = 0) && decide ((nd t (i : Int)).kind = 2)
def deepR (t : List Nd) (k : Nat) : Bool := (List.range k).any fun i : Nat => decide ((nd t (i : Int)).kind = 2) && decide (60 < deepF t (i + 1) i)
def rCheck (t : List Nd) (root : Bool) : Int :=
  if 16384 < t.length then 3
  else if (List.range t.length).all (openB t) = false then 4
  else if (List.range t.length).all (okR t root) = false then 4
  else if root = true ∧ (topsR t t.length ≠ 1 ∨ elemsR t t.length ≠ 1) then 4
  else if deepR t t.length = true then 131 else 0

theorem countP_snoc (p : Nat → Bool) (k : Nat) : (List.range (k + 1)).countP p = (List.range k).countP p + if p k = true then 1 else 0 := by
  rw [List.range_succ, List.countP_append, List.countP_cons, List.countP_nil]
  split <;> simp
theorem countP_range_le (p : Nat → Bool) (k : Nat) : (List.range k).countP p ≤ k := by
  have := List.countP_le_length (p := p) (l := List.range k)
  simpa using this
theorem run_neqBool (gx gy : Operand) (a b : Bool) (w : World) : (do eqGuard .neq 4 gx gy (.bool a) (.bool b); binOp .neq 4 (.bool a) (.bool b)).run Tryz.prog w = .ok (.bool (!(a == b))) w := by
  cases a <;> cases b <;> kernel_rfl

theorem rCheck_con (v : Value) (t : List Nd) (root : Bool) (w : World) (ht : NodesAt w v t) :
    Con Tryz.prog 143 #[v, .bool root] w (fun v' w' => v' = .int .i64 (rCheck t root) ∧ Ext w w') := by
  have ht0 := ht
  obtain ⟨o, c, rfl, h1, h2, h3, h4⟩ := ht.open_
  have hl := ht.len
  refine enter tab_ok Tryz.func143 (fnOk rfl) rfl rfl rfl ?_
  refine Cond.dec (fun g1 => ?_) (fun g1 => ?_)
  · refine And.intro ?_ (Ext.refl _)
    unfold rCheck
    rw [if_pos (by omega)]
    rfl
  refine CallN.mk _ (rInOrder_con _ t w ht0) ?_
  rintro v w1 ⟨hv, hw⟩
  have hw' := hw.symm
  subst hv hw'
  refine Cond.neg (fun g2 => ?_) (fun g2 => ?_)
  · refine And.intro ?_ (Ext.refl _)
    unfold rCheck
    rw [if_neg (by omega), if_pos g2]
    rfl
  have hpar := inord_par t.length g2
  refine LoopVC.mk (X := Nat) (fun i => [(0, .slice o t.length c), (1, .bool root), (5, .int .i64 (topsR t i)), (6, .int .i64 (elemsR t i)), (7, .bool (deepR t i)), (8, .int .i64 i)]) (fun i w' => Ext w w' ∧ i ≤ t.length ∧ (List.range i).all (okR t root) = true) (fun i => t.length - i) 0
    ⟨Ext.refl _, Nat.zero_le _, rfl⟩ ⟨rfl, rfl, rfl, rfl, rfl, rfl, trivial⟩ ?_
  rintro i w1 ⟨hE, hi, hs⟩
  refine Cond.dec (fun g3 => ?_) (fun g3 => ?_)
  · have hil : i < t.length := by omega
    have hpi := hpar i hil
    have ct : topsR t i ≤ i := countP_range_le _ i
    have ce : elemsR t i ≤ i := countP_range_le _ i
    refine CallN.mk _ (rFits_con _ t i w1 (ht0.ext hE) hil hpi) ?_
    rintro v w2 ⟨rfl, hE2⟩
    have hE02 := hE.trans hE2
    obtain ⟨a, ha, hc⟩ := h4 w2 hE02 i hil
    subst ha
    rw [← nd_of hil] at hc
    have no : okR t root i = false → (tupleOf [Value.int .i64 4] = Value.int .i64 (rCheck t root) ∧ Ext w w2) := fun h => by
      refine ⟨?_, hE02⟩
      have : (List.range t.length).all (okR t root) = false := by
        rw [List.all_eq_false]
        exact ⟨i, List.mem_range.2 hil, by simp [h]⟩
      unfold rCheck
      rw [if_neg (by omega), if_neg (by rw [g2]; simp), if_pos this]
      rfl
    refine Grd.negF (fun g4 => ?_) (fun g4 => ?_)
    rotate_left
    · rw [g4]
      repeat (first | refine Grd.missF ?_ | refine Grd.missT ?_ | refine Grd.hit ?_)
      refine Cond.yes ?_
      exact no (by unfold okR; rw [g4]; rfl)
    rw [g4]
    repeat (first | refine Grd.missF ?_ | refine Grd.missT ?_ | refine Grd.hit ?_)
    refine Idx.mk a rfl (by omega) (by omega) ?_
    repeat (first | refine Grd.missF ?_ | refine Grd.missT ?_ | refine Grd.hit ?_)
    refine Load.here (hc.one (k := 0) rfl) ?_
    have ei : decide ((i : Int) = 0) = decide (i = 0) := decide_eq_decide.2 (by omega)
    have rest : okR t root i = true → ∀ E : Env, True := fun _ _ => trivial
    have hT : topsR t (i + 1) = topsR t i + if (nd t (i : Int)).parent < 0 then 1 else 0 := by
      unfold topsR
      rw [countP_snoc]
      simp
    have hM : elemsR t (i + 1) = elemsR t i + if (nd t (i : Int)).parent = 0 ∧ (nd t (i : Int)).kind = 2 then 1 else 0 := by
      unfold elemsR
      rw [countP_snoc]
      simp
    have hD : deepR t (i + 1) = (deepR t i || (decide ((nd t (i : Int)).kind = 2) && decide (60 < deepF t (i + 1) i))) := by
      unfold deepR
      rw [List.range_succ, List.any_append]
      simp
    cases root with
    | true =>
      repeat (first | refine Grd.missF ?_ | refine Grd.missT ?_ | refine Grd.hit ?_)
      refine RunQ.here (run_neqBool _ _ _ _ _) ?_
      repeat (first | refine Grd.missF ?_ | refine Grd.missT ?_ | refine Grd.hit ?_)
      rw [ei]
      refine Cond.neg (fun g5 => ?_) (fun g5 => ?_)
      · exact no (by unfold okR; rw [g4, Bool.true_and, Bool.true_and, g5])
      have hok : okR t true i = true := by unfold okR; rw [g4, Bool.true_and, Bool.true_and, g5]
      refine Idx.mk a rfl (by omega) (by omega) ?_
      refine Load.here (hc.one (k := 3) rfl) ?_
      refine Cond.join (X := Unit) (fun _ => [(0, .slice (some a) t.length c), (1, .bool true), (5, .int .i64 (topsR t (i + 1))), (6, .int .i64 (elemsR t i)), (7, .bool (deepR t i)), (8, .int .i64 i)]) (fun _ w' => w' = w2) (fun g6 => ?_) (fun g6 => ?_) ?_
      · have g6' := of_decide_eq_true g6
        refine Ar.i64n (topsR t i + 1) (by omega) (by omega) ?_
        exact ⟨(), rfl, rfl, rfl, by rw [hT, if_pos g6']; rfl, rfl, rfl, rfl, trivial⟩
      · have g6' := of_decide_eq_false g6
        exact ⟨(), rfl, rfl, rfl, by rw [hT, if_neg g6']; rfl, rfl, rfl, rfl, trivial⟩
      rintro _ w3 hw3
      subst hw3
      have hsn : (List.range (i + 1)).all (okR t true) = true := by rw [List.range_succ, List.all_append, hs, List.all_cons, List.all_nil, hok]; rfl
      refine Idx.mk a rfl (by omega) (by omega) ?_
      refine Load.here (hc.one (k := 3) rfl) ?_
      by_cases k2 : (nd t (i : Int)).kind = 2
      · refine Grd.decT (fun g7 => ?_) (fun g7 => ?_)
        · repeat (first | refine Grd.missF ?_ | refine Grd.missT ?_ | refine Grd.hit ?_)
          refine Idx.mk a rfl (by omega) (by omega) ?_
          repeat (first | refine Grd.missF ?_ | refine Grd.missT ?_ | refine Grd.hit ?_)
          refine Load.here (hc.one (k := 0) rfl) ?_
          repeat (first | refine Grd.missF ?_ | refine Grd.missT ?_ | refine Grd.hit ?_)
          refine Cond.dec (fun _ => ?_) (fun h => absurd k2 h)
          refine Ar.i64n (elemsR t i + 1) (by omega) (by omega) ?_
          have hMv : elemsR t (i + 1) = elemsR t i + 1 := by rw [hM, if_pos ⟨g7, k2⟩]
          refine Idx.mk a rfl (by omega) (by omega) ?_
          refine Load.here (hc.one (k := 0) rfl) ?_
          refine Grd.decT (fun _ => ?_) (fun h => absurd k2 h)
          repeat (first | refine Grd.missF ?_ | refine Grd.missT ?_ | refine Grd.hit ?_)
          refine CallN.mk _ (rDeep_con _ t i w3 (ht0.ext hE02) hil (fun j hj => (hpar j (by omega)).2)) ?_
          rintro v w4 ⟨hv, hw⟩
          have hw' := hw.symm
          subst hv hw'
          repeat (first | refine Grd.missF ?_ | refine Grd.missT ?_ | refine Grd.hit ?_)
          refine Cond.dec (fun g8 => ?_) (fun g8 => ?_)
          · have hDv : deepR t (i + 1) = true := by rw [hD, decide_eq_true k2, decide_eq_true g8, Bool.true_and, Bool.or_true]
            refine Ar.i64n (i + 1) (by omega) (by omega) ?_
            exact ⟨i + 1, ⟨hE02, by omega, hsn⟩, by omega, rfl, rfl, rfl, by rw [hMv]; rfl, by rw [hDv]; rfl, rfl, trivial⟩
          · have hDv : deepR t (i + 1) = deepR t i := by rw [hD, decide_eq_false g8, Bool.and_false, Bool.or_false]
            refine Ar.i64n (i + 1) (by omega) (by omega) ?_
            exact ⟨i + 1, ⟨hE02, by omega, hsn⟩, by omega, rfl, rfl, rfl, by rw [hMv]; rfl, by rw [hDv]; rfl, rfl, trivial⟩
        · repeat (first | refine Grd.missF ?_ | refine Grd.missT ?_ | refine Grd.hit ?_)
          refine Cond.no ?_
          have hMv : elemsR t (i + 1) = elemsR t i := by rw [hM, if_neg (fun h => g7 h.1)]; rfl
          refine Idx.mk a rfl (by omega) (by omega) ?_
          refine Load.here (hc.one (k := 0) rfl) ?_
          refine Grd.decT (fun _ => ?_) (fun h => absurd k2 h)
          repeat (first | refine Grd.missF ?_ | refine Grd.missT ?_ | refine Grd.hit ?_)
          refine CallN.mk _ (rDeep_con _ t i w3 (ht0.ext hE02) hil (fun j hj => (hpar j (by omega)).2)) ?_
          rintro v w4 ⟨hv, hw⟩
          have hw' := hw.symm
          subst hv hw'
          repeat (first | refine Grd.missF ?_ | refine Grd.missT ?_ | refine Grd.hit ?_)
          refine Cond.dec (fun g8 => ?_) (fun g8 => ?_)
          · have hDv : deepR t (i + 1) = true := by rw [hD, decide_eq_true k2, decide_eq_true g8, Bool.true_and, Bool.or_true]
            refine Ar.i64n (i + 1) (by omega) (by omega) ?_
            exact ⟨i + 1, ⟨hE02, by omega, hsn⟩, by omega, rfl, rfl, rfl, by rw [hMv]; rfl, by rw [hDv]; rfl, rfl, trivial⟩
          · have hDv : deepR t (i + 1) = deepR t i := by rw [hD, decide_eq_false g8, Bool.and_false, Bool.or_false]
            refine Ar.i64n (i + 1) (by omega) (by omega) ?_
            exact ⟨i + 1, ⟨hE02, by omega, hsn⟩, by omega, rfl, rfl, rfl, by rw [hMv]; rfl, by rw [hDv]; rfl, rfl, trivial⟩
      · have hMv : elemsR t (i + 1) = elemsR t i := by rw [hM, if_neg (fun h => k2 h.2)]; rfl
        have hDv : deepR t (i + 1) = deepR t i := by rw [hD, decide_eq_false k2, Bool.false_and, Bool.or_false]
        have rest2 : True := trivial
        refine Grd.decT (fun g7 => ?_) (fun g7 => ?_)
        · repeat (first | refine Grd.missF ?_ | refine Grd.missT ?_ | refine Grd.hit ?_)
          refine Idx.mk a rfl (by omega) (by omega) ?_
          repeat (first | refine Grd.missF ?_ | refine Grd.missT ?_ | refine Grd.hit ?_)
          refine Load.here (hc.one (k := 0) rfl) ?_
          repeat (first | refine Grd.missF ?_ | refine Grd.missT ?_ | refine Grd.hit ?_)
          refine Cond.dec (fun h => absurd h k2) (fun _ => ?_)
          refine Idx.mk a rfl (by omega) (by omega) ?_
          refine Load.here (hc.one (k := 0) rfl) ?_
          refine Grd.decT (fun h => absurd h k2) (fun _ => ?_)
          repeat (first | refine Grd.missF ?_ | refine Grd.missT ?_ | refine Grd.hit ?_)
          refine Cond.no ?_
          refine Ar.i64n (i + 1) (by omega) (by omega) ?_
          exact ⟨i + 1, ⟨hE02, by omega, hsn⟩, by omega, rfl, rfl, rfl, by rw [hMv]; rfl, by rw [hDv]; rfl, rfl, trivial⟩
        · repeat (first | refine Grd.missF ?_ | refine Grd.missT ?_ | refine Grd.hit ?_)
          refine Cond.no ?_
          refine Idx.mk a rfl (by omega) (by omega) ?_
          refine Load.here (hc.one (k := 0) rfl) ?_
          refine Grd.decT (fun h => absurd h k2) (fun _ => ?_)
          repeat (first | refine Grd.missF ?_ | refine Grd.missT ?_ | refine Grd.hit ?_)
          refine Cond.no ?_
          refine Ar.i64n (i + 1) (by omega) (by omega) ?_
          exact ⟨i + 1, ⟨hE02, by omega, hsn⟩, by omega, rfl, rfl, rfl, by rw [hMv]; rfl, by rw [hDv]; rfl, rfl, trivial⟩
    | false =>
      repeat (first | refine Grd.missF ?_ | refine Grd.missT ?_ | refine Grd.hit ?_)
      refine RunQ.here (run_neqBool _ _ _ _ _) ?_
      repeat (first | refine Grd.missF ?_ | refine Grd.missT ?_ | refine Grd.hit ?_)
      refine Cond.neg (fun g5 => ?_) (fun g5 => ?_)
      · exact no (by unfold okR; rw [g4, Bool.true_and, Bool.false_and, g5])
      have hok : okR t false i = true := by unfold okR; rw [g4, Bool.true_and, Bool.false_and, g5]
      refine Idx.mk a rfl (by omega) (by omega) ?_
      refine Load.here (hc.one (k := 3) rfl) ?_
      refine Cond.join (X := Unit) (fun _ => [(0, .slice (some a) t.length c), (1, .bool false), (5, .int .i64 (topsR t (i + 1))), (6, .int .i64 (elemsR t i)), (7, .bool (deepR t i)), (8, .int .i64 i)]) (fun _ w' => w' = w2) (fun g6 => ?_) (fun g6 => ?_) ?_
      · have g6' := of_decide_eq_true g6
        refine Ar.i64n (topsR t i + 1) (by omega) (by omega) ?_
        exact ⟨(), rfl, rfl, rfl, by rw [hT, if_pos g6']; rfl, rfl, rfl, rfl, trivial⟩
      · have g6' := of_decide_eq_false g6
        exact ⟨(), rfl, rfl, rfl, by rw [hT, if_neg g6']; rfl, rfl, rfl, rfl, trivial⟩
      rintro _ w3 hw3
      subst hw3
      have hsn : (List.range (i + 1)).all (okR t false) = true := by rw [List.range_succ, List.all_append, hs, List.all_cons, List.all_nil, hok]; rfl
      refine Idx.mk a rfl (by omega) (by omega) ?_
      refine Load.here (hc.one (k := 3) rfl) ?_
      by_cases k2 : (nd t (i : Int)).kind = 2
      · refine Grd.decT (fun g7 => ?_) (fun g7 => ?_)
        · repeat (first | refine Grd.missF ?_ | refine Grd.missT ?_ | refine Grd.hit ?_)
          refine Idx.mk a rfl (by omega) (by omega) ?_
          repeat (first | refine Grd.missF ?_ | refine Grd.missT ?_ | refine Grd.hit ?_)
          refine Load.here (hc.one (k := 0) rfl) ?_
          repeat (first | refine Grd.missF ?_ | refine Grd.missT ?_ | refine Grd.hit ?_)
          refine Cond.dec (fun _ => ?_) (fun h => absurd k2 h)
          refine Ar.i64n (elemsR t i + 1) (by omega) (by omega) ?_
          have hMv : elemsR t (i + 1) = elemsR t i + 1 := by rw [hM, if_pos ⟨g7, k2⟩]
          refine Idx.mk a rfl (by omega) (by omega) ?_
          refine Load.here (hc.one (k := 0) rfl) ?_
          refine Grd.decT (fun _ => ?_) (fun h => absurd k2 h)
          repeat (first | refine Grd.missF ?_ | refine Grd.missT ?_ | refine Grd.hit ?_)
          refine CallN.mk _ (rDeep_con _ t i w3 (ht0.ext hE02) hil (fun j hj => (hpar j (by omega)).2)) ?_
          rintro v w4 ⟨hv, hw⟩
          have hw' := hw.symm
          subst hv hw'
          repeat (first | refine Grd.missF ?_ | refine Grd.missT ?_ | refine Grd.hit ?_)
          refine Cond.dec (fun g8 => ?_) (fun g8 => ?_)
          · have hDv : deepR t (i + 1) = true := by rw [hD, decide_eq_true k2, decide_eq_true g8, Bool.true_and, Bool.or_true]
            refine Ar.i64n (i + 1) (by omega) (by omega) ?_
            exact ⟨i + 1, ⟨hE02, by omega, hsn⟩, by omega, rfl, rfl, rfl, by rw [hMv]; rfl, by rw [hDv]; rfl, rfl, trivial⟩
          · have hDv : deepR t (i + 1) = deepR t i := by rw [hD, decide_eq_false g8, Bool.and_false, Bool.or_false]
            refine Ar.i64n (i + 1) (by omega) (by omega) ?_
            exact ⟨i + 1, ⟨hE02, by omega, hsn⟩, by omega, rfl, rfl, rfl, by rw [hMv]; rfl, by rw [hDv]; rfl, rfl, trivial⟩
        · repeat (first | refine Grd.missF ?_ | refine Grd.missT ?_ | refine Grd.hit ?_)
          refine Cond.no ?_
          have hMv : elemsR t (i + 1) = elemsR t i := by rw [hM, if_neg (fun h => g7 h.1)]; rfl
          refine Idx.mk a rfl (by omega) (by omega) ?_
          refine Load.here (hc.one (k := 0) rfl) ?_
          refine Grd.decT (fun _ => ?_) (fun h => absurd k2 h)
          repeat (first | refine Grd.missF ?_ | refine Grd.missT ?_ | refine Grd.hit ?_)
          refine CallN.mk _ (rDeep_con _ t i w3 (ht0.ext hE02) hil (fun j hj => (hpar j (by omega)).2)) ?_
          rintro v w4 ⟨hv, hw⟩
          have hw' := hw.symm
          subst hv hw'
          repeat (first | refine Grd.missF ?_ | refine Grd.missT ?_ | refine Grd.hit ?_)
          refine Cond.dec (fun g8 => ?_) (fun g8 => ?_)
          · have hDv : deepR t (i + 1) = true := by rw [hD, decide_eq_true k2, decide_eq_true g8, Bool.true_and, Bool.or_true]
            refine Ar.i64n (i + 1) (by omega) (by omega) ?_
            exact ⟨i + 1, ⟨hE02, by omega, hsn⟩, by omega, rfl, rfl, rfl, by rw [hMv]; rfl, by rw [hDv]; rfl, rfl, trivial⟩
          · have hDv : deepR t (i + 1) = deepR t i := by rw [hD, decide_eq_false g8, Bool.and_false, Bool.or_false]
            refine Ar.i64n (i + 1) (by omega) (by omega) ?_
            exact ⟨i + 1, ⟨hE02, by omega, hsn⟩, by omega, rfl, rfl, rfl, by rw [hMv]; rfl, by rw [hDv]; rfl, rfl, trivial⟩
      · have hMv : elemsR t (i + 1) = elemsR t i := by rw [hM, if_neg (fun h => k2 h.2)]; rfl
        have hDv : deepR t (i + 1) = deepR t i := by rw [hD, decide_eq_false k2, Bool.false_and, Bool.or_false]
        have rest2 : True := trivial
        refine Grd.decT (fun g7 => ?_) (fun g7 => ?_)
        · repeat (first | refine Grd.missF ?_ | refine Grd.missT ?_ | refine Grd.hit ?_)
          refine Idx.mk a rfl (by omega) (by omega) ?_
          repeat (first | refine Grd.missF ?_ | refine Grd.missT ?_ | refine Grd.hit ?_)
          refine Load.here (hc.one (k := 0) rfl) ?_
          repeat (first | refine Grd.missF ?_ | refine Grd.missT ?_ | refine Grd.hit ?_)
          refine Cond.dec (fun h => absurd h k2) (fun _ => ?_)
          refine Idx.mk a rfl (by omega) (by omega) ?_
          refine Load.here (hc.one (k := 0) rfl) ?_
          refine Grd.decT (fun h => absurd h k2) (fun _ => ?_)
          repeat (first | refine Grd.missF ?_ | refine Grd.missT ?_ | refine Grd.hit ?_)
          refine Cond.no ?_
          refine Ar.i64n (i + 1) (by omega) (by omega) ?_
          exact ⟨i + 1, ⟨hE02, by omega, hsn⟩, by omega, rfl, rfl, rfl, by rw [hMv]; rfl, by rw [hDv]; rfl, rfl, trivial⟩
        · repeat (first | refine Grd.missF ?_ | refine Grd.missT ?_ | refine Grd.hit ?_)
          refine Cond.no ?_
          refine Idx.mk a rfl (by omega) (by omega) ?_
          refine Load.here (hc.one (k := 0) rfl) ?_
          refine Grd.decT (fun h => absurd h k2) (fun _ => ?_)
          repeat (first | refine Grd.missF ?_ | refine Grd.missT ?_ | refine Grd.hit ?_)
          refine Cond.no ?_
          refine Ar.i64n (i + 1) (by omega) (by omega) ?_
          exact ⟨i + 1, ⟨hE02, by omega, hsn⟩, by omega, rfl, rfl, rfl, by rw [hMv]; rfl, by rw [hDv]; rfl, rfl, trivial⟩
  · have hi2 : i = t.length := by omega
    have hall : (List.range t.length).all (okR t root) = true := by rw [← hi2]; exact hs
    have val : rCheck t root = if root = true ∧ (topsR t t.length ≠ 1 ∨ elemsR t t.length ≠ 1) then 4 else if deepR t t.length = true then 131 else 0 := by
      unfold rCheck
      rw [if_neg (by omega), if_neg (by rw [g2]; simp), if_neg (by rw [hall]; simp)]
    rw [hi2]
    have fin : ∀ x : Int, rCheck t root = x → (tupleOf [Value.int .i64 x] = Value.int .i64 (rCheck t root) ∧ Ext w w1) := fun x h => by rw [h]; exact ⟨rfl, hE⟩
    have deepEnd : (rCheck t root = if deepR t t.length = true then 131 else 0) → ∀ b, deepR t t.length = b → rCheck t root = if b = true then 131 else 0 := fun h b hb => by rw [h, hb]
    cases root with
    | true =>
      repeat (first | refine Grd.missF ?_ | refine Grd.missT ?_ | refine Grd.hit ?_)
      refine Grd.ndecF (fun g4 => ?_) (fun g4 => ?_)
      · repeat (first | refine Grd.missF ?_ | refine Grd.missT ?_ | refine Grd.hit ?_)
        refine Cond.ndec (fun g5 => ?_) (fun g5 => ?_)
        · refine fin _ ?_
          rw [val, if_pos ⟨rfl, .inr (by omega)⟩]
        · have v2 : rCheck t true = if deepR t t.length = true then 131 else 0 := by
            rw [val, if_neg]
            rintro ⟨-, h | h⟩
            · omega
            · omega
          refine Cond.mk (fun g6 => ?_) (fun g6 => ?_)
          · exact fin _ (by rw [v2, if_pos g6])
          · exact fin _ (by rw [v2, if_neg (by rw [g6]; simp)])
      · repeat (first | refine Grd.missF ?_ | refine Grd.missT ?_ | refine Grd.hit ?_)
        refine Cond.yes ?_
        refine fin _ ?_
        rw [val, if_pos ⟨rfl, .inl (by omega)⟩]
    | false =>
      repeat (first | refine Grd.missF ?_ | refine Grd.missT ?_ | refine Grd.hit ?_)
      refine Cond.no ?_
      have v2 : rCheck t false = if deepR t t.length = true then 131 else 0 := by
        rw [val, if_neg (by simp)]
      refine Cond.mk (fun g6 => ?_) (fun g6 => ?_)
      · exact fin _ (by rw [v2, if_pos g6])
      · exact fin _ (by rw [v2, if_neg (by rw [g6]; simp)])

theorem rFragment_con (v : Value) (t : List Nd) (w : World) (ht : NodesAt w v t) : Con Tryz.prog 88 #[v] w (fun v' w' => v' = .int .i64 (rCheck t false) ∧ Ext w w') := by
  refine enter tab_ok Tryz.func88 (fnOk rfl) rfl rfl rfl ?_
  refine CallN.mk _ (rCheck_con v t false w ht) ?_
  rintro v' w1 ⟨rfl, hE⟩
  exact And.intro rfl hE
end Go.Proofs.YtelffdgcikceaaaGreatDoor
end
