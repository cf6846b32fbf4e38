/- PendingOrder: for every tree, all parts and every turn, with the tables as the program's text lays them, the law returns true and changes nothing that was there. -/
import Derived.Test.YtelffdgcikceaaaGreatDoorXB6
import Derived.Laws.Small
import Derived.BigFrame
import Derived.Test.YtelffdgcikceaaaGreatDoorTie
import Derived.Test.YtelffdgcikceaaaGreatDoorCards
import Derived.SevenTiedAt

/- Plain: parts in another order, those of one kind and one target in theirs. -/
section
set_option linter.unusedSimpArgs false
set_option linter.unusedVariables false
namespace Go.Proofs.YtelffdgcikceaaaGreatDoor
open Go.V

/-- Of one kind and one target. -/
def sameC (x y : Pt) : Bool := decide (x.kind = y.kind) && decide (x.target = y.target)
def clsF (o : List Pt) (p : Pt) : List Pt := o.filter (fun q => sameC q p)
def ordStep (l o : List Pt) (p : Pt) : List Pt := if o.any (fun q => sameC q p) then o else o ++ clsF l p
def pt0 : Pt := ⟨0, 0, ⟨#[]⟩, []⟩
def firstO (l : List Pt) (s k : Nat) : Pt := l.getD ((k + s) % l.length) pt0
def ordK (l : List Pt) (s : Nat) : Nat → List Pt
  | 0 => []
  | k + 1 => ordStep l (ordK l s k) (firstO l s k)

theorem sameC_iff {x y : Pt} : sameC x y = true ↔ x.kind = y.kind ∧ x.target = y.target := by simp [sameC]
theorem sameC_refl (x : Pt) : sameC x x = true := sameC_iff.2 ⟨rfl, rfl⟩
theorem sameC_symm {x y : Pt} (h : sameC x y = true) : sameC y x = true := by rw [sameC_iff] at *; exact ⟨h.1.symm, h.2.symm⟩
theorem sameC_trans {x y z : Pt} (h : sameC x y = true) (g : sameC y z = true) : sameC x z = true := by rw [sameC_iff] at *; exact ⟨h.1.trans g.1, h.2.trans g.2⟩
theorem clsF_congr {p q : Pt} (h : sameC p q = true) (o : List Pt) : clsF o p = clsF o q := by
  refine List.filter_congr fun x _ => ?_
  rw [Bool.eq_iff_iff]
  exact ⟨fun g => sameC_trans g h, fun g => sameC_trans g (sameC_symm h)⟩
theorem clsF_clsF (o : List Pt) (p q : Pt) : clsF (clsF o p) q = if sameC p q = true then clsF o p else [] := by
  unfold clsF
  rw [List.filter_filter]
  split
  · rename_i h
    refine List.filter_congr fun x _ => ?_
    rw [Bool.eq_iff_iff, Bool.and_eq_true]
    exact ⟨fun g => g.2, fun g => ⟨sameC_trans g h, g⟩⟩
  · rename_i h
    rw [List.filter_eq_nil_iff]
    intro x _ g
    rw [Bool.and_eq_true] at g
    exact h (sameC_trans (sameC_symm g.2) g.1)
theorem clsF_append (a b : List Pt) (p : Pt) : clsF (a ++ b) p = clsF a p ++ clsF b p := List.filter_append ..
theorem any_cls {o : List Pt} {p : Pt} : o.any (fun q => sameC q p) = true ↔ clsF o p ≠ [] := by
  unfold clsF
  rw [List.any_eq_true, Ne, List.filter_eq_nil_iff]
  constructor
  · rintro ⟨x, h1, h2⟩ h
    exact h x h1 h2
  · intro h
    refine Classical.byContradiction fun g => h fun x hx hs => g ⟨x, hx, hs⟩

theorem ordStep_cls (l o : List Pt) (f : Pt) (hA : ∀ p, clsF o p = clsF l p ∨ clsF o p = []) : (∀ p, clsF (ordStep l o f) p = clsF l p ∨ clsF (ordStep l o f) p = []) ∧ clsF (ordStep l o f) f = clsF l f ∧ ∀ p, clsF o p = clsF l p → clsF (ordStep l o f) p = clsF l p := by
  unfold ordStep
  split
  · rename_i h
    refine ⟨hA, ?_, fun p hp => hp⟩
    rcases hA f with g | g
    · exact g
    · exact absurd g (any_cls.1 h)
  · rename_i h
    have hn : clsF o f = [] := by
      refine Classical.byContradiction fun g => h (any_cls.2 g)
    have key : ∀ p, clsF (o ++ clsF l f) p = if sameC f p = true then clsF l p else clsF o p := fun p => by
      rw [clsF_append, clsF_clsF]
      split
      · rename_i g
        rw [← clsF_congr g o, hn, List.nil_append, clsF_congr g l]
      · rw [List.append_nil]
    refine ⟨fun p => ?_, ?_, fun p hp => ?_⟩
    · rw [key]
      split
      · exact .inl rfl
      · exact hA p
    · rw [key, if_pos (sameC_refl f)]
    · rw [key]
      split
      · rfl
      · exact hp
theorem ordK_cls (l : List Pt) (s : Nat) : ∀ k, (∀ p, clsF (ordK l s k) p = clsF l p ∨ clsF (ordK l s k) p = []) ∧ ∀ j, j < k → clsF (ordK l s k) (firstO l s j) = clsF l (firstO l s j)
  | 0 => ⟨fun p => .inr rfl, fun j h => absurd h (Nat.not_lt_zero _)⟩
  | k + 1 => by
    obtain ⟨hA, hB⟩ := ordK_cls l s k
    obtain ⟨h1, h2, h3⟩ := ordStep_cls l (ordK l s k) (firstO l s k) hA
    refine ⟨h1, fun j hj => ?_⟩
    by_cases e : j = k
    · subst e; exact h2
    · exact h3 _ (hB j (by omega))
theorem ordK_len (l : List Pt) (s : Nat) : ∀ k, (ordK l s k).length ≤ k * l.length
  | 0 => by simp [ordK]
  | k + 1 => by
    have ih := ordK_len l s k
    have : (ordStep l (ordK l s k) (firstO l s k)).length ≤ (ordK l s k).length + l.length := by
      unfold ordStep
      split
      · omega
      · rw [List.length_append]
        have := List.length_filter_le (fun q => sameC q (firstO l s k)) l
        unfold clsF
        omega
    rw [Nat.add_mul]
    show (ordStep l (ordK l s k) (firstO l s k)).length ≤ _
    omega
theorem first_all {l : List Pt} {s : Nat} {p : Pt} (h : p ∈ l) : ∃ j, j < l.length ∧ firstO l s j = p := by
  obtain ⟨i, hi, rfl⟩ := List.mem_iff_getElem.1 h
  refine ⟨(i + (l.length - s % l.length)) % l.length, Nat.mod_lt _ (by omega), ?_⟩
  unfold firstO
  have hs := Nat.mod_lt s (show 0 < l.length by omega)
  have : ((i + (l.length - s % l.length)) % l.length + s) % l.length = i := by
    rw [Nat.add_mod, Nat.mod_mod, ← Nat.add_mod]
    have e := Nat.div_add_mod s l.length
    have : i + (l.length - s % l.length) + s = i + l.length * (s / l.length + 1) := by rw [Nat.mul_add]; omega
    rw [this, Nat.add_mul_mod_self_left, Nat.mod_eq_of_lt hi]
  rw [this, List.getD_eq_getElem?_getD, List.getElem?_eq_getElem hi]
  rfl

/-- Parts in another order. -/
structure Reord (l o : List Pt) : Prop where
  cls : ∀ p, clsF o p = clsF l p
theorem ordK_reord (l : List Pt) (s : Nat) : Reord l (ordK l s l.length) := ⟨fun p => by
  obtain ⟨hA, hB⟩ := ordK_cls l s l.length
  by_cases h : clsF l p = []
  · rcases hA p with g | g
    · exact g
    · rw [g, h]
  · obtain ⟨x, hx⟩ := List.exists_mem_of_ne_nil _ h
    obtain ⟨hxl, hxp⟩ := List.mem_filter.1 hx
    obtain ⟨j, hj, e⟩ := first_all (s := s) hxl
    have := hB j hj
    rw [e] at this
    rw [← clsF_congr hxp, ← clsF_congr hxp, this]⟩

section
variable {l o : List Pt}
theorem Reord.mem (h : Reord l o) {p : Pt} : p ∈ o ↔ p ∈ l := by
  have e := h.cls p
  constructor
  · intro hp
    have : p ∈ clsF o p := List.mem_filter.2 ⟨hp, sameC_refl p⟩
    rw [e] at this
    exact (List.mem_filter.1 this).1
  · intro hp
    have : p ∈ clsF l p := List.mem_filter.2 ⟨hp, sameC_refl p⟩
    rw [← e] at this
    exact (List.mem_filter.1 this).1
theorem Reord.perm (h : Reord l o) : o.Perm l := by
  rw [List.perm_iff_count]
  intro a
  have key : ∀ x : List Pt, x.count a = (clsF x a).count a := fun x => by
    unfold clsF
    exact (List.count_filter (p := fun q => sameC q a) (sameC_refl a)).symm
  rw [key o, key l, h.cls a]
theorem Reord.len (h : Reord l o) : o.length = l.length := h.perm.length_eq
theorem kp_inj {x y : Pt} (hx : -9223372036854775808 ≤ x.target ∧ x.target ≤ 9223372036854775807) (hy : -9223372036854775808 ≤ y.target ∧ y.target ≤ 9223372036854775807) : kp x = kp y ↔ sameC x y = true := by
  rw [sameC_iff]
  unfold kp
  constructor
  · intro h
    have : x.kind = y.kind := by omega
    exact ⟨this, by omega⟩
  · rintro ⟨h1, h2⟩
    rw [h1, h2]
theorem Reord.same (h : Reord l o) (hw : ∀ p ∈ l, -9223372036854775808 ≤ p.target ∧ p.target ≤ 9223372036854775807) : Same kp o l := fun κ => by
  by_cases g : ∃ x ∈ l, kp x = κ
  · obtain ⟨x, hx, rfl⟩ := g
    have key : ∀ z : List Pt, (∀ p ∈ z, p ∈ l) → z.filter (fun y => decide (kp y = kp x)) = clsF z x := fun z hz => by
      refine List.filter_congr fun y hy => ?_
      rw [Bool.eq_iff_iff, decide_eq_true_eq]
      exact kp_inj (hw y (hz y hy)) (hw x hx)
    rw [key o (fun p hp => h.mem.1 hp), key l (fun p hp => hp), h.cls x]
  · rw [List.filter_eq_nil_iff.2 (fun y hy => by simpa using fun e => g ⟨y, h.mem.1 hy, e⟩), List.filter_eq_nil_iff.2 (fun y hy => by simpa using fun e => g ⟨y, hy, e⟩)]
theorem Reord.merge (h : Reord l o) (hw : ∀ p ∈ l, -9223372036854775808 ≤ p.target ∧ p.target ≤ 9223372036854775807) : mergeP o = mergeP l := by
  unfold mergeP
  rw [isort_congr (h.same hw)]
  have : (o.all fun p => splitOk p.nodes) = (l.all fun p => splitOk p.nodes) := by
    rw [Bool.eq_iff_iff, List.all_eq_true, List.all_eq_true]
    exact ⟨fun g p hp => g p (h.mem.2 hp), fun g p hp => g p (h.mem.1 hp)⟩
  rw [this]

theorem firstErr_iff {t : List Nd} : ∀ {l : List Pt}, firstErr t l = 0 ↔ ∀ p ∈ l, partErr t p = 0
  | [] => by simp [firstErr]
  | p :: r => by
    unfold firstErr
    by_cases h : partErr t p = 0
    · rw [if_neg (by simpa using h), firstErr_iff]
      simp [h]
    · rw [if_pos h]
      constructor
      · intro g; exact absurd g h
      · intro g; exact absurd (g p List.mem_cons_self) h
theorem cntP_cons (x : Pt) (l : List Pt) (a b : Int) : cntP (x :: l) a b = (if x.kind = a ∧ x.target = b then 1 else 0) + cntP l a b := by
  unfold cntP
  rw [List.filter_cons]
  by_cases h : x.kind = a ∧ x.target = b
  · rw [if_pos (by simpa using h), if_pos h, List.length_cons]; omega
  · rw [if_neg (by simpa using h), if_neg h]; omega
theorem onceF_iff : ∀ (l s : List Pt), onceF s l = true ↔ ∀ p ∈ l, (shapeOf p.kind).once = true → cntP s p.kind p.target + cntP l p.kind p.target ≤ 1
  | [], s => by simp [onceF]
  | x :: r, s => by
    unfold onceF
    rw [Bool.and_eq_true, onceF_iff r (s ++ [x])]
    constructor
    · rintro ⟨h1, h2⟩ p hp ho
      rcases List.mem_cons.1 hp with rfl | hp
      · have e1 : cntP s p.kind p.target = 0 := by
          rw [ho] at h1
          simpa using h1
        have e2 : cntP r p.kind p.target = 0 := by
          refine Classical.byContradiction fun g => ?_
          have hne : (r.filter fun q => decide (q.kind = p.kind ∧ q.target = p.target)) ≠ [] := fun e => g (by unfold cntP; rw [e]; rfl)
          obtain ⟨q, hq⟩ := List.exists_mem_of_ne_nil _ hne
          obtain ⟨hq1, hq2⟩ := List.mem_filter.1 hq
          have hq3 := of_decide_eq_true hq2
          have := h2 q hq1 (by rw [hq3.1]; exact ho)
          rw [hq3.1, hq3.2, cntP_snoc, if_pos ⟨rfl, rfl⟩] at this
          omega
        rw [cntP_cons, if_pos ⟨rfl, rfl⟩, e1, e2]
        decide
      · have := h2 p hp ho
        rw [cntP_snoc] at this
        rw [cntP_cons]
        omega
    · intro h
      refine ⟨?_, fun p hp ho => ?_⟩
      · cases ho : (shapeOf x.kind).once with
        | false => simp
        | true =>
          have := h x List.mem_cons_self ho
          rw [cntP_cons, if_pos ⟨rfl, rfl⟩] at this
          have e : cntP s x.kind x.target = 0 := by omega
          simp [e]
      · have := h p (List.mem_cons_of_mem _ hp) ho
        rw [cntP_cons] at this
        rw [cntP_snoc]
        omega
theorem cntP_cls (l : List Pt) (p : Pt) : cntP l p.kind p.target = (clsF l p).length := by
  unfold cntP clsF
  congr 1
  refine List.filter_congr fun x _ => ?_
  rw [Bool.eq_iff_iff, sameC_iff, decide_eq_true_eq]
theorem Reord.once (h : Reord l o) : onceB o = onceB l := by
  rw [Bool.eq_iff_iff]
  unfold onceB
  rw [onceF_iff, onceF_iff]
  simp only [cntP_cls, h.cls]
  exact ⟨fun g p hp => g p (h.mem.2 hp), fun g p hp => g p (h.mem.1 hp)⟩
theorem check_zero {t : List Nd} {l : List Pt} : checkP t l = 0 ↔ allB t true = 0 ∧ l.length ≤ 1000 ∧ firstErr t l = 0 ∧ onceB l = true := by
  unfold checkP
  split
  · rename_i h
    exact ⟨fun g => absurd g (by decide), fun g => absurd g.1 h⟩
  · rename_i h1
    split
    · rename_i h
      exact ⟨fun g => absurd g (by decide), fun g => by omega⟩
    · split
      · rename_i h
        exact ⟨fun g => absurd g h, fun g => absurd g.2.2.1 h⟩
      · rename_i h2 h3
        split
        · rename_i h
          exact ⟨fun _ => ⟨Decidable.not_not.1 h1, by omega, Decidable.not_not.1 h3, h⟩, fun _ => rfl⟩
        · rename_i h
          exact ⟨fun g => absurd g (by decide), fun g => absurd g.2.2.2 h⟩
theorem Reord.check (h : Reord l o) (t : List Nd) : checkP t o = 0 ↔ checkP t l = 0 := by
  rw [check_zero, check_zero, h.len, h.once, firstErr_iff, firstErr_iff]
  have : (∀ p ∈ o, partErr t p = 0) ↔ ∀ p ∈ l, partErr t p = 0 := ⟨fun g p hp => g p (h.mem.2 hp), fun g p hp => g p (h.mem.1 hp)⟩
  rw [this]
theorem Reord.apply (h : Reord l o) (hw : ∀ p ∈ l, -9223372036854775808 ≤ p.target ∧ p.target ≤ 9223372036854775807) (t : List Nd) : (applyP t l).2 = (applyP t o).2 ∧ ((applyP t l).1 = 0 ↔ (applyP t o).1 = 0) := by
  by_cases g : checkP t l = 0
  · have g' := (h.check t).2 g
    have : applyP t o = applyP t l := by
      unfold applyP
      rw [h.merge hw, g, g']
    rw [this]
    exact ⟨rfl, Iff.rfl⟩
  · have g' : checkP t o ≠ 0 := fun e => g ((h.check t).1 e)
    unfold applyP
    rw [if_pos g, if_pos g']
    exact ⟨rfl, ⟨fun e => absurd e g, fun e => absurd e g'⟩⟩
end
end Go.Proofs.YtelffdgcikceaaaGreatDoor
end

/- The laws: PendingOrder. -/
section
set_option linter.unusedSimpArgs false
set_option linter.unusedVariables false
namespace Go.Proofs.YtelffdgcikceaaaGreatDoor
open Go.V
open Go.RowKit (Below)

theorem run_max2 (ats : Array TypeId) (ty : TypeId) (cs : Array Bool) (x y : Int) (w : World) : (builtin .max ats ty cs #[.int .i64 x, .int .i64 y]).run Tryz.prog w = .ok (.value (.int .i64 (if y > x then y else x))) w := by
  simp only [builtin, Sem.run_bind, run_max_int2, Result.andThen_ok, Sem.run_pure]
theorem pick_bounds (x n : Int) (h : 1 ≤ n) : 0 ≤ pick x n ∧ pick x n < n := by
  unfold pick
  rw [if_neg (by omega)]
  have h1 := Int.tmod_lt_of_pos x (show 0 < n by omega)
  have h2 := Int.lt_tmod_of_pos x (show 0 < n by omega)
  split <;> omega

theorem insK_lenP {α : Type} {key : α → Int} (x : α) : ∀ l : List α, (insK key x l).length = l.length + 1
  | [] => rfl
  | y :: r => by
    unfold insK
    split
    · rfl
    · simp only [List.length_cons, insK_lenP x r]
theorem isort_lenP {α : Type} {key : α → Int} : ∀ l : List α, (isort key l).length = l.length
  | [] => rfl
  | x :: r => by
    show (insK key x (isort key r)).length = _
    rw [insK_lenP, isort_lenP r, List.length_cons]
theorem rowOut_lenP (r : List Pt) : (rowOut r).length ≤ r.length := by
  unfold rowOut
  split
  · exact Nat.le_refl _
  · split
    · exact Nat.le_refl _
    · split <;> simp
theorem flat_rowOut_len : ∀ rows : List (List Pt), ((rows.map rowOut).flatten).length ≤ rows.flatten.length
  | [] => Nat.le_refl _
  | r :: rs => by
    have := flat_rowOut_len rs
    have := rowOut_lenP r
    simp only [List.map_cons, List.flatten_cons, List.length_append]
    omega
theorem mergeP_len (l : List Pt) : (mergeP l).length ≤ l.length := by
  unfold mergeP
  split
  · have := flat_rowOut_len (rowsG samePt (isort kp l))
    unfold rowsG at this ⊢
    rw [rowsGF_flat _ _ (Nat.le_refl _)] at this
    exact Nat.le_trans this (Nat.le_of_eq (isort_lenP l))
  · exact Nat.zero_le _
theorem OutAt.parts {w : World} {D : Nat} {vo : Value} {outs : List RPt} {ps : List Pt} (h : OutAt w D vo outs ps) (hl : ps.length ≤ 2513169434916) : PartsAt w vo ps :=
  ⟨⟨outs, h.vec.sl, h.len, fun i r p h1 h2 => by
    obtain ⟨⟨a, b, c⟩, ⟨d, e, f⟩, g, i1, i2, -⟩ := h.el i r p h1 h2
    exact ⟨a, b, c, ⟨g.sl, i1, i2⟩, d, e, f⟩⟩, hl⟩
theorem run_eqBool (gx gy : Operand) (a b : Bool) (w : World) : (do eqGuard .eql 4 gx gy (.bool a) (.bool b); binOp .eql 4 (.bool a) (.bool b)).run Tryz.prog w = .ok (.bool (a == b)) w := by
  cases a <;> cases b <;> kernel_rfl

theorem Order_con (vt vl : Value) (turn : Int) (t : List Nd) (l : List Pt) (w : World) (ht : NodesAt w vt t) (hl : PartsAt w vl l) (hG : Glob w) (htn : -9223372036854775808 ≤ turn ∧ turn ≤ 9223372036854775807) :
    Con Tryz.prog 5 #[vt, vl, .int .i64 turn] w (fun v w' => v = .bool true ∧ Ext w w') := by
  have hml : maxLen = 9223372036854775807 := rfl
  have hl0 := hl
  obtain ⟨o, c, rfl, h1, h2, h3, h4⟩ := hl0.open_
  obtain ⟨rs, hsl, hpts⟩ := hl.ex
  have hrl : rs.length = l.length := hpts.1
  have hrow : ∀ i (hi : i < l.length), PtAt w (rs[i]'(by omega)) l[i] := fun i hi => hpts.2 i _ _ (List.getElem?_eq_getElem (by omega)) (List.getElem?_eq_getElem hi)
  have hcel : ∀ w', Ext w w' → ∀ i (hi : i < l.length), ∃ a, o = some a ∧ Cells w' (a.add (i * 4)) (rs[i]'(by omega)).cells := fun w' hE i hi => (hsl.el _ _ _ rfl).ext hE i _ (by rw [List.getElem?_map, List.getElem?_eq_getElem (by omega)]; rfl)
  obtain ⟨s, hs⟩ : ∃ s : Nat, s = (pick turn l.length).toNat := ⟨_, rfl⟩
  refine enter tab_ok Tryz.func5 (fnOk rfl) rfl rfl rfl ?_
  refine CallN.mk _ (awake_con w hG) ?_
  rintro v w1 ⟨rfl, hE1⟩
  refine Cond.no ?_
  refine CallN.mk _ (great_con vt _ t l w1 (ht.ext hE1) (hl.ext hE1)) ?_
  rintro v w2 ⟨rfl, hE2⟩
  have hE02 := hE1.trans hE2
  refine Cond.mk (fun g1 => ?_) (fun g1 => ?_)
  · exact And.intro rfl hE02
  obtain ⟨-, b2, b3⟩ := not_great g1
  refine LoopVC.mk (X := Nat × Value × List RPt) (fun x => [(0, vt), (1, .slice o l.length c), (2, .int .i64 turn), (7, x.2.1), (8, .int .i64 l.length), (9, .int .i64 x.1)])
    (fun x w' => Ext w w' ∧ x.1 ≤ l.length ∧ Vec w' w.heap.size 41 4 x.2.1 (x.2.2.map RPt.cells) ∧ PtsAt w x.2.2 (ordK l s x.1)) (fun x => l.length - x.1) (0, .slice none 0 0, [])
    ⟨hE02, Nat.zero_le _, Vec.nil _ _ _ _, ⟨rfl, fun i r p h => by simp at h⟩⟩ ⟨rfl, rfl, rfl, rfl, rfl, rfl, trivial⟩ ?_
  rintro ⟨k, vo, outs⟩ w3 ⟨hE, hk, hv, hp⟩
  simp only at hk hv hp ⊢
  refine Cond.dec (fun g2 => ?_) (fun g2 => ?_)
  · have hkl : k < l.length := by omega
    have hpb := pick_bounds turn l.length (by omega)
    refine RunN.mk _ _ (run_max2 _ _ _ _ _ _) ?_
    rw [if_neg (by omega)]
    refine CallN.mk _ (Pick_con turn l.length w3 htn (by omega)) ?_
    rintro v w4 ⟨hv4, hw4⟩
    subst hv4 hw4
    refine Ar.i64 (by omega) ?_
    refine Need.mk (by omega) ?_
    obtain ⟨F, hF⟩ : ∃ F : Nat, F = (k + s) % l.length := ⟨_, rfl⟩
    have hFl : F < l.length := by rw [hF]; exact Nat.mod_lt _ (by omega)
    have hFi : ((k : Int) + pick turn l.length).tmod l.length = (F : Int) := by
      rw [hF, show (k : Int) + pick turn l.length = ((k + s : Nat) : Int) by omega]
      rfl
    rw [hFi]
    have hf : firstO l s k = l[F] := by
      unfold firstO
      rw [← hF, List.getD_eq_getElem?_getD, List.getElem?_eq_getElem hFl]
      rfl
    obtain ⟨oo, co, hvo, v1, v2, v3, v4, v5⟩ := hv.shape
    simp only [List.length_map] at hvo v1
    subst hvo
    have hol := hp.1
    have hlen := ordK_len l s k
    have hkk : k * l.length ≤ 100 * 100 := Nat.mul_le_mul (by omega) (by omega)
    refine LoopVC.mk (X := Nat) (fun i => [(0, vt), (1, .slice o l.length c), (2, .int .i64 turn), (7, .slice oo outs.length co), (8, .int .i64 l.length), (9, .int .i64 k), (10, .int .i64 F), (11, .bool (((ordK l s k).take i).any fun q => sameC q l[F])), (12, .int .i64 i)])
      (fun i w' => Ext w4 w' ∧ i ≤ outs.length) (fun i => outs.length - i) 0 ⟨Ext.refl _, Nat.zero_le _⟩ ⟨rfl, rfl, rfl, rfl, rfl, rfl, rfl, rfl, rfl, trivial⟩ ?_
    rintro i w5 ⟨hE5, hi⟩
    refine Cond.dec (fun g3 => ?_) (fun g3 => ?_)
    · have hil : i < outs.length := by omega
      have hio : i < (ordK l s k).length := by omega
      have hstep : ((ordK l s k).take (i + 1)).any (fun q => sameC q l[F]) = (((ordK l s k).take i).any (fun q => sameC q l[F]) || sameC (ordK l s k)[i] l[F]) := by
        rw [List.take_succ_eq_append_getElem hio, List.any_append]
        simp
      obtain ⟨a1, ha1, hc1⟩ := v4.ext (hE5.trans (Ext.drew w5)) i (outs[i]).cells (by simp [hil])
      cases ha1
      obtain ⟨a2, ha2, hc2⟩ := hcel _ ((hE.trans hE5).trans (Ext.drew w5)) F hFl
      cases ha2
      have hp2 := hrow F hFl
      generalize rs[F] = r2 at *
      have hp1 := hp.2 i (outs[i]) ((ordK l s k)[i]) (List.getElem?_eq_getElem hil) (List.getElem?_eq_getElem hio)
      have k1 : (outs[i]).cells[0]? = some (.int .u8 ((ordK l s k)[i]).kind) := by rw [← hp1.kind]; rfl
      have t1 : (outs[i]).cells[1]? = some (.int .i64 ((ordK l s k)[i]).target) := by rw [← hp1.target]; rfl
      have k2 : r2.cells[0]? = some (.int .u8 (l[F]).kind) := by rw [← hp2.kind]; rfl
      have t2 : r2.cells[1]? = some (.int .i64 (l[F]).target) := by rw [← hp2.target]; rfl
      generalize hq : (ordK l s k)[i] = q at *
      generalize hff : l[F] = f at *
      generalize hb : ((ordK l s k).take i).any (fun q => sameC q f) = b at *
      refine DrawVC.mk tab_ok mixed (allT 0 28) [] (by kernel_rfl) (fun w' => w' = w5.drew) rfl ?_
      cases b with
      | true =>
        repeat (first | refine Grd.missF ?_ | refine Grd.missT ?_ | refine Grd.hit ?_)
        refine Ar.i64 (by omega) ?_
        refine ⟨i + 1, ⟨hE5.trans (Ext.drew w5), by omega⟩, by omega, rfl, rfl, rfl, rfl, rfl, rfl, rfl, ?_, rfl, trivial⟩
        rw [hstep]
        rfl
      | false =>
        rw [Bool.false_or] at hstep
        repeat (first | refine Grd.missF ?_ | refine Grd.missT ?_ | refine Grd.hit ?_)
        refine Idx.mk a1 rfl (by omega) (by omega) ?_
        repeat (first | refine Grd.missF ?_ | refine Grd.missT ?_ | refine Grd.hit ?_)
        refine Load.here (hc1.one (k := 0) k1) ?_
        repeat (first | refine Grd.missF ?_ | refine Grd.missT ?_ | refine Grd.hit ?_)
        refine Idx.mk a2 rfl (by omega) (by omega) ?_
        repeat (first | refine Grd.missF ?_ | refine Grd.missT ?_ | refine Grd.hit ?_)
        refine Load.here (hc2.one (k := 0) k2) ?_
        repeat (first | refine Grd.missF ?_ | refine Grd.missT ?_ | refine Grd.hit ?_)
        refine Grd.decT (fun g4 => ?_) (fun g4 => ?_)
        · repeat (first | refine Grd.missF ?_ | refine Grd.missT ?_ | refine Grd.hit ?_)
          refine Idx.mk a1 rfl (by omega) (by omega) ?_
          repeat (first | refine Grd.missF ?_ | refine Grd.missT ?_ | refine Grd.hit ?_)
          refine Load.here (hc1.one (k := 1) t1) ?_
          repeat (first | refine Grd.missF ?_ | refine Grd.missT ?_ | refine Grd.hit ?_)
          refine Idx.mk a2 rfl (by omega) (by omega) ?_
          repeat (first | refine Grd.missF ?_ | refine Grd.missT ?_ | refine Grd.hit ?_)
          refine Load.here (hc2.one (k := 1) t2) ?_
          repeat (first | refine Grd.missF ?_ | refine Grd.missT ?_ | refine Grd.hit ?_)
          refine Ar.i64 (by omega) ?_
          refine ⟨i + 1, ⟨hE5.trans (Ext.drew w5), by omega⟩, by omega, rfl, rfl, rfl, rfl, rfl, rfl, rfl, ?_, rfl, trivial⟩
          rw [hstep]
          unfold sameC
          rw [decide_eq_true g4, Bool.true_and]
          rfl
        · repeat (first | refine Grd.missF ?_ | refine Grd.missT ?_ | refine Grd.hit ?_)
          refine Ar.i64 (by omega) ?_
          refine ⟨i + 1, ⟨hE5.trans (Ext.drew w5), by omega⟩, by omega, rfl, rfl, rfl, rfl, rfl, rfl, rfl, ?_, rfl, trivial⟩
          rw [hstep]
          unfold sameC
          rw [decide_eq_false g4, Bool.false_and]
          rfl
    · have hio : i = (ordK l s k).length := by omega
      rw [hio, List.take_length]
      have hstep : ordK l s (k + 1) = if (ordK l s k).any (fun q => sameC q l[F]) then ordK l s k else ordK l s k ++ clsF l l[F] := by
        show ordStep l (ordK l s k) (firstO l s k) = _
        rw [hf]
        rfl
      generalize hb : (ordK l s k).any (fun q => sameC q l[F]) = b at *
      cases b with
      | true =>
        rw [if_pos rfl] at hstep
        refine LoopVC.mk (X := Unit) (fun _ => [(0, vt), (1, .slice o l.length c), (2, .int .i64 turn), (7, .slice oo outs.length co), (8, .int .i64 l.length), (9, .int .i64 k), (10, .int .i64 F), (11, .bool true), (13, .int .i64 0)])
          (fun _ w' => w' = w5) (fun _ => 0) () rfl ⟨rfl, rfl, rfl, rfl, rfl, rfl, rfl, rfl, rfl, trivial⟩ ?_
        rintro ⟨⟩ w6 hw6
        subst hw6
        refine Grd.decT (fun g4 => ?_) (fun g4 => ?_)
        · repeat (first | refine Grd.missF ?_ | refine Grd.missT ?_ | refine Grd.hit ?_)
          refine Cond.no ?_
          refine Ar.i64 (by omega) ?_
          refine ⟨(k + 1, .slice oo outs.length co, outs), ⟨hE.trans hE5, by simp only; omega, hv.ext hE5, by simp only; rw [hstep]; exact hp⟩, by simp only; omega, rfl, rfl, rfl, rfl, rfl, rfl, trivial⟩
        · omega
      | false =>
        rw [if_neg (by simp)] at hstep
        refine LoopVC.mk (X := Nat × Value × List RPt) (fun x => [(0, vt), (1, .slice o l.length c), (2, .int .i64 turn), (7, x.2.1), (8, .int .i64 l.length), (9, .int .i64 k), (10, .int .i64 F), (11, .bool false), (13, .int .i64 x.1)])
          (fun x w' => Ext w w' ∧ x.1 ≤ l.length ∧ Vec w' w.heap.size 41 4 x.2.1 (x.2.2.map RPt.cells) ∧ PtsAt w x.2.2 (ordK l s k ++ clsF (l.take x.1) l[F])) (fun x => l.length - x.1) (0, .slice oo outs.length co, outs)
          ⟨hE.trans hE5, Nat.zero_le _, hv.ext hE5, by simpa [clsF] using hp⟩ ⟨rfl, rfl, rfl, rfl, rfl, rfl, rfl, rfl, rfl, trivial⟩ ?_
        rintro ⟨j, vo2, outs2⟩ w6 ⟨hE6, hj, hv6, hp6⟩
        simp only at hj hv6 hp6 ⊢
        refine Grd.decT (fun g4 => ?_) (fun g4 => ?_)
        · have hjl : j < l.length := by omega
          have hcs : clsF (l.take (j + 1)) l[F] = clsF (l.take j) l[F] ++ (if sameC l[j] l[F] = true then [l[j]] else []) := by
            rw [List.take_succ_eq_append_getElem hjl, clsF_append]
            congr 1
            unfold clsF
            rw [List.filter_cons, List.filter_nil]
          repeat (first | refine Grd.missF ?_ | refine Grd.missT ?_ | refine Grd.hit ?_)
          refine Cond.yes ?_
          obtain ⟨a1, ha1, hc1⟩ := hcel _ (hE6.trans (Ext.drew w6)) j hjl
          obtain ⟨a2, ha2, hc2⟩ := hcel _ (hE6.trans (Ext.drew w6)) F hFl
          have hp1 := hrow j hjl
          have hp2 := hrow F hFl
          have hjr : rs[j]? = some (rs[j]'(by omega)) := List.getElem?_eq_getElem (by omega)
          rw [ha1] at ha2
          cases ha2
          subst ha1
          have k1 : (rs[j]'(by omega)).cells[0]? = some (.int .u8 (l[j]).kind) := by rw [← hp1.kind]; rfl
          have t1 : (rs[j]'(by omega)).cells[1]? = some (.int .i64 (l[j]).target) := by rw [← hp1.target]; rfl
          have k2 : (rs[F]'(by omega)).cells[0]? = some (.int .u8 (l[F]).kind) := by rw [← hp2.kind]; rfl
          have t2 : (rs[F]'(by omega)).cells[1]? = some (.int .i64 (l[F]).target) := by rw [← hp2.target]; rfl
          have hE7 := hE6.trans (Ext.drew w6)
          have hv7 := hv6.ext (Ext.drew w6)
          have hol2 := hp6.1
          rw [List.length_append] at hol2
          have hcl2 : (clsF (l.take j) l[F]).length ≤ j := by
            have := List.length_filter_le (fun q => sameC q l[F]) (l.take j)
            unfold clsF
            rw [List.length_take] at this
            omega
          have miss : sameC l[j] l[F] = false → PtsAt w outs2 (ordK l s k ++ clsF (l.take (j + 1)) l[F]) := fun h => by
            rw [hcs, h]
            simpa using hp6
          refine DrawVC.mk tab_ok mixed (allT 0 24) [] (by kernel_rfl) (fun w' => w' = w6.drew) rfl ?_
          refine Idx.mk a1 rfl (by omega) (by omega) ?_
          refine Load.here (hc1.one (k := 0) k1) ?_
          refine Idx.mk a1 rfl (by omega) (by omega) ?_
          refine Load.here (hc2.one (k := 0) k2) ?_
          refine Grd.decT (fun g5 => ?_) (fun g5 => ?_)
          · repeat (first | refine Grd.missF ?_ | refine Grd.missT ?_ | refine Grd.hit ?_)
            refine Idx.mk a1 rfl (by omega) (by omega) ?_
            repeat (first | refine Grd.missF ?_ | refine Grd.missT ?_ | refine Grd.hit ?_)
            refine Load.here (hc1.one (k := 1) t1) ?_
            repeat (first | refine Grd.missF ?_ | refine Grd.missT ?_ | refine Grd.hit ?_)
            refine Idx.mk a1 rfl (by omega) (by omega) ?_
            repeat (first | refine Grd.missF ?_ | refine Grd.missT ?_ | refine Grd.hit ?_)
            refine Load.here (hc2.one (k := 1) t2) ?_
            repeat (first | refine Grd.missF ?_ | refine Grd.missT ?_ | refine Grd.hit ?_)
            refine Cond.dec (fun g6 => ?_) (fun g6 => ?_)
            · have hsame : sameC l[j] l[F] = true := by simp [sameC, g5, g6]
              rw [hsame, if_pos rfl] at hcs
              refine Idx.mk a1 rfl (by omega) (by omega) ?_
              refine Load.here (hc1.all' rfl) ?_
              obtain ⟨⟨rk, rt, rx, rn⟩, hr⟩ : ∃ r : RPt, r = rs[j]'(by omega) := ⟨_, rfl⟩
              rw [← hr] at hp1 ⊢
              obtain ⟨on, cn, hnv, -, -, -, -⟩ := hp1.nodes.open_
              simp only at hnv
              subst hnv
              refine RunW.mk _ _ (run_buildPart _ _ _ _ _ _ _) ?_
              obtain ⟨w7, hw7⟩ : ∃ w', w' = w6.drew := ⟨_, rfl⟩
              rw [← hw7] at hE7 hv7 ⊢
              obtain ⟨w8, hw8⟩ : ∃ w', w' = w7.alloc (.cells #[.int .u8 rk, .int .i64 rt, .string rx, .slice on (l[j]).nodes.length cn] 41) := ⟨_, rfl⟩
              rw [← hw8]
              have n8 : NewB w7 w7.heap.size (RPt.cells ⟨rk, rt, rx, .slice on (l[j]).nodes.length cn⟩) 41 w8 := ⟨rfl, hw8⟩
              refine RunN.append elemPart w.heap.size (outs2.map RPt.cells) [RPt.cells ⟨rk, rt, rx, .slice on (l[j]).nodes.length cn⟩] (hv7.ext n8.ext) (sl_of_new n8) (by
                intro y hy
                rw [List.mem_singleton.1 hy]
                exact ⟨rfl, fun u hu => by
                  simp only [RPt.cells, List.mem_cons, List.not_mem_nil, or_false] at hu
                  rcases hu with rfl | rfl | rfl | rfl <;> rfl⟩) (by simp; omega) (by simp; omega) (Nat.le_trans hE7.sz n8.ext.sz) fun vo3 w9 hva har => ?_
              have hE9 : Ext w w9 := Below.trans (hE7.trans n8.ext) (har.below (Nat.le_trans hE7.sz n8.ext.sz) fun b hb => (hv7.ge hb).1)
              refine Ar.i64 (by omega) ?_
              refine ⟨(j + 1, vo3, outs2 ++ [⟨rk, rt, rx, .slice on (l[j]).nodes.length cn⟩]), ⟨hE9, by simp only; omega, by simpa using hva, ?_⟩, by simp only; omega, rfl, rfl, rfl, rfl, rfl, rfl, rfl, rfl, rfl, trivial⟩
              simp only
              rw [hcs, ← List.append_assoc]
              refine ⟨by rw [List.length_append, List.length_append, hp6.1]; rfl, fun i r p i1 i2 => ?_⟩
              have hl6 := hp6.1
              by_cases hi : i < outs2.length
              · rw [List.getElem?_append_left hi] at i1
                rw [List.getElem?_append_left (by omega)] at i2
                exact hp6.2 i r p i1 i2
              · rw [List.getElem?_append_right (by omega)] at i1
                rw [List.getElem?_append_right (by omega)] at i2
                rw [← hl6] at i2
                rcases hd : i - outs2.length with _ | m
                · rw [hd] at i1 i2
                  cases i1
                  cases i2
                  exact hp1
                · rw [hd] at i1; cases i1
            · refine Ar.i64 (by omega) ?_
              refine ⟨(j + 1, vo2, outs2), ⟨hE7, by simp only; omega, hv7, miss (by simp [sameC, g6])⟩, by simp only; omega, rfl, rfl, rfl, rfl, rfl, rfl, rfl, rfl, rfl, trivial⟩
          · repeat (first | refine Grd.missF ?_ | refine Grd.missT ?_ | refine Grd.hit ?_)
            refine Cond.no ?_
            refine Ar.i64 (by omega) ?_
            refine ⟨(j + 1, vo2, outs2), ⟨hE7, by simp only; omega, hv7, miss (by simp [sameC, g5])⟩, by simp only; omega, rfl, rfl, rfl, rfl, rfl, rfl, rfl, rfl, rfl, trivial⟩
        · have hjl : j = l.length := by omega
          repeat (first | refine Grd.missF ?_ | refine Grd.missT ?_ | refine Grd.hit ?_)
          refine Cond.no ?_
          refine Ar.i64 (by omega) ?_
          refine ⟨(k + 1, vo2, outs2), ⟨hE6, by simp only; omega, hv6, ?_⟩, by simp only; omega, rfl, rfl, rfl, rfl, rfl, rfl, trivial⟩
          simp only
          rw [hstep]
          rw [hjl, List.take_length] at hp6
          exact hp6
  · have hkl : k = l.length := by omega
    rw [hkl] at hp
    have hR := ordK_reord l s
    generalize ordK l s l.length = ot at *
    have hlo : outs.length = l.length := by rw [hp.1]; exact hR.len
    obtain ⟨oo, co, hvo, v1, v2, v3, v4, v5⟩ := hv.shape
    simp only [List.length_map] at hvo v1
    have hO : PartsAt w3 vo ot := by
      refine ⟨⟨outs, hv.sl, hp.ext hE⟩, ?_⟩
      have := hp.1
      omega
    subst hvo
    refine Cond.ndec (fun g3 => absurd (by omega) g3) (fun g3 => ?_)
    have hw : ∀ p ∈ l, -9223372036854775808 ≤ p.target ∧ p.target ≤ 9223372036854775807 := fun p hp => by
      obtain ⟨i, hi, rfl⟩ := List.mem_iff_getElem.1 hp
      exact (hrow i hi).wtarget
    have hnl : ∀ p ∈ l, p.nodes.length ≤ 100000 := fun p hp => Nat.le_trans (b3 p hp) (by decide)
    have hno : ∀ p ∈ ot, p.nodes.length ≤ 100000 := fun p hp => hnl p (hR.mem.1 hp)
    refine CallN.mk _ (Apply_con vt _ t l w3 (ht.ext hE) (hl.ext hE) (hG.ext hE) hnl) ?_
    rintro v w4 ⟨va, hva, -, hN4, hE4⟩
    subst hva
    have hE04 := hE.trans hE4
    refine CallN.mk _ (Apply_con vt _ t ot w4 (ht.ext hE04) (hO.ext hE4) (hG.ext hE04) hno) ?_
    rintro v w5 ⟨vb, hvb, -, hN5, hE5⟩
    subst hvb
    have hE05 := hE04.trans hE5
    obtain ⟨a1, a2⟩ := hR.apply hw t
    refine CallN.mk _ (SameNodes_con (hN4.ext hE5) hN5) ?_
    rintro v w6 ⟨rfl, hE6⟩
    have hE06 := hE05.trans hE6
    refine Grd.decT (fun _ => ?_) (fun g => absurd a1 g)
    repeat (first | refine Grd.missF ?_ | refine Grd.missT ?_ | refine Grd.hit ?_)
    have he : decide ((applyP t l).1 = 0) = decide ((applyP t ot).1 = 0) := decide_eq_decide.2 a2
    refine RunQ.here (v := .bool true) (by rw [run_eqBool, he, beq_self_eq_true]) ?_
    repeat (first | refine Grd.missF ?_ | refine Grd.missT ?_ | refine Grd.hit ?_)
    · refine CallN.mk _ (Merge10_con _ ot w6 (hO.ext (((hE4.trans hE5)).trans hE6)) (hG.ext hE06) (by rw [hR.len]; omega) (fun p hp => Nat.le_trans (hno p hp) (by decide))) ?_
      rintro v w7 ⟨outs7, hO7, hE7⟩
      have hE07 := hE06.trans hE7
      repeat (first | refine Grd.missF ?_ | refine Grd.missT ?_ | refine Grd.hit ?_)
      refine CallN.mk _ (Merge10_con _ l w7 (hl.ext hE07) (hG.ext hE07) (by omega) (fun p hp => Nat.le_trans (hnl p hp) (by decide))) ?_
      rintro v' w8 ⟨outs8, hO8, hE8⟩
      have hE08 := hE07.trans hE8
      repeat (first | refine Grd.missF ?_ | refine Grd.missT ?_ | refine Grd.hit ?_)
      rw [hR.merge hw] at hO7
      refine CallN.mk _ (SameParts_con ((hO7.ext hE8).parts (by have := mergeP_len l; omega)) (hO8.parts (by have := mergeP_len l; omega))) ?_
      rintro v w9 ⟨rfl, hE9⟩
      repeat (first | refine Grd.missF ?_ | refine Grd.missT ?_ | refine Grd.hit ?_)
      exact And.intro (by simp [tupleOf]) (hE08.trans hE9)
end Go.Proofs.YtelffdgcikceaaaGreatDoor
end

/- PendingOrder: for every tree, all parts and every turn, with the tables as the program's text lays them, the law returns true and changes nothing that was there. -/
section
set_option linter.unusedSimpArgs false
set_option linter.unusedVariables false
set_option maxRecDepth 100000
namespace Go.Proofs.YtelffdgcikceaaaGreatDoor
open Go.V Go.ChangeShapes Go.WideShapes Go.ChangeAt Go.RowKit


theorem order_lifted (os : Os) (started : os.Started) (H : Type) (enc : TypeId × Value → H) :
    ReturnsInHanded {} Tryz.checked os 5 .any (fun w args => (Rows.pendingOrderSpec.pre enc Tryz.prog Tryz.f5 [] false w args ∧ laidMetH Tryz.prog Rows.pendingOrderRow.laid w) ∧ sizedMet enc Tryz.prog Tryz.f5 (OpenSpec.ofChange Rows.pendingOrderSpec) false w args)
      (Rows.pendingOrderSpec.post enc Tryz.prog Tryz.f5 false true false false) := by
  refine handed_shaped (C := Tryz.checked) (X := fun w _ => laidMetH Tryz.prog Rows.pendingOrderRow.laid w) (fun _ _ _ hh h => h.of_heap hh) own started (by kernel_rfl) Tryz.func5
    (ChangeSpec.witness_shaped (enc := enc) (C := Tryz.checked) (os := os) (X := fun w _ => laidMetH Tryz.prog Rows.pendingOrderRow.laid w) false (World.laidAll Tryz.prog os Rows.pendingOrderRow.laid) #[.slice none 0 0, .slice none 0 0, .int .i64 0] 8 (World.laidAll_os _ _ _)
      (World.shaped_of_ZipB (by kernel_rfl) (by kernel_rfl)) (by kernel_rfl) (by kernel_rfl) (by kernel_rfl)
      (by rw [MakeChecks.laidMetH_plain _ _ _ (by kernel_rfl)]; exact laidMet_laidAll _ (by kernel_rfl) (by kernel_rfl))) ?_
  intro W base args ds gs before hsh hval0 hW hsz hL
  have hval : ∀ (j : Nat) t v, Tryz.f5.params[j]? = some t → args[j]? = some v → Value.okWide Tryz.prog W .any base t v := hval0
  have hW' := hW
  obtain ⟨p, q, hA0, hV, rfl, hfz, hnd⟩ := hW
  have hA : DataW.TrodAll enc Tryz.prog W 0 (fun _ => true) true Tryz.f5.params.toList args.toList ds p := hA0
  rw [Tryz.params5] at hA hval hsz
  obtain ⟨v0, v1, v2, d0, d1, d2, p0, p1, p2, rfl, rfl, rfl, h0, h1, h2⟩ := trodAll_three hA
  obtain ⟨rfl, rfl⟩ := trodVars_none hV
  obtain ⟨a0, l0, c0, rfl⟩ := okWide_slice und31 (hval 0 31 v0 rfl rfl)
  obtain ⟨a1, l1, c1, rfl⟩ := okWide_slice und22 (hval 1 22 v1 rfl rfl)
  obtain ⟨turn, rfl, rfl, rfl, wx⟩ := open_int und3 (hval 2 3 v2 rfl rfl) h2
  have htn : IntKind.i64.min ≤ turn ∧ turn ≤ IntKind.i64.max := by simpa [Lit.wf] using wx
  have hwt : ∀ k ∈ DataW.weightsEach Tryz.prog ([31, 22, 3] ++ Rows.pendingOrderSpec.plain.varTypes Tryz.prog) ([d0, d1, .lit (.int .i64 turn)] ++ []), k ≤ reachBytes := fun k hk => by simpa using List.all_eq_true.1 hsz k hk
  have lt0 : ∀ x ∈ p0, x.block < W.heap.size := by obtain ⟨m, hm⟩ := h0; exact DataW.trod_lt m _ _ _ hm
  have lt1 : ∀ x ∈ p1, x.block < W.heap.size := by obtain ⟨m, hm⟩ := h1; exact DataW.trod_lt m _ _ _ hm
  obtain ⟨t, ht⟩ : ∃ t, NodesAt W (.slice a0 l0 c0) t := by
    obtain ⟨fuel, hf⟩ := h0
    exact nodes_of nodesTy (x := (d0, p0)) (by simpa [Value.cells] using hf) (fun k hk => hwt k (List.mem_append.2 (.inl hk)))
  obtain ⟨l, hl⟩ : ∃ l, PartsAt W (.slice a1 l1 c1) l := by
    obtain ⟨fuel, hf⟩ := h1
    exact parts_of partsTy (x := (d1, p1)) (by simpa [Value.cells] using hf) (fun k hk => hwt k (List.mem_append.2 (.inr (List.mem_append.2 (.inl hk)))))
  have hG := glob_of_laid hL hsh
  refine (Order_con _ _ turn t l W ht hl hG htn).calls.mono fun e W' ⟨v, he, hv, bel⟩ => ?_
  subst he hv
  exact ⟨_, rfl, _, _, _, [], _, [], hW', trodAll_mk1 (shut_bool Tryz.underlying4 _), (trodAll_cons_mk (Below.trod laidOut (by kernel_rfl) (of_decide_eq_true (by kernel_rfl)) h0 bel lt0) (trodAll_cons_mk (Below.trod laidOut (by kernel_rfl) (of_decide_eq_true (by kernel_rfl)) h1 bel lt1) (trodAll_cons_mk (shut_int und3 wx) trodAll_mk0))), rfl, bel.frame _, fun h => by cases h⟩

theorem order_row : Rows.PendingOrderSaid :=
  OpenClaim.holds_of_wide 5 Tryz.f5 rfl rfl rfl rfl rfl rfl rfl ⟨rfl, rfl, rfl, rfl, rfl⟩ rfl rfl rfl rfl rfl (by kernel_rfl) Tryz.func5 (by kernel_rfl)
    (of_decide_eq_true (by kernel_rfl)) (by unfold Func.isWrapper; first | (rw [if_pos (by decide +kernel)]; kernel_rfl) | (rw [if_neg (by decide +kernel)]; exact ⟨rfl, rfl⟩))
    (fun os started H enc _ => order_lifted os started H enc)
/-- The tied card of PendingOrder. -/
theorem order_holds : Rows.PendingOrderCardSaid :=
  Claim7.holds_tied_plain_at .later [] [.data, .data, .data, .widerDeep, .widerDeep, .data, .data, .pinned, .pinned] true (true, "ee184132c1015bfbbf946d45624b9aef1c959002604530e9b3b0d51ffbb17bba") false order_row (fun _ h => by cases h) (by kernel_rfl) (fun _ h => by cases h) pendingOrder_row_tie rfl ⟨rfl, rfl⟩ (by kernel_rfl) rfl
    (fun f fn hf hfn => by
      obtain rfl : f = 5 := Option.some.inj ((show Tryz.prog.funcNamed Rows.pendingOrderRow.func = some 5 by kernel_rfl).symm.trans hf) |>.symm
      obtain rfl : fn = Tryz.f5 := (Option.some.inj (Tryz.func5.symm.trans hfn)).symm
      exact ⟨by kernel_rfl, fun j t ht => by
        rw [Tryz.params5] at ht
        have hm : t ∈ [31, 22, 3] := by simpa using Array.mem_of_getElem? ht
        have hall : ([31, 22, 3].all fun u => !Tryz.prog.wantsStandIn u) = true := by kernel_rfl
        exact (show Tryz.prog.wantsStandIn t = false by simpa using List.all_eq_true.1 hall t hm)⟩)
    (by kernel_rfl)
#print axioms order_holds
end Go.Proofs.YtelffdgcikceaaaGreatDoor
end
