/- PendingRight: for every tree and all parts, with the tables as the program's text lays them, the law returns true and changes nothing that was there. -/
import Derived.Test.YtelffdgcikceaaaGreatDoorXB6
import Derived.Test.YtelffdgcikceaaaGreatDoorTie
import Derived.Test.YtelffdgcikceaaaGreatDoorCards
import Derived.SevenTiedAt

/- Plain: rows in order, and what is made of them by lists of children. -/
section
set_option linter.unusedSimpArgs false
set_option linter.unusedVariables false
namespace Go.Proofs.YtelffdgcikceaaaGreatDoor
open Go.V

/-! ### Rows in order: f tells the parent -/
inductive Anc (f : Nat → Nat) : Nat → Nat → Prop
  | refl (i : Nat) : Anc f i i
  | step (i q : Nat) (h0 : 0 < i) (h : Anc f (f i) q) : Anc f i q

structure Pre (f : Nat → Nat) (N : Nat) : Prop where
  lt : ∀ i, 0 < i → i < N → f i < i
  anc : ∀ i, 0 < i → i < N → Anc f (i - 1) (f i)

theorem Anc.le {f : Nat → Nat} {N : Nat} (hP : Pre f N) {m q : Nat} (h : Anc f m q) : m < N → q ≤ m := by
  induction h with
  | refl i => intro _; exact Nat.le_refl _
  | step i q h0 _ ih =>
    intro hi
    have := hP.lt i h0 hi
    have := ih (by omega)
    omega
theorem Anc.through {f : Nat → Nat} {N : Nat} (hP : Pre f N) {m q : Nat} (h : Anc f m q) : ∀ c, m < N → c ≤ m → (∀ x, c < x → x ≤ m → c ≤ f x) → c ≤ q ∨ Anc f c q := by
  induction h with
  | refl i => intro c _ hc _; exact .inl hc
  | step i q h0 h ih =>
    intro c hi hc hx
    by_cases e : c = i
    · subst e; exact .inr (.step _ _ h0 h)
    · have h1 := hP.lt i h0 hi
      exact ih c (by omega) (hx i (by omega) (Nat.le_refl _)) (fun x h2 h3 => hx x h2 (by omega))

/-- All that is below i, from i on. -/
structure Seg (f : Nat → Nat) (N i e : Nat) : Prop where
  lt : i < e
  le : e ≤ N
  ge : ∀ m, i < m → m < e → i ≤ f m
  end_ : e = N ∨ f e < i
theorem seg_from (f : Nat → Nat) (N i : Nat) : ∀ (d j : Nat), j + d = N → i < j → (∀ m, i < m → m < j → i ≤ f m) → ∃ e, Seg f N i e
  | 0, j, hj, h1, h2 => ⟨j, h1, by omega, h2, .inl (by omega)⟩
  | d + 1, j, hj, h1, h2 => by
    by_cases g : f j < i
    · exact ⟨j, h1, by omega, h2, .inr g⟩
    · exact seg_from f N i d (j + 1) (by omega) (by omega) (fun m h3 h4 => by
        by_cases e : m = j
        · subst e; omega
        · exact h2 m h3 (by omega))
theorem seg_ex {f : Nat → Nat} {N i : Nat} (h : i < N) : ∃ e, Seg f N i e := seg_from f N i (N - (i + 1)) (i + 1) (by omega) (by omega) (fun m h1 h2 => by omega)

theorem next_child {f : Nat → Nat} {N i c e : Nat} (hP : Pre f N) (hs : Seg f N c e) (hc : 0 < c) (he : e < N) (hi : f c = i) (hge : i ≤ f e) : f e = i := by
  have h1 := hs.lt
  have h2 : f e < c := by
    rcases hs.end_ with h | h
    · omega
    · exact h
  have ha := (hP.anc e (by omega) he).through hP c (by omega) (by omega) (fun x h3 h4 => hs.ge x h3 (by omega))
  rcases ha with h | h
  · omega
  · have h5 := hP.lt c hc (by omega)
    cases h with
    | refl => omega
    | step _ _ _ h =>
      have := h.le hP (by omega)
      omega
theorem no_return {f : Nat → Nat} {N i e : Nat} (hP : Pre f N) (hs : Seg f N i e) : ∀ (k a : Nat), a ≤ k → e ≤ a → a < N → ∀ b, Anc f a b → b < i ∨ e ≤ b := by
  intro k
  induction k with
  | zero =>
    intro a h1 h2 h3
    have := hs.lt
    omega
  | succ k ih =>
    intro a h1 h2 h3 b hb
    have h4 := hs.lt
    cases hb with
    | refl => exact .inr h2
    | step _ _ h0 hb =>
      have h5 := hP.lt a h0 h3
      have h6 : f a < i ∨ e ≤ f a := by
        by_cases g : a = e
        · subst g
          rcases hs.end_ with h | h
          · omega
          · exact .inl h
        · exact ih (a - 1) (by omega) (by omega) (by omega) _ (hP.anc a h0 h3)
      rcases h6 with h6 | h6
      · have := hb.le hP (by omega)
        exact .inl (by omega)
      · exact ih (f a) (by omega) h6 (by omega) b hb
theorem no_return' {f : Nat → Nat} {N i e m : Nat} (hP : Pre f N) (hs : Seg f N i e) (h1 : e ≤ m) (h2 : m < N) : f m ≠ i := fun h => by
  have h4 := hs.lt
  have h5 := hP.lt m (by omega) h2
  have := no_return hP hs m m (Nat.le_refl _) h1 h2 (f m) (.step _ _ (by omega) (.refl _))
  omega

/-- The children of i from c on. -/
def chFrom (f : Nat → Nat) (N i c : Nat) : List Nat := (List.range' c (N - c)).filter (fun j => decide (f j = i))
theorem ch_none {f : Nat → Nat} {N i c : Nat} (h : ∀ j, c ≤ j → j < N → f j ≠ i) : chFrom f N i c = [] := by
  unfold chFrom
  rw [List.filter_eq_nil_iff]
  intro j hj
  rw [List.mem_range'_1] at hj
  simpa using h j hj.1 (by omega)
theorem ch_cons {f : Nat → Nat} {N i c c' : Nat} (h0 : f c = i) (h1 : c < c') (h2 : c' ≤ N) (h : ∀ j, c < j → j < c' → f j ≠ i) : chFrom f N i c = c :: chFrom f N i c' := by
  unfold chFrom
  obtain ⟨d, rfl⟩ : ∃ d, c' = c + 1 + d := ⟨c' - c - 1, by omega⟩
  have e : List.range' c (N - c) = c :: (List.range' (c + 1) d ++ List.range' (c + 1 + d) (N - (c + 1 + d))) := by
    have h1 := List.range'_append (s := c + 1) (m := d) (n := N - (c + 1 + d)) (step := 1)
    rw [Nat.one_mul] at h1
    rw [h1, ← List.range'_succ]
    congr 1
    omega
  rw [e, List.filter_cons, if_pos (by simpa using h0), List.filter_append]
  have : (List.range' (c + 1) d).filter (fun j => decide (f j = i)) = [] := by
    rw [List.filter_eq_nil_iff]
    intro j hj
    rw [List.mem_range'_1] at hj
    simpa using h j (by omega) (by omega)
  rw [this, List.nil_append]

/-! ### Nodes of a row in order give the row -/
/-- The nodes are those of the row. -/
structure TreeOf (t : List Nd) (f : Nat → Nat) (S : List PN) : Prop where
  len : S.length = t.length
  node : ∀ (i : Nat) (h : i < t.length), ∃ s, S[i]? = some s ∧ s.row = t[i] ∧ lists s = chFrom f t.length i (i + 1)
  par : ∀ (i : Nat) (h : i < t.length), 0 < i → (t[i]).parent = f i

theorem withParent_self (x : Nd) : withParent x x.parent = x := rfl
theorem forest {t : List Nd} {f : Nat → Nat} {S : List PN} (hP : Pre f t.length) (n i e : Nat) (hs : Seg f t.length i e) (F : Nat → Int → Nat → List Nd)
    (hF : ∀ c e', i < c → c < t.length → Seg f t.length c e' → F c (f c : Nat) c = (t.drop c).take (e' - c)) :
    ∀ (d c : Nat), e - c ≤ d → i < c → c ≤ e → (c = e ∨ f c = i) → tgL F i c (chFrom f t.length i c) = (t.drop c).take (e - c) := by
  have hle := hs.le
  intro d
  induction d with
  | zero =>
    intro c h1 h2 h3 h4
    have hce : c = e := by omega
    subst hce
    rw [ch_none (fun j hj hjN => no_return' hP hs hj hjN)]
    simp [tgL]
  | succ d ih =>
    intro c h1 h2 h3 h4
    by_cases hce : c = e
    · subst hce
      rw [ch_none (fun j hj hjN => no_return' hP hs hj hjN)]
      simp [tgL]
    · have hci : f c = i := by
        rcases h4 with h | h
        · exact absurd h hce
        · exact h
      have hcN : c < t.length := by omega
      obtain ⟨c', hs'⟩ := seg_ex (f := f) hcN
      have l1 := hs'.lt
      have l2 := hs'.le
      have hce' : c' ≤ e := by
        rcases Nat.lt_or_ge e c' with g | g
        · have := hs'.ge e (by omega) g
          rcases hs.end_ with h | h
          · omega
          · omega
        · exact g
      rw [ch_cons hci l1 (by omega) (fun j h5 h6 h7 => by have := hs'.ge j h5 h6; omega)]
      simp only [tgL]
      have h8 := hF c c' h2 hcN hs'
      rw [hci] at h8
      rw [h8]
      have h9 : ((t.drop c).take (c' - c)).length = c' - c := by simp; omega
      rw [h9, show c + (c' - c) = c' by omega]
      rw [ih c' (by omega) (by omega) hce' (by
        by_cases g : c' = e
        · exact .inl g
        · exact .inr (next_child hP hs' (by omega) (by omega) hci (hs.ge c' (by omega) (by omega))))]
      have : t.drop c' = (t.drop c).drop (c' - c) := by rw [List.drop_drop]; congr 1; omega
      rw [this]
      rw [show e - c = (c' - c) + (e - c') by omega, List.take_add]

theorem tree_rows {t : List Nd} {f : Nat → Nat} {S : List PN} (hP : Pre f t.length) (hT : TreeOf t f S) : ∀ (n i e : Nat) (h : i < t.length), t.length ≤ n + i → Seg f t.length i e → tg S n i (t[i]).parent i = (t.drop i).take (e - i)
  | 0, i, e, h, h1, _ => absurd h1 (by omega)
  | n + 1, i, e, h, h1, hs => by
    obtain ⟨s, hS, hr, hl⟩ := hT.node i h
    have l1 := hs.lt
    have l2 := hs.le
    simp only [tg, hS]
    rw [hr, withParent_self]
    have hl' : s.attrs ++ s.kids = chFrom f t.length i (i + 1) := hl
    rw [hl']
    rw [forest (S := S) hP n i e hs (tg S n) (fun c e' h2 h3 h4 => by
      rw [← hT.par c h3 (by omega)]
      exact tree_rows hP hT n c e' h3 (by omega) h4) (e - (i + 1)) (i + 1) (Nat.le_refl _) (by omega) l1 (by
      by_cases g : i + 1 = e
      · exact .inl g
      · have g2 := hs.ge (i + 1) (by omega) (by omega)
        have g3 := hP.lt (i + 1) (by omega) (by omega)
        exact .inr (by omega))]
    rw [List.drop_eq_getElem_cons h, show e - i = (e - (i + 1)) + 1 by omega, List.take_succ_cons]

/-! ### apart gives such nodes -/
/-- Attributes first. -/
theorem filter_two (p q : Nat → Bool) : ∀ (l : List Nat), l.Pairwise (· < ·) → (∀ x ∈ l, ∀ y ∈ l, p x = true → q y = true → x < y) → (∀ x ∈ l, p x = true → q x = false) →
    l.filter p ++ l.filter q = l.filter (fun x => p x || q x)
  | [], _, _, _ => rfl
  | a :: r, hs, h, hd => by
    have hs' := List.pairwise_cons.1 hs
    have ih := filter_two p q r hs'.2 (fun x hx y hy => h x (List.mem_cons_of_mem _ hx) y (List.mem_cons_of_mem _ hy)) (fun x hx => hd x (List.mem_cons_of_mem _ hx))
    cases hp : p a with
    | true =>
      have hq := hd a List.mem_cons_self hp
      rw [List.filter_cons_of_pos hp, List.filter_cons_of_neg (by rw [hq]; simp), List.filter_cons_of_pos (by rw [hp]; rfl), List.cons_append, ih]
    | false =>
      cases hq : q a with
      | false =>
        rw [List.filter_cons_of_neg (by rw [hp]; simp), List.filter_cons_of_neg (by rw [hq]; simp), List.filter_cons_of_neg (by rw [hp, hq]; simp), ih]
      | true =>
        have hn : r.filter p = [] := by
          rw [List.filter_eq_nil_iff]
          intro x hx hpx
          have h1 := h x (List.mem_cons_of_mem _ hx) a List.mem_cons_self hpx hq
          have h2 := hs'.1 x hx
          omega
        rw [hn, List.nil_append] at ih
        rw [List.filter_cons_of_neg (by rw [hp]; simp), hn, List.filter_cons_of_pos hq, List.filter_cons_of_pos (by rw [hp, hq]; rfl), ih]
        rfl

end Go.Proofs.YtelffdgcikceaaaGreatDoor
end

/- Plain: nothing done to a right row leaves it as it is. -/
section
set_option linter.unusedSimpArgs false
set_option linter.unusedVariables false
namespace Go.Proofs.YtelffdgcikceaaaGreatDoor
open Go.V

def fpar (t : List Nd) (i : Nat) : Nat := (nd t (i : Int)).parent.toNat

theorem chase_neg (t : List Nd) (q : Int) : ∀ (n : Nat) (p : Int), p < 0 → chase t q n p = p
  | 0, _, _ => rfl
  | n + 1, p, h => by
    simp only [chase]
    rw [if_neg (by omega)]
theorem chase_anc {t : List Nd} {q : Int} (hq : 0 ≤ q) (h0 : (nd t ((0 : Nat) : Int)).parent < 0) : ∀ (n : Nat) (p : Int), 0 ≤ p → chase t q n p = q → Anc (fpar t) p.toNat q.toNat
  | 0, p, hp, h => by
    simp only [chase] at h
    rw [h]
    exact .refl _
  | n + 1, p, hp, h => by
    simp only [chase] at h
    split at h
    · rename_i g
      have hpp : (p.toNat : Int) = p := Int.toNat_of_nonneg hp
      have hg : 0 ≤ (nd t p).parent := by
        rcases Int.lt_or_le (nd t p).parent 0 with g2 | g2
        · rw [chase_neg t q n _ g2] at h
          omega
        · exact g2
      have hpos : 0 < p.toNat := by
        rcases Nat.eq_zero_or_pos p.toNat with e | e
        · have : p = ((0 : Nat) : Int) := by omega
          rw [this] at hg
          omega
        · exact e
      have := chase_anc hq h0 n _ hg h
      refine .step _ _ hpos ?_
      unfold fpar
      rw [hpp]
      exact this
    · rw [h]
      exact .refl _

/-- What is known of a right row. -/
structure Right (t : List Nd) : Prop where
  pos : 0 < t.length
  root : (nd t ((0 : Nat) : Int)).parent = -1 ∧ (nd t ((0 : Nat) : Int)).kind = 1
  par : ∀ i : Nat, 0 < i → i < t.length → (nd t (i : Int)).parent = (fpar t i : Int)
  pre : Pre (fpar t) t.length

theorem right_of {t : List Nd} (h : allB t true = 0) : Right t := by
  obtain ⟨h1, h2, h3⟩ := allB_tree h
  have ho := allB_ord h
  have hroot : (nd t ((0 : Nat) : Int)).parent = -1 := by have := ho 0 h1; omega
  have hpar : ∀ i : Nat, 0 < i → i < t.length → (nd t (i : Int)).parent = (fpar t i : Int) := fun i h4 h5 => by
    have := (h3 i h4 h5).1
    unfold fpar
    omega
  refine ⟨h1, ⟨hroot, h2⟩, hpar, ⟨fun i h4 h5 => ?_, fun i h4 h5 => ?_⟩⟩
  · have := (ho i h5).1
    rw [hpar i h4 h5] at this
    omega
  · have hop := of_decide_eq_true (allB_open h h5)
    have hp := hpar i h4 h5
    have := chase_anc (t := t) (q := (nd t (i : Int)).parent) (by omega) (by omega) i ((i : Int) - 1) (by omega) hop
    rw [hp] at this
    rw [show ((i : Int) - 1).toNat = i - 1 by omega] at this
    exact this

/-! ### The last child -/
theorem step_next {t : List Nd} {s s' : CkSt} {k : Nat} (h : stepB t true s k = some s') :
    (k = 0 ∧ s'.last = s.last.set k (-1)) ∨ (0 < k ∧ fitsB t (s.last.set k (-1)) s.top k = true ∧ s'.last = (if (nd t (k : Int)).kind = 3 then s.last.set k (-1) else if (nd t (k : Int)).parent < 0 then s.last.set k (-1) else (s.last.set k (-1)).set (nd t (k : Int)).parent.toNat k)) := by
  unfold stepB at h
  simp only at h
  split at h
  · cases h
  · split at h
    · rename_i g
      split at h
      · cases h; exact .inl ⟨g.2, rfl⟩
      · cases h
    · rename_i g
      split at h
      · cases h
      · split at h
        · cases h
        · rename_i g3
          cases h
          refine .inr ⟨?_, by simpa using g3, rfl⟩
          rcases Nat.eq_zero_or_pos k with e | e
          · exact absurd ⟨trivial, e⟩ g
          · exact e
structure LastOk (t : List Nd) (s : CkSt) (k : Nat) : Prop where
  len : s.last.length = t.length
  some_ : ∀ j, 0 < j → j < k → (nd t (j : Int)).kind ≠ 3 → 0 ≤ s.last.getD (fpar t j) 0
  prev : ∀ j, 0 < j → j + 1 = k → (nd t (j : Int)).kind ≠ 3 → s.last.getD (fpar t j) 0 = j
theorem getD_set_ne {l : List Int} {i j : Nat} {x : Int} (h : i ≠ j) : (l.set i x).getD j 0 = l.getD j 0 := by
  rw [List.getD_eq_getElem?_getD, List.getD_eq_getElem?_getD, List.getElem?_set, if_neg h]
theorem getD_set_eq {l : List Int} {i : Nat} {x : Int} (h : i < l.length) : (l.set i x).getD i 0 = x := by
  rw [List.getD_eq_getElem?_getD, List.getElem?_set, if_pos rfl, if_pos h]
  rfl
theorem last_ok {t : List Nd} (hR : Right t) : ∀ (k : Nat) (s : CkSt), k ≤ t.length → runB t true k = some s → LastOk t s k
  | 0, s, _, h => by
    simp only [runB, Option.some.injEq] at h
    subst h
    exact ⟨by simp [initB], fun j _ hj => by omega, fun j _ hj => by omega⟩
  | k + 1, s, hk, h => by
    simp only [runB] at h
    cases hs : runB t true k with
    | none => rw [hs] at h; cases h
    | some s0 =>
      rw [hs] at h
      simp only [Option.bind_some] at h
      have ih := last_ok hR k s0 (by omega) hs
      have hlt : ∀ j, 0 < j → j < t.length → fpar t j < j := hR.pre.lt
      rcases step_next h with ⟨rfl, hl⟩ | ⟨hk0, -, hl⟩
      · exact ⟨by rw [hl, List.length_set]; exact ih.len, fun j h1 h2 => by omega, fun j h1 h2 => by omega⟩
      · have hp := hR.par k hk0 (by omega)
        have hlk := hlt k hk0 (by omega)
        have hlen := ih.len
        by_cases g : (nd t (k : Int)).kind = 3
        · rw [if_pos g] at hl
          refine ⟨by rw [hl, List.length_set]; exact ih.len, fun j h1 h2 h3 => ?_, fun j h1 h2 h3 => ?_⟩
          · have hjk : j < k := by
              rcases Nat.lt_or_ge j k with e | e
              · exact e
              · have : j = k := by omega
                subst this; exact absurd g h3
            have := hlt j h1 (by omega)
            rw [hl, getD_set_ne (by omega)]
            exact ih.some_ j h1 hjk h3
          · have : j = k := by omega
            subst this; exact absurd g h3
        · rw [if_neg g, if_neg (by omega)] at hl
          have e : (nd t (k : Int)).parent.toNat = fpar t k := rfl
          rw [e] at hl
          refine ⟨by rw [hl, List.length_set, List.length_set]; exact ih.len, fun j h1 h2 h3 => ?_, fun j h1 h2 h3 => ?_⟩
          · rw [hl]
            by_cases e2 : fpar t k = fpar t j
            · rw [← e2, getD_set_eq (by rw [List.length_set]; omega)]
              omega
            · rw [getD_set_ne e2]
              have hjk : j < k := by
                rcases Nat.lt_or_ge j k with e | e
                · exact e
                · have : j = k := by omega
                  subst this; exact absurd rfl e2
              have := hlt j h1 (by omega)
              rw [getD_set_ne (by omega)]
              exact ih.some_ j h1 hjk h3
          · have : j = k := by omega
            subst this
            rw [hl, getD_set_eq (by rw [List.length_set]; omega)]

/-- What is known of a node behind the root. -/
theorem node_body {t : List Nd} (h : allB t true = 0) {k : Nat} (h0 : 0 < k) (hk : k < t.length) : ∃ s, LastOk t s k ∧ Fits t (nd t (k : Int)) ∧ bodyB t (s.last.getD (fpar t k) 0) k (nd t (k : Int)) = true := by
  have hR := right_of h
  rcases allB_fits h hk with ⟨-, h2, -⟩ | ⟨-, -, s, hs, hf⟩
  · omega
  · have hp := hR.par k h0 hk
    have hlk := hR.pre.lt k h0 hk
    refine ⟨s, last_ok hR k s (by omega) hs, fits_head hf, ?_⟩
    unfold fitsB at hf
    simp only [Bool.and_eq_true] at hf
    have hb := hf.2
    unfold beforeOf at hb
    rw [if_pos (by omega)] at hb
    have e : (nd t (k : Int)).parent.toNat = fpar t k := rfl
    rw [e, getD_set_ne (by omega)] at hb
    exact hb
theorem attrs_first {t : List Nd} (h : allB t true = 0) {a b : Nat} (ha0 : 0 < a) (ha : a < t.length) (hb0 : 0 < b) (hb : b < t.length) (he : fpar t a = fpar t b) (h1 : (nd t (a : Int)).kind = 3) (h2 : (nd t (b : Int)).kind ≠ 3) : a < b := by
  rcases Nat.lt_or_ge a b with g | g
  · exact g
  · have hne : a ≠ b := fun e => h2 (e ▸ h1)
    obtain ⟨s, hL, -, hB⟩ := node_body h ha0 ha
    have := hL.some_ b hb0 (by omega) h2
    unfold bodyB at hB
    rw [if_pos h1] at hB
    simp only [Bool.and_eq_true, decide_eq_true_eq] at hB
    rw [he] at hB
    omega
theorem attr_names {t : List Nd} (h : allB t true = 0) {a b : Nat} (hab : a < b) (hb : b < t.length) (he : fpar t a = fpar t b) (ha0 : 0 < a) (h2 : (nd t (b : Int)).kind = 3) : (nd t (a : Int)).name ≠ (nd t (b : Int)).name := by
  have hR := right_of h
  obtain ⟨s, hL, -, hB⟩ := node_body h (by omega) hb
  unfold bodyB at hB
  rw [if_pos h2] at hB
  simp only [Bool.and_eq_true] at hB
  have hat := hB.2
  have hp := hR.par b (by omega) hb
  have hla := hR.pre.lt a ha0 (by omega)
  unfold attrB at hat
  rw [List.all_eq_true] at hat
  have := hat (a - (fpar t b + 1)) (List.mem_range.2 (by omega))
  rw [hp, show ((fpar t b : Int) + 1).toNat = fpar t b + 1 by omega, show fpar t b + 1 + (a - (fpar t b + 1)) = a by omega] at this
  simpa using this

/-! ### The nodes of a right row -/
def ch3 (t : List Nd) (k i : Nat) : List Nat := (List.range' (i + 1) (k - (i + 1))).filter (fun j => decide (fpar t j = i) && decide ((nd t (j : Int)).kind = 3))
def chN (t : List Nd) (k i : Nat) : List Nat := (List.range' (i + 1) (k - (i + 1))).filter (fun j => decide (fpar t j = i) && !decide ((nd t (j : Int)).kind = 3))
theorem range_more {i k : Nat} (h : i < k) : List.range' (i + 1) (k + 1 - (i + 1)) = List.range' (i + 1) (k - (i + 1)) ++ [k] := by
  rw [show k + 1 - (i + 1) = k - (i + 1) + 1 by omega, List.range'_1_concat]
  congr 2
  omega
theorem apart_ch {t : List Nd} (hR : Right t) : ∀ k, k ≤ t.length → ∀ (i : Nat) (h : i < k), ∃ s, (apRun 0 ⟨[], [], []⟩ (t.take k)).S[i]? = some s ∧ s.row = nd t (i : Int) ∧ s.attrs = ch3 t k i ∧ s.kids = chN t k i
  | 0, _, i, h => absurd h (Nat.not_lt_zero _)
  | k + 1, hk, i, hi => by
    have hkl : k < t.length := by omega
    have hst := apart_ch hR k (by omega)
    have hsl : (apRun 0 ⟨[], [], []⟩ (t.take k)).S.length = k := by rw [apRun_len]; simp; omega
    rw [List.take_succ_eq_append_getElem hkl, apRun_snoc]
    rw [← nd_of hkl]
    generalize apRun 0 ⟨[], [], []⟩ (t.take k) = st at *
    have new : ∀ (o : Option Nat), (st.S ++ [(⟨nd t (k : Int), o, [], []⟩ : PN)])[k]? = some ⟨nd t (k : Int), o, [], []⟩ := fun o => by
      rw [List.getElem?_append_right (by omega), hsl, Nat.sub_self]; rfl
    have e3 : ch3 t (k + 1) k = [] := by simp [ch3]
    have eN : chN t (k + 1) k = [] := by simp [chN]
    rcases Nat.eq_zero_or_pos k with hk0 | hk0
    · subst hk0
      have hi0 : i = 0 := by omega
      subst hi0
      have hr := hR.root.1
      unfold apStep
      simp only
      rw [if_neg (by omega)]
      split
      · exact ⟨_, new none, rfl, e3.symm, eN.symm⟩
      · exact ⟨_, new none, rfl, e3.symm, eN.symm⟩
    · have hp := hR.par k hk0 hkl
      have hlt := hR.pre.lt k hk0 hkl
      have hu : 0 + (nd t (k : Int)).parent.toNat = fpar t k := by unfold fpar; omega
      unfold apStep
      simp only
      rw [if_pos (by omega), hu]
      obtain ⟨su, hsu, hru, hau, hku⟩ := hst (fpar t k) hlt
      have hsu' : (st.S ++ [(⟨nd t (k : Int), some (fpar t k), [], []⟩ : PN)])[fpar t k]? = some su := by rw [List.getElem?_append_left (by omega)]; exact hsu
      rw [hsu']
      simp only
      rw [List.getElem?_set]
      by_cases eu : fpar t k = i
      · rw [if_pos eu, if_pos (by simp; omega), hsl]
        subst eu
        have r3 : ch3 t (k + 1) (fpar t k) = ch3 t k (fpar t k) ++ (if (nd t (k : Int)).kind = 3 then [k] else []) := by
          unfold ch3
          rw [range_more hlt, List.filter_append]
          congr 1
          by_cases g : (nd t (k : Int)).kind = 3 <;> simp [g]
        have rN : chN t (k + 1) (fpar t k) = chN t k (fpar t k) ++ (if (nd t (k : Int)).kind = 3 then [] else [k]) := by
          unfold chN
          rw [range_more hlt, List.filter_append]
          congr 1
          by_cases g : (nd t (k : Int)).kind = 3 <;> simp [g]
        rw [r3, rN]
        by_cases g : (nd t (k : Int)).kind = 3
        · simp only [if_pos g, List.append_nil]
          exact ⟨_, rfl, hru, by simp [withAttr, hau], by simp [withAttr, hku]⟩
        · simp only [if_neg g, List.append_nil]
          exact ⟨_, rfl, hru, by simp [withKid, hau], by simp [withKid, hku]⟩
      · rw [if_neg eu]
        by_cases ek : i = k
        · subst ek
          exact ⟨_, new _, rfl, e3.symm, eN.symm⟩
        · have hik : i < k := by omega
          obtain ⟨si, hsi, hri, hai, hki⟩ := hst i hik
          have r3 : ch3 t (k + 1) i = ch3 t k i := by
            unfold ch3
            rw [range_more hik, List.filter_append]
            simp [eu]
          have rN : chN t (k + 1) i = chN t k i := by
            unfold chN
            rw [range_more hik, List.filter_append]
            simp [eu]
          exact ⟨si, by rw [List.getElem?_append_left (by omega)]; exact hsi, hri, by rw [r3, hai], by rw [rN, hki]⟩
theorem range'_sorted (s n : Nat) : (List.range' s n).Pairwise (· < ·) := List.pairwise_lt_range'
theorem tree_of {t : List Nd} (h : allB t true = 0) : TreeOf t (fpar t) (apartP [] t).S ∧ ∀ (i : Nat) (hi : i < t.length), ∃ s, (apartP [] t).S[i]? = some s ∧ s.row = t[i] ∧ s.attrs = ch3 t t.length i ∧ s.kids = chN t t.length i := by
  have hR := right_of h
  have hch := apart_ch hR t.length (Nat.le_refl _)
  rw [List.take_length] at hch
  have key : ∀ (i : Nat) (hi : i < t.length), ∃ s, (apartP [] t).S[i]? = some s ∧ s.row = t[i] ∧ s.attrs = ch3 t t.length i ∧ s.kids = chN t t.length i := fun i hi => by
    obtain ⟨s, h1, h2, h3⟩ := hch i hi
    rw [nd_of hi] at h2
    exact ⟨s, h1, h2, h3⟩
  refine ⟨⟨by rw [apartP_len]; simp, fun i hi => ?_, fun i hi h0 => ?_⟩, key⟩
  · obtain ⟨s, h1, h2, h3, h4⟩ := key i hi
    refine ⟨s, h1, h2, ?_⟩
    unfold lists
    rw [h3, h4]
    unfold ch3 chN chFrom
    rw [filter_two _ _ _ (range'_sorted _ _) (fun a ha b hb pa pb => ?_) (fun a _ pa => ?_)]
    · congr 1
      funext j
      cases decide (fpar t j = i) <;> cases decide ((nd t (j : Int)).kind = 3) <;> rfl
    · rw [List.mem_range'_1] at ha hb
      simp only [Bool.and_eq_true, decide_eq_true_eq, Bool.not_eq_true', decide_eq_false_iff_not] at pa pb
      exact attrs_first h (by omega) (by omega) (by omega) (by omega) (pa.1.trans pb.1.symm) pa.2 pb.2
    · simp only [Bool.and_eq_true, decide_eq_true_eq] at pa
      simp [pa]
  · have := hR.par i h0 hi
    rw [nd_of hi] at this
    exact this
theorem apart_rows {t : List Nd} (h : allB t true = 0) : rowsOfS (apartP [] t).S = t := by
  have hR := right_of h
  obtain ⟨hT, -⟩ := tree_of h
  have hs : Seg (fpar t) t.length 0 t.length := ⟨hR.pos, Nat.le_refl _, fun _ _ _ => Nat.zero_le _, .inl rfl⟩
  have hroot := hR.root.1
  rw [nd_of hR.pos] at hroot
  have := tree_rows hR.pre hT t.length 0 t.length hR.pos (by omega) hs
  unfold rowsOfS
  rw [hT.len]
  rw [hroot] at this
  rw [this]
  simp

/-! ### No names twice -/
theorem dupF_false : ∀ (l s : List ByteArray), (∀ a ∈ s, ∀ b ∈ l, b ≠ a) → l.Pairwise (· ≠ ·) → dupF s l = false
  | [], _, _, _ => rfl
  | x :: r, s, h1, h2 => by
    have h2' := List.pairwise_cons.1 h2
    simp only [dupF, Bool.or_eq_false_iff]
    refine ⟨?_, dupF_false r (s ++ [x]) (fun a ha b hb => ?_) h2'.2⟩
    · rw [List.any_eq_false]
      intro a ha
      simpa using h1 a ha x List.mem_cons_self
    · rcases List.mem_append.1 ha with ha | ha
      · exact h1 a ha b (List.mem_cons_of_mem _ hb)
      · rw [List.mem_singleton.1 ha]
        exact fun e => h2'.1 b hb e.symm
theorem twB_false {t : List Nd} (h : allB t true = 0) : ∀ (n i : Nat), twB (apartP [] t).S n i = false
  | 0, _ => rfl
  | n + 1, i => by
    obtain ⟨hT, hch⟩ := tree_of h
    simp only [twB]
    cases hs : (apartP [] t).S[i]? with
    | none => rfl
    | some s =>
      have hi : i < t.length := by
        have := (List.getElem?_eq_some_iff.1 hs).1
        rw [hT.len] at this
        exact this
      obtain ⟨s', hs', h1, h2, h3⟩ := hch i hi
      rw [hs] at hs'
      cases hs'
      simp only [Bool.or_eq_false_iff]
      refine ⟨?_, List.any_eq_false.2 fun j _ => by rw [twB_false h n j]; simp⟩
      rw [h2]
      refine dupF_false _ _ (fun a ha => by cases ha) ?_
      rw [List.pairwise_map]
      unfold ch3
      refine (List.Pairwise.imp_of_mem ?_ ((range'_sorted (i + 1) (t.length - (i + 1))).filter _))
      intro a b ha hb hab
      rw [List.mem_filter, List.mem_range'_1] at ha hb
      simp only [Bool.and_eq_true, decide_eq_true_eq] at ha hb
      have nm : ∀ (j : Nat), j < t.length → nameOf (apartP [] t).S j = (nd t (j : Int)).name := fun j hj => by
        obtain ⟨sj, e1, e2, -⟩ := hch j hj
        simp only [nameOf, e1, e2, nd_of hj]
      rw [nm a (by omega), nm b (by omega)]
      exact attr_names h hab (by omega) (ha.2.1.trans hb.2.1.symm) (by omega) hb.2.2

/-! ### Nothing is merged -/
theorem rule4 : (ruleOf 4).full = true := rfl
theorem merge_run {t : List Nd} (h : allB t true = 0) : ∀ k, k ≤ t.length → ∃ tt, mrunB t k = some ⟨t.take k, tt⟩ ∧ tt.length = t.length ∧ ∀ j, j < k → tt.getD j 0 = (j : Int)
  | 0, _ => ⟨_, rfl, by simp, fun j hj => by omega⟩
  | k + 1, hk => by
    have hR := right_of h
    have hkl : k < t.length := by omega
    obtain ⟨tt, h1, h2, h3⟩ := merge_run h k (by omega)
    have hml : (t.take k).length = k := by simp; omega
    have hmv : movedN ⟨t.take k, tt⟩ (nd t (k : Int)) = nd t (k : Int) := by
      unfold movedN
      split
      · rename_i g
        have : 0 < k := by
          rcases Nat.eq_zero_or_pos k with e | e
          · subst e; have := hR.root.1; omega
          · exact e
        have hp := hR.par k this hkl
        have hlt := hR.pre.lt k this hkl
        have e : (nd t (k : Int)).parent.toNat = fpar t k := rfl
        simp only
        rw [e, h3 _ hlt, ← hp]
      · rfl
    refine ⟨tt.set k k, ?_, by rw [List.length_set]; exact h2, fun j hj => ?_⟩
    · simp only [mrunB, h1, Option.bind_some, mstepB]
      rw [if_neg (by rw [allB_open h hkl]; simp)]
      simp only [hmv, hml]
      have hval : aloneB t k = true → (nd t (k : Int)).value ≠ zname ∧ (nd t (k : Int)).kind = 4 := fun ha => by
        unfold aloneB at ha
        simp only [Bool.and_eq_true, decide_eq_true_eq] at ha
        have hk0 : 0 < k := by
          rcases Nat.eq_zero_or_pos k with e | e
          · subst e; have := hR.root.2; omega
          · exact e
        obtain ⟨s, hL, hF, -⟩ := node_body h hk0 hkl
        have := hF.value.2.1
        rw [ha.1] at this
        exact ⟨this rule4, ha.1⟩
      have hjoin : aloneB t k = true → joinsB ⟨t.take k, tt⟩ (nd t (k : Int)).parent = false := fun ha => by
        have hk4 := (hval ha).2
        cases hj : joinsB ⟨t.take k, tt⟩ (nd t (k : Int)).parent with
        | false => rfl
        | true =>
          exfalso
          unfold joinsB at hj
          simp only [Bool.and_eq_true, decide_eq_true_eq, hml] at hj
          obtain ⟨⟨j1, j2⟩, j3⟩ := hj
          have hg : (t.take k).getD (k - 1) nd0 = nd t ((k - 1 : Nat) : Int) := by
            rw [nd_of (by omega), List.getD_eq_getElem?_getD, List.getElem?_take, if_pos (by omega), List.getElem?_eq_getElem (by omega)]
            rfl
          rw [hg] at j2 j3
          have hk1 : 0 < k - 1 := by
            rcases Nat.eq_zero_or_pos (k - 1) with e | e
            · rw [e] at j2; have := hR.root.2; omega
            · exact e
          obtain ⟨s, hL, -, hB⟩ := node_body h j1 hkl
          have hpv := hL.prev (k - 1) hk1 (by omega) (by omega)
          have hff : fpar t (k - 1) = fpar t k := by unfold fpar; rw [j3]
          rw [hff] at hpv
          unfold bodyB at hB
          rw [if_neg (by omega), if_pos hk4] at hB
          simp only [Bool.or_eq_true, decide_eq_true_eq, Bool.not_eq_true', decide_eq_false_iff_not] at hB
          rw [hpv] at hB
          rcases hB with hB | hB
          · omega
          · exact hB j2
      rw [if_neg (fun g => (hval g.1).1 g.2), if_neg (fun g => by rw [hjoin g.1] at g; exact Bool.noConfusion g.2)]
      rw [List.take_succ_eq_append_getElem hkl, nd_of hkl]
    · by_cases e : j = k
      · subst e
        exact getD_set_eq (by omega)
      · rw [getD_set_ne (Ne.symm e)]
        exact h3 j (by omega)
theorem merge_same {t : List Nd} (h : allB t true = 0) : mergeB t = t := by
  have hl := (allB_run h).1
  obtain ⟨tt, h1, -, -⟩ := merge_run h t.length (Nat.le_refl _)
  unfold mergeB
  rw [if_neg (by omega), h1]
  simp

/-- NOTHING DONE TO A RIGHT TREE LEAVES IT AS IT IS. -/
theorem apply_nil (t : List Nd) (h : allB t true = 0) : applyP t [] = (0, t) := by
  have hl := (allB_run h).1
  have hc : checkP t [] = 0 := by
    unfold checkP
    rw [if_neg (by rw [h]; simp), if_neg (by simp)]
    rfl
  have hm : mergeP [] = [] := rfl
  unfold applyP
  rw [if_neg (by rw [hc]; simp)]
  change (if twB (apartP [] t).S (apartP [] t).S.length 0 = true then ((282 : Int), ([] : List Nd)) else if 16384 < (rowsOfS (apartP [] t).S).length then (3, []) else if allB (mergeB (rowsOfS (apartP [] t).S)) true ≠ 0 then (allB (mergeB (rowsOfS (apartP [] t).S)) true, []) else (0, mergeB (rowsOfS (apartP [] t).S))) = (0, t)
  rw [if_neg (by rw [twB_false h]; simp), apart_rows h, if_neg (by omega), merge_same h, if_neg (by rw [h]; simp)]

end Go.Proofs.YtelffdgcikceaaaGreatDoor
end

/- PendingRight: for every tree and all parts, with the tables as the program's text lays them, the law returns true and changes nothing that was there. -/
section
set_option linter.unusedSimpArgs false
set_option linter.unusedVariables false
set_option maxRecDepth 100000
namespace Go.Proofs.YtelffdgcikceaaaGreatDoor
open Go.V Go.ChangeShapes Go.WideShapes Go.ChangeAt Go.RowKit


theorem right_lifted (os : Os) (started : os.Started) (H : Type) (enc : TypeId × Value → H) :
    ReturnsInHanded {} Tryz.checked os 4 .any (fun w args => (Rows.pendingRightSpec.pre enc Tryz.prog Tryz.f4 [] false w args ∧ laidMetH Tryz.prog Rows.pendingRightRow.laid w) ∧ sizedMet enc Tryz.prog Tryz.f4 (OpenSpec.ofChange Rows.pendingRightSpec) false w args)
      (Rows.pendingRightSpec.post enc Tryz.prog Tryz.f4 false true false false) := by
  refine handed_shaped (C := Tryz.checked) (X := fun w _ => laidMetH Tryz.prog Rows.pendingRightRow.laid w) (fun _ _ _ hh h => h.of_heap hh) own started (by kernel_rfl) Tryz.func4
    (ChangeSpec.witness_shaped (enc := enc) (C := Tryz.checked) (os := os) (X := fun w _ => laidMetH Tryz.prog Rows.pendingRightRow.laid w) false (World.laidAll Tryz.prog os Rows.pendingRightRow.laid) #[.slice none 0 0, .slice none 0 0] 8 (World.laidAll_os _ _ _)
      (World.shaped_of_ZipB (by kernel_rfl) (by kernel_rfl)) (by kernel_rfl) (by kernel_rfl) (by kernel_rfl)
      (by rw [MakeChecks.laidMetH_plain _ _ _ (by kernel_rfl)]; exact laidMet_laidAll _ (by kernel_rfl) (by kernel_rfl))) ?_
  intro W base args ds gs before hsh hval0 hW hsz hL
  have hval : ∀ (j : Nat) t v, Tryz.f4.params[j]? = some t → args[j]? = some v → Value.okWide Tryz.prog W .any base t v := hval0
  have hW' := hW
  obtain ⟨p, q, hA0, hV, rfl, hfz, hnd⟩ := hW
  have hA : DataW.TrodAll enc Tryz.prog W 0 (fun _ => true) true Tryz.f4.params.toList args.toList ds p := hA0
  rw [Tryz.params4] at hA hval hsz
  obtain ⟨v0, v1, d0, d1, p0, p1, rfl, rfl, rfl, h0, h1⟩ := trodAll_two hA
  obtain ⟨rfl, rfl⟩ := trodVars_none hV
  obtain ⟨a0, l0, c0, rfl⟩ := okWide_slice und31 (hval 0 31 v0 rfl rfl)
  obtain ⟨a1, l1, c1, rfl⟩ := okWide_slice und22 (hval 1 22 v1 rfl rfl)
  have hwt : ∀ k ∈ DataW.weightsEach Tryz.prog ([31, 22] ++ Rows.pendingRightSpec.plain.varTypes Tryz.prog) ([d0, d1] ++ []), k ≤ reachBytes := fun k hk => by simpa using List.all_eq_true.1 hsz k hk
  have lt0 : ∀ x ∈ p0, x.block < W.heap.size := by obtain ⟨m, hm⟩ := h0; exact DataW.trod_lt m _ _ _ hm
  have lt1 : ∀ x ∈ p1, x.block < W.heap.size := by obtain ⟨m, hm⟩ := h1; exact DataW.trod_lt m _ _ _ hm
  obtain ⟨t, ht⟩ : ∃ t, NodesAt W (.slice a0 l0 c0) t := by
    obtain ⟨fuel, hf⟩ := h0
    exact nodes_of nodesTy (x := (d0, p0)) (by simpa [Value.cells] using hf) (fun k hk => hwt k (List.mem_append.2 (.inl hk)))
  obtain ⟨l, hl⟩ : ∃ l, PartsAt W (.slice a1 l1 c1) l := by
    obtain ⟨fuel, hf⟩ := h1
    exact parts_of partsTy (x := (d1, p1)) (by simpa [Value.cells] using hf) (fun k hk => hwt k (List.mem_append.2 (.inr (List.mem_append.2 (.inl hk)))))
  have hG := glob_of_laid hL hsh
  refine (Right_con (fun t h => apply_nil _ h) _ _ t l W ht hl hG).calls.mono fun e W' ⟨v, he, hv, bel⟩ => ?_
  subst he hv
  exact ⟨_, rfl, _, _, _, [], _, [], hW', trodAll_mk1 (shut_bool Tryz.underlying4 _), (trodAll_cons_mk (Below.trod laidOut (by kernel_rfl) (of_decide_eq_true (by kernel_rfl)) h0 bel lt0) (trodAll_cons_mk (Below.trod laidOut (by kernel_rfl) (of_decide_eq_true (by kernel_rfl)) h1 bel lt1) trodAll_mk0)), rfl, bel.frame _, fun h => by cases h⟩

theorem right_row : Rows.PendingRightSaid :=
  OpenClaim.holds_of_wide 4 Tryz.f4 rfl rfl rfl rfl rfl rfl rfl ⟨rfl, rfl, rfl, rfl, rfl⟩ rfl rfl rfl rfl rfl (by kernel_rfl) Tryz.func4 (by kernel_rfl)
    (of_decide_eq_true (by kernel_rfl)) (by unfold Func.isWrapper; first | (rw [if_pos (by decide +kernel)]; kernel_rfl) | (rw [if_neg (by decide +kernel)]; exact ⟨rfl, rfl⟩))
    (fun os started H enc _ => right_lifted os started H enc)
/-- The tied card of PendingRight. -/
theorem right_holds : Rows.PendingRightCardSaid :=
  Claim7.holds_tied_plain_at .later [] [.data, .data, .data, .widerDeep, .widerDeep, .data, .data, .pinned, .pinned] true (true, "ee184132c1015bfbbf946d45624b9aef1c959002604530e9b3b0d51ffbb17bba") false right_row (fun _ h => by cases h) (by kernel_rfl) (fun _ h => by cases h) pendingRight_row_tie rfl ⟨rfl, rfl⟩ (by kernel_rfl) rfl
    (fun f fn hf hfn => by
      obtain rfl : f = 4 := Option.some.inj ((show Tryz.prog.funcNamed Rows.pendingRightRow.func = some 4 by kernel_rfl).symm.trans hf) |>.symm
      obtain rfl : fn = Tryz.f4 := (Option.some.inj (Tryz.func4.symm.trans hfn)).symm
      exact ⟨by kernel_rfl, fun j t ht => by
        rw [Tryz.params4] at ht
        have hm : t ∈ [31, 22] := by simpa using Array.mem_of_getElem? ht
        have hall : ([31, 22].all fun u => !Tryz.prog.wantsStandIn u) = true := by kernel_rfl
        exact (show Tryz.prog.wantsStandIn t = false by simpa using List.all_eq_true.1 hall t hm)⟩)
    (by kernel_rfl)
#print axioms right_holds
end Go.Proofs.YtelffdgcikceaaaGreatDoor
end
