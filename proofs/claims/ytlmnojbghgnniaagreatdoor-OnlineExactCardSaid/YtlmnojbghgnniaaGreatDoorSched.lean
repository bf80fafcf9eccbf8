/- The rule of periodic servers, in plain Lean: rests tick by tick; from H on the occupants come again with H, from 2 H on the rests do. -/
namespace Bulk

/-- n servers: their periods, budgets, offsets, priorities. -/
structure Sys where
  n : Nat
  P : Nat → Int
  B : Nat → Int
  O : Nat → Int
  Q : Nat → Int

structure Sys.Ok (s : Sys) (H : Int) : Prop where
  h1 : 1 ≤ H
  p1 : ∀ i, i < s.n → 1 ≤ s.P i
  b1 : ∀ i, i < s.n → 1 ≤ s.B i
  bp : ∀ i, i < s.n → s.B i ≤ s.P i
  o0 : ∀ i, i < s.n → 0 ≤ s.O i
  op : ∀ i, i < s.n → s.O i < s.P i
  dv : ∀ i, i < s.n → H % s.P i = 0
  q1 : ∀ i j, i < s.n → j < s.n → s.Q i = s.Q j → i = j

/-- Server i is released at tick t. -/
def Sys.rel (s : Sys) (i : Nat) (t : Int) : Prop := s.O i ≤ t ∧ (t - s.O i) % s.P i = 0
instance (s : Sys) (i : Nat) (t : Int) : Decidable (s.rel i t) := inferInstanceAs (Decidable (_ ∧ _))

/-- The place of the greatest priority among the first k that have a rest. -/
def Sys.pick (s : Sys) (r : Nat → Int) : Nat → Option Nat
  | 0 => none
  | k + 1 => match s.pick r k with
    | none => if 0 < r k then some k else none
    | some j => if 0 < r k ∧ s.Q j < s.Q k then some k else some j

theorem Sys.pick_none {s : Sys} {r : Nat → Int} : ∀ {k : Nat}, s.pick r k = none ↔ ∀ i, i < k → r i ≤ 0
  | 0 => by simp [Sys.pick]
  | k + 1 => by
    have ih := @Sys.pick_none s r k
    unfold Sys.pick
    cases hp : s.pick r k with
    | none =>
      have h0 := ih.1 hp
      simp only
      by_cases hk : 0 < r k
      · rw [if_pos hk]; simp only [reduceCtorEq, false_iff]; intro h; have := h k (by omega); omega
      · rw [if_neg hk]; simp only [true_iff]; intro i hi
        rcases Nat.lt_succ_iff_lt_or_eq.1 hi with h | h
        · exact h0 i h
        · subst h; omega
    | some j =>
      have hne : ¬ ∀ i, i < k → r i ≤ 0 := fun h => by rw [ih.2 h] at hp; cases hp
      simp only
      constructor
      · intro h; split at h <;> cases h
      · intro h; exact absurd (fun i hi => h i (by omega)) hne

theorem Sys.pick_some {s : Sys} {r : Nat → Int} : ∀ {k i : Nat}, s.pick r k = some i → i < k ∧ 0 < r i ∧ (∀ j, j < k → 0 < r j → s.Q j ≤ s.Q i)
  | 0, i => by simp [Sys.pick]
  | k + 1, i => by
    intro h
    unfold Sys.pick at h
    cases hp : s.pick r k with
    | none =>
      have h0 := Sys.pick_none.1 hp
      rw [hp] at h; simp only at h
      split at h
      · rename_i hk
        obtain rfl := Option.some.inj h
        refine ⟨by omega, hk, fun j hj hr => ?_⟩
        rcases Nat.lt_succ_iff_lt_or_eq.1 hj with h | h
        · have := h0 j h; omega
        · subst h; omega
      · cases h
    | some j0 =>
      obtain ⟨a1, a2, a3⟩ := Sys.pick_some hp
      rw [hp] at h; simp only at h
      split at h
      · rename_i hk
        obtain rfl := Option.some.inj h
        refine ⟨by omega, hk.1, fun j hj hr => ?_⟩
        rcases Nat.lt_succ_iff_lt_or_eq.1 hj with h | h
        · have := a3 j h hr; omega
        · subst h; omega
      · rename_i hk
        obtain rfl := Option.some.inj h
        refine ⟨by omega, a2, fun j hj hr => ?_⟩
        rcases Nat.lt_succ_iff_lt_or_eq.1 hj with h | h
        · exact a3 j h hr
        · subst h
          by_cases hq : s.Q j0 < s.Q j
          · exact absurd ⟨hr, hq⟩ hk
          · omega

theorem Sys.pick_of {s : Sys} {H : Int} (ok : s.Ok H) {r : Nat → Int} {i : Nat} (hi : i < s.n) (hr : 0 < r i) (h : ∀ j, j < s.n → s.Q i < s.Q j → r j ≤ 0) : s.pick r s.n = some i := by
  cases hp : s.pick r s.n with
  | none => have := Sys.pick_none.1 hp i hi; omega
  | some k =>
    obtain ⟨a1, a2, a3⟩ := Sys.pick_some hp
    have h1 := a3 i hi hr
    by_cases e : s.Q i < s.Q k
    · have := h k a1 e; omega
    · rw [ok.q1 k i a1 hi (by omega)]

theorem Sys.pick_congr {s : Sys} {r r' : Nat → Int} : ∀ {k : Nat}, (∀ i, i < k → r i = r' i) → s.pick r k = s.pick r' k
  | 0, _ => rfl
  | k + 1, h => by unfold Sys.pick; rw [Sys.pick_congr (fun i hi => h i (by omega)), h k (by omega)]

/-- One tick on: the occupant loses one; who is released has the budget. -/
def Sys.next (s : Sys) (r : Nat → Int) (t : Int) (i : Nat) : Int :=
  if s.rel i (t + 1) then s.B i else if s.pick r s.n = some i then r i - 1 else r i

/-- The rests at tick t, behind its releases. -/
def Sys.st (s : Sys) : Nat → Nat → Int
  | 0, i => if s.rel i 0 then s.B i else 0
  | t + 1, i => s.next (s.st t) t i

def Sys.occ (s : Sys) (t : Nat) : Option Nat := s.pick (s.st t) s.n

section
variable {s : Sys} {H : Int} (ok : s.Ok H)
include ok

theorem Sys.st_nonneg : ∀ (t i : Nat), i < s.n → 0 ≤ s.st t i
  | 0, i, hi => by unfold Sys.st; have := ok.b1 i hi; split <;> omega
  | t + 1, i, hi => by
    have ih := Sys.st_nonneg t i hi
    have hb := ok.b1 i hi
    unfold Sys.st Sys.next
    split
    · omega
    · split
      · rename_i h; have := (Sys.pick_some h).2.1; omega
      · exact ih

theorem Sys.rel_add {i : Nat} (hi : i < s.n) {t : Int} (ht : 0 ≤ t) : s.rel i (t + H) ↔ s.rel i t := by
  have h1 := ok.h1; have hp := ok.p1 i hi; have ho := ok.o0 i hi; have hop := ok.op i hi; have hd := ok.dv i hi
  obtain ⟨c, hc⟩ := Int.dvd_of_emod_eq_zero hd
  have hm : (t + H - s.O i) % s.P i = (t - s.O i) % s.P i := by
    rw [hc, show t + s.P i * c - s.O i = (t - s.O i) + s.P i * c by omega, Int.add_mul_emod_self_left]
  have hHP : s.P i ≤ H := Int.le_of_dvd (by omega) ⟨c, hc⟩
  unfold Sys.rel
  rw [hm]
  constructor
  · rintro ⟨a, b⟩
    refine ⟨?_, b⟩
    by_cases h : s.O i ≤ t
    · exact h
    · exfalso
      have e : (t - s.O i + s.P i) % s.P i = 0 := by rw [Int.add_emod_right]; exact b
      rw [Int.emod_eq_of_lt (by omega) (by omega)] at e
      omega
  · rintro ⟨a, b⟩
    exact ⟨by omega, b⟩

theorem Sys.occ_iff {t i : Nat} : s.occ t = some i ↔ i < s.n ∧ 0 < s.st t i ∧ ∀ j, j < s.n → s.Q i < s.Q j → s.st t j ≤ 0 := by
  constructor
  · intro h
    obtain ⟨a, b, c⟩ := Sys.pick_some h
    refine ⟨a, b, fun j hj hq => ?_⟩
    by_cases e : 0 < s.st t j
    · have := c j hj e; omega
    · omega
  · rintro ⟨a, b, c⟩
    exact Sys.pick_of ok a b c

omit ok in
theorem Sys.st_succ (t i : Nat) : s.st (t + 1) i = if s.rel i ((t : Int) + 1) then s.B i else if s.occ t = some i then s.st t i - 1 else s.st t i := rfl

variable {h : Nat} (hh : H = h)
include hh

theorem Sys.rel_h {i : Nat} (hi : i < s.n) (t : Nat) : s.rel i ((t + h : Nat) : Int) ↔ s.rel i (t : Int) := by
  rw [Int.natCast_add, ← hh]; exact Sys.rel_add ok hi (by omega)

/-- The run that began empty never has more than the run a hyperperiod on. -/
theorem Sys.dom : ∀ (t i : Nat), i < s.n → s.st t i ≤ s.st (t + h) i
  | 0, i, hi => by
    by_cases hr : s.rel i 0
    · have h0 : s.st 0 i = s.B i := by unfold Sys.st; rw [if_pos hr]
      have hrh : s.rel i (h : Int) := by have := (Sys.rel_h ok hh hi 0).2 (by simpa using hr); simpa using this
      have : s.st h i = s.B i := by
        cases h with
        | zero => exact h0
        | succ k => rw [Sys.st_succ, if_pos (by simpa using hrh)]
      rw [Nat.zero_add, h0, this]; omega
    · have h0 : s.st 0 i = 0 := by unfold Sys.st; rw [if_neg hr]
      rw [h0]; exact Sys.st_nonneg ok _ i hi
  | t + 1, i, hi => by
    have ih := Sys.dom t i hi
    rw [show t + 1 + h = (t + h) + 1 by omega, Sys.st_succ, Sys.st_succ]
    have hr := Sys.rel_h ok hh hi (t + 1)
    rw [show ((t + 1 + h : Nat) : Int) = ((t + h : Nat) : Int) + 1 by omega, show ((t + 1 : Nat) : Int) = (t : Int) + 1 by omega] at hr
    by_cases hrel : s.rel i ((t : Int) + 1)
    · rw [if_pos hrel, if_pos (hr.2 hrel)]; omega
    · rw [if_neg hrel, if_neg (fun x => hrel (hr.1 x))]
      by_cases h1 : s.occ t = some i
      · rw [if_pos h1]
        split <;> omega
      · rw [if_neg h1]
        by_cases h2 : s.occ (t + h) = some i
        · rw [if_pos h2]
          obtain ⟨_, b, c⟩ := (Sys.occ_iff ok).1 h2
          have h0 : ¬ 0 < s.st t i := fun hpos => h1 ((Sys.occ_iff ok).2 ⟨hi, hpos, fun j hj hq => by have := c j hj hq; have := Sys.dom t j hj; omega⟩)
          omega
        · rw [if_neg h2]; exact ih

/-- Where both runs agree above a priority, they go on so. -/
theorem Sys.agree (q : Int) (t : Nat) (h0 : ∀ j, j < s.n → q < s.Q j → s.st t j = s.st (t + h) j) : ∀ (d : Nat) (j : Nat), j < s.n → q < s.Q j → s.st (t + d) j = s.st (t + d + h) j
  | 0, j, hj, hq => h0 j hj hq
  | d + 1, j, hj, hq => by
    have ih := Sys.agree q t h0 d
    rw [show t + (d + 1) = (t + d) + 1 by omega, show t + d + 1 + h = (t + d + h) + 1 by omega, Sys.st_succ, Sys.st_succ]
    have hr := Sys.rel_h ok hh hj (t + d + 1)
    rw [show ((t + d + 1 + h : Nat) : Int) = ((t + d + h : Nat) : Int) + 1 by omega, show ((t + d + 1 : Nat) : Int) = ((t + d : Nat) : Int) + 1 by omega] at hr
    have ho : s.occ (t + d) = some j ↔ s.occ (t + d + h) = some j := by
      rw [Sys.occ_iff ok, Sys.occ_iff ok, ih j hj hq]
      constructor
      · rintro ⟨a, b, c⟩; exact ⟨a, b, fun k hk hqk => by rw [← ih k hk (by omega)]; exact c k hk hqk⟩
      · rintro ⟨a, b, c⟩; exact ⟨a, b, fun k hk hqk => by rw [ih k hk (by omega)]; exact c k hk hqk⟩
    by_cases h1 : s.rel j (((t + d : Nat) : Int) + 1)
    · rw [if_pos h1, if_pos (hr.2 h1)]
    · rw [if_neg h1, if_neg (fun x => h1 (hr.1 x)), ih j hj hq]
      by_cases h2 : s.occ (t + d) = some j
      · rw [if_pos h2, if_pos (ho.1 h2)]
      · rw [if_neg h2, if_neg (fun x => h2 (ho.2 x))]

/-- Who has less than a hyperperiod on, lost it where another, above it, occupied in its place. -/
theorem Sys.lag {i : Nat} (hi : i < s.n) : ∀ (t : Nat), s.O i ≤ t → s.st t i < s.st (t + h) i →
    ∃ u, u < t ∧ (∀ x : Nat, u < x → x ≤ t → ¬ s.rel i x) ∧ s.occ u ≠ s.occ (u + h) ∧ ∃ j, j < s.n ∧ s.Q i < s.Q j ∧ s.st u j < s.st (u + h) j
  | 0, ho, hl => by
    exfalso
    have hr : s.rel i 0 := by have := ok.o0 i hi; exact ⟨ho, by rw [show (0 : Int) - s.O i = 0 by omega]; simp⟩
    have h0 : s.st 0 i = s.B i := by unfold Sys.st; rw [if_pos hr]
    have hrh : s.rel i (h : Int) := by have := (Sys.rel_h ok hh hi 0).2 (by simpa using hr); simpa using this
    have : s.st h i = s.B i := by
      cases h with
      | zero => exact h0
      | succ k => rw [Sys.st_succ, if_pos (by simpa using hrh)]
    rw [Nat.zero_add, h0, this] at hl; omega
  | t + 1, ho, hl => by
    rw [show t + 1 + h = (t + h) + 1 by omega, Sys.st_succ, Sys.st_succ] at hl
    have hr := Sys.rel_h ok hh hi (t + 1)
    rw [show ((t + 1 + h : Nat) : Int) = ((t + h : Nat) : Int) + 1 by omega, show ((t + 1 : Nat) : Int) = (t : Int) + 1 by omega] at hr
    by_cases hrel : s.rel i ((t : Int) + 1)
    · rw [if_pos hrel, if_pos (hr.2 hrel)] at hl; omega
    · rw [if_neg hrel, if_neg (fun x => hrel (hr.1 x))] at hl
      have ho' : s.O i ≤ t := by
        by_cases e : s.O i ≤ t
        · exact e
        · exfalso; apply hrel
          exact ⟨by omega, by rw [show (t : Int) + 1 - s.O i = 0 by omega]; simp⟩
      by_cases hlt : s.st t i < s.st (t + h) i
      · obtain ⟨u, hu, hx, rest⟩ := Sys.lag hi t ho' hlt
        refine ⟨u, by omega, fun x h1 h2 => ?_, rest⟩
        by_cases e : x = t + 1
        · subst e; simpa using hrel
        · exact hx x h1 (by omega)
      · have hd := Sys.dom ok hh t i hi
        have he : s.st t i = s.st (t + h) i := by omega
        have h1 : s.occ t = some i := by
          by_cases e : s.occ t = some i
          · exact e
          · rw [if_neg e] at hl; split at hl <;> omega
        have h2 : ¬ s.occ (t + h) = some i := fun e => by rw [if_pos h1, if_pos e] at hl; omega
        refine ⟨t, by omega, fun x h3 h4 => by obtain rfl : x = t + 1 := by omega
                                               simpa using hrel, by rw [h1]; exact fun e => h2 e.symm, ?_⟩
        obtain ⟨_, b, c⟩ := (Sys.occ_iff ok).1 h1
        by_cases hex : ∃ j, j < s.n ∧ s.Q i < s.Q j ∧ 0 < s.st (t + h) j
        · obtain ⟨j, hj, hq, hp⟩ := hex
          exact ⟨j, hj, hq, by have := c j hj hq; omega⟩
        · exfalso
          exact h2 ((Sys.occ_iff ok).2 ⟨hi, by omega, fun j hj hq => by
            by_cases e : 0 < s.st (t + h) j
            · exact absurd ⟨j, hj, hq, e⟩ hex
            · omega⟩)

theorem Sys.p_le {i : Nat} (hi : i < s.n) : s.P i ≤ h := by
  have h1 := ok.h1; have hd := ok.dv i hi
  rw [← hh]; exact Int.le_of_dvd (by omega) (Int.dvd_of_emod_eq_zero hd)

omit hh in
/-- Within a period there is a release. -/
theorem Sys.rel_near {i : Nat} (hi : i < s.n) {u t : Nat} (ho : s.O i ≤ t) (hx : ∀ x : Nat, u < x → x ≤ t → ¬ s.rel i x) : (t : Int) - u < s.P i := by
  have hp := ok.p1 i hi; have h0 := ok.o0 i hi
  by_cases e : (t : Int) - u < s.P i
  · exact e
  · exfalso
    have m0 := Int.emod_nonneg ((t : Int) - s.O i) (show s.P i ≠ 0 by omega)
    have m1 := Int.emod_lt_of_pos ((t : Int) - s.O i) (show 0 < s.P i by omega)
    have m3 := Int.mul_ediv_add_emod ((t : Int) - s.O i) (s.P i)
    have m4 : 0 ≤ ((t : Int) - s.O i) / s.P i := Int.ediv_nonneg (by omega) (by omega)
    have m5 : 0 ≤ s.P i * (((t : Int) - s.O i) / s.P i) := Int.mul_nonneg (by omega) m4
    have m2 : ((t : Int) - s.O i) % s.P i ≤ (t : Int) - s.O i := by omega
    have key := hx (t - ((t : Int) - s.O i) % s.P i).toNat (by omega) (by omega)
    apply key
    rw [Int.toNat_of_nonneg (by omega)]
    refine ⟨by omega, ?_⟩
    rw [show (t : Int) - ((t : Int) - s.O i) % s.P i - s.O i = ((t : Int) - s.O i) - ((t : Int) - s.O i) % s.P i by omega]
    rw [show ((t : Int) - s.O i) - ((t : Int) - s.O i) % s.P i = s.P i * (((t : Int) - s.O i) / s.P i) by omega]
    exact Int.mul_emod_right _ _

/-- FROM H ON THE OCCUPANTS COME AGAIN. -/
theorem Sys.occ_again {t : Nat} (ht : h ≤ t) : s.occ (t + h) = s.occ t := by
  have lagUp : ∀ i, i < s.n → s.st t i < s.st (t + h) i → ∃ j, j < s.n ∧ s.Q i < s.Q j ∧ 0 < s.st t j := by
    intro i hi hl
    have hpl := Sys.p_le ok hh hi
    have hop := ok.op i hi
    obtain ⟨u, hu, hx, _, j, hj, hq, hlj⟩ := Sys.lag ok hh hi t (by omega) hl
    have hnear := Sys.rel_near ok hi (by omega) hx
    by_cases hex : ∃ j, j < s.n ∧ s.Q i < s.Q j ∧ 0 < s.st t j
    · exact hex
    · exfalso
      have hz : ∀ k, k < s.n → s.Q i < s.Q k → s.st (t - h) k = s.st (t - h + h) k := fun k hk hqk => by
        have a1 : ¬ 0 < s.st t k := fun e => hex ⟨k, hk, hqk, e⟩
        have a2 := Sys.dom ok hh (t - h) k hk
        have a3 := Sys.st_nonneg ok (t - h) k hk
        rw [show t - h + h = t by omega] at *
        omega
      have := Sys.agree ok hh (s.Q i) (t - h) hz (u - (t - h)) j hj hq
      rw [show t - h + (u - (t - h)) = u by omega] at this
      omega
  cases h2 : s.occ (t + h) with
  | none =>
    have h0 := Sys.pick_none.1 h2
    exact (Sys.pick_none.2 (fun i hi => by have := h0 i hi; have := Sys.dom ok hh t i hi; omega)).symm
  | some j =>
    obtain ⟨a, b, c⟩ := (Sys.occ_iff ok).1 h2
    refine ((Sys.occ_iff ok).2 ⟨a, ?_, fun k hk hq => by have := c k hk hq; have := Sys.dom ok hh t k hk; omega⟩).symm
    by_cases e : 0 < s.st t j
    · exact e
    · exfalso
      obtain ⟨k, hk, hq, hp⟩ := lagUp j a (by omega)
      have := c k hk hq; have := Sys.dom ok hh t k hk
      omega

/-- FROM 2 H ON THE RESTS COME AGAIN. -/
theorem Sys.st_again {t i : Nat} (hi : i < s.n) (ht : 2 * h ≤ t) : s.st (t + h) i = s.st t i := by
  have hd := Sys.dom ok hh t i hi
  by_cases hl : s.st t i < s.st (t + h) i
  · exfalso
    have hpl := Sys.p_le ok hh hi
    have hop := ok.op i hi
    obtain ⟨u, hu, hx, hne, _⟩ := Sys.lag ok hh hi t (by omega) hl
    have hnear := Sys.rel_near ok hi (by omega) hx
    exact hne (Sys.occ_again ok hh (by omega)).symm
  · omega

theorem Sys.st_again_mul {t i : Nat} (hi : i < s.n) (ht : 2 * h ≤ t) : ∀ k : Nat, s.st (t + k * h) i = s.st t i
  | 0 => by simp
  | k + 1 => by
    rw [show t + (k + 1) * h = (t + k * h) + h by rw [Nat.add_mul]; omega, Sys.st_again ok hh hi (by omega)]
    exact Sys.st_again_mul hi ht k
end

/-- FROM CHANGE TO CHANGE: no release between, and the occupant's rest lasts. -/
theorem Sys.jump {s : Sys} {H : Int} (ok : s.Ok H) (t : Nat) : ∀ (d : Nat), (∀ x : Nat, t < x → x < t + d → ∀ i, i < s.n → ¬ s.rel i x) → (∀ i, s.occ t = some i → (d : Int) ≤ s.st t i) →
    (∀ x, x < d → s.occ (t + x) = s.occ t ∧ ∀ i, i < s.n → s.st (t + x) i = if s.occ t = some i then s.st t i - x else s.st t i) ∧
    (0 < d → ∀ i, i < s.n → s.st (t + d) i = if s.rel i ((t + d : Nat) : Int) then s.B i else if s.occ t = some i then s.st t i - d else s.st t i)
  | 0, _, _ => ⟨fun x hx => absurd hx (Nat.not_lt_zero _), fun h => absurd h (Nat.lt_irrefl _)⟩
  | d + 1, hr, hl => by
    obtain ⟨ih1, ih2⟩ := Sys.jump ok t d (fun x h1 h2 => hr x h1 (by omega)) (fun i hi => by have := hl i hi; omega)
    have key : s.occ (t + d) = s.occ t ∧ ∀ i, i < s.n → s.st (t + d) i = if s.occ t = some i then s.st t i - d else s.st t i := by
      by_cases hd : d = 0
      · subst hd; refine ⟨rfl, fun i hi => ?_⟩; simp
      · have hst : ∀ i, i < s.n → s.st (t + d) i = if s.occ t = some i then s.st t i - d else s.st t i := fun i hi => by
          rw [ih2 (by omega) i hi, if_neg (hr (t + d) (by omega) (by omega) i hi)]
        refine ⟨?_, hst⟩
        cases ho : s.occ t with
        | none =>
          refine Sys.pick_none.2 fun i hi => ?_
          rw [hst i hi, if_neg (by rw [ho]; simp)]
          exact Sys.pick_none.1 ho i hi
        | some j =>
          obtain ⟨a, b, c⟩ := (Sys.occ_iff ok).1 ho
          refine (Sys.occ_iff ok).2 ⟨a, ?_, fun k hk hq => ?_⟩
          · rw [hst j a, if_pos ho]; have := hl j ho; omega
          · rw [hst k hk, if_neg (fun e => by rw [ho] at e; have := Option.some.inj e; subst this; omega)]
            exact c k hk hq
    refine ⟨fun x hx => ?_, fun _ i hi => ?_⟩
    · by_cases e : x < d
      · exact ih1 x e
      · obtain rfl : x = d := by omega
        exact key
    · rw [show t + (d + 1) = (t + d) + 1 by omega, Sys.st_succ, key.1, key.2 i hi, show ((t + d : Nat) : Int) + 1 = ((t + d + 1 : Nat) : Int) by omega]
      by_cases e : s.rel i ((t + d + 1 : Nat) : Int)
      · rw [if_pos e, if_pos e]
      · rw [if_neg e, if_neg e]
        by_cases e2 : s.occ t = some i
        · rw [if_pos e2, if_pos e2, if_pos e2]; omega
        · rw [if_neg e2, if_neg e2, if_neg e2]

end Bulk
