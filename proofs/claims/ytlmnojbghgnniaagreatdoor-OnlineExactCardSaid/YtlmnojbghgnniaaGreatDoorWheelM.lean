/- The timer wheel of seven levels, in plain Lean: where a timer lies, what the first slot that is not empty tells, what moving on and firing leave. -/
import Derived.Lib.BitFns
import Derived.Lib.ItoaNum
namespace Bulk

/-- The powers of 64. -/
def pw : Nat → Nat
  | 0 => 1 | 1 => 64 | 2 => 4096 | 3 => 262144 | 4 => 16777216 | 5 => 1073741824 | 6 => 68719476736 | _ => 4398046511104

/-- A tick's digit at a level. -/
def dg (t l : Nat) : Nat := t / pw l % 64

/-- The level at which a timer of tick t lies when the wheel stands at n. -/
def lv (t n : Nat) : Nat :=
  if t / 64 = n / 64 then 0 else if t / 4096 = n / 4096 then 1 else if t / 262144 = n / 262144 then 2 else if t / 16777216 = n / 16777216 then 3
  else if t / 1073741824 = n / 1073741824 then 4 else if t / 68719476736 = n / 68719476736 then 5 else 6

theorem dg_lt (t l : Nat) : dg t l < 64 := Nat.mod_lt _ (by omega)

theorem lv_le (t n : Nat) : lv t n ≤ 6 := by unfold lv; repeat' split
                                             all_goals omega

theorem lv_above {t n : Nat} (ht : t < 4398046511104) (hn : n < 4398046511104) : t / pw (lv t n + 1) = n / pw (lv t n + 1) := by
  unfold lv
  split
  · simpa [pw]
  · split
    · simpa [pw]
    · split
      · simpa [pw]
      · split
        · simpa [pw]
        · split
          · simpa [pw]
          · split
            · simpa [pw]
            · simp [pw]; omega

theorem lv_at {t n : Nat} (h : 0 < lv t n) : t / pw (lv t n) ≠ n / pw (lv t n) := by
  unfold lv at *
  split at h
  · omega
  · rename_i h0
    rw [if_neg h0]
    split at h
    · rename_i h1; rw [if_pos h1]; simpa [pw] using h0
    · rename_i h1
      rw [if_neg h1]
      split at h
      · rename_i h2; rw [if_pos h2]; simpa [pw] using h1
      · rename_i h2
        rw [if_neg h2]
        split at h
        · rename_i h3; rw [if_pos h3]; simpa [pw] using h2
        · rename_i h3
          rw [if_neg h3]
          split at h
          · rename_i h4; rw [if_pos h4]; simpa [pw] using h3
          · rename_i h4
            rw [if_neg h4]
            split at h
            · rename_i h5; rw [if_pos h5]; simpa [pw] using h4
            · rename_i h5; rw [if_neg h5]; simpa [pw] using h5

theorem pw_step (t l : Nat) (h : l ≤ 6) : t / pw l / 64 = t / pw (l + 1) := by
  rw [Nat.div_div_eq_div_mul]
  congr 1
  match l, h with
  | 0, _ => rfl
  | 1, _ => rfl
  | 2, _ => rfl
  | 3, _ => rfl
  | 4, _ => rfl
  | 5, _ => rfl
  | 6, _ => rfl

theorem pw_pos (l : Nat) : 0 < pw l := by unfold pw; split <;> omega

/-- Equal above a level: equal above any higher one. -/
theorem pw_up {t n : Nat} {l : Nat} : ∀ (m : Nat), l ≤ m → m ≤ 7 → t / pw l = n / pw l → t / pw m = n / pw m
  | 0, h1, _, h => by obtain rfl : l = 0 := by omega
                      exact h
  | m + 1, h1, h2, h => by
    by_cases e : l = m + 1
    · subst e; exact h
    · have := pw_up m (by omega) (by omega) h
      rw [← pw_step t m (by omega), ← pw_step n m (by omega), this]

theorem lv_unique {t n l : Nat} (hl : l ≤ 6) (ht : t < 4398046511104) (hn : n < 4398046511104) (h1 : t / pw (l + 1) = n / pw (l + 1)) (h2 : 0 < l → t / pw l ≠ n / pw l) : lv t n = l := by
  have a1 := lv_above ht hn
  have a2 := lv_le t n
  rcases Nat.lt_trichotomy (lv t n) l with h | h | h
  · exact absurd (pw_up l (by omega) (by omega) a1) (h2 (by omega))
  · exact h
  · exact absurd (pw_up (lv t n) (by omega) (by omega) h1) (lv_at (by omega))

theorem xor_zero_iff {a b : Nat} : a ^^^ b = 0 ↔ a = b := by
  constructor
  · intro h
    have e : (a ^^^ b) ^^^ b = a := by rw [Nat.xor_assoc, Nat.xor_self, Nat.xor_zero]
    rw [h, Nat.zero_xor] at e
    exact e.symm
  · intro h; subst h; exact Nat.xor_self _

/-- Go's own reckoning of the level. -/
theorem lv_bits {t n : Nat} (ht : t < 4398046511104) (hn : n < 4398046511104) : (Go.Lib.bitLen (t ^^^ n) - 1) / 6 = lv t n := by
  have hx : t ^^^ n < 4398046511104 := Nat.xor_lt_two_pow (n := 42) ht hn
  have hsh : ∀ k : Nat, (t ^^^ n) / 2 ^ k = 0 ↔ t / 2 ^ k = n / 2 ^ k := fun k => by
    rw [← Nat.shiftRight_eq_div_pow, ← Nat.shiftRight_eq_div_pow, ← Nat.shiftRight_eq_div_pow, Nat.shiftRight_xor_distrib]
    exact xor_zero_iff
  have hpw : ∀ l, l ≤ 7 → pw l = 2 ^ (6 * l) := fun l hl => by
    match l, hl with
    | 0, _ => rfl
    | 1, _ => rfl
    | 2, _ => rfl
    | 3, _ => rfl
    | 4, _ => rfl
    | 5, _ => rfl
    | 6, _ => rfl
    | 7, _ => rfl
  have hl := lv_le t n
  have a1 := lv_above ht hn
  rw [hpw _ (by omega), ← hsh] at a1
  have b1 : t ^^^ n < 2 ^ (6 * (lv t n + 1)) := by
    rcases Nat.div_eq_zero_iff.1 a1 with h | h
    · have := Nat.two_pow_pos (6 * (lv t n + 1)); omega
    · exact h
  by_cases h0 : t ^^^ n = 0
  · have e : lv t n = 0 := by
      have : t = n := xor_zero_iff.1 h0
      subst this; simp [lv]
    rw [h0, e]; rfl
  · obtain ⟨c1, c2, c3⟩ := Go.Lib.bitLenAux_bounds 64 (t ^^^ n) (by omega) h0
    change 1 ≤ Go.Lib.bitLen (t ^^^ n) at c1
    change 2 ^ (Go.Lib.bitLen (t ^^^ n) - 1) ≤ t ^^^ n at c2
    change t ^^^ n < 2 ^ (Go.Lib.bitLen (t ^^^ n)) at c3
    generalize Go.Lib.bitLen (t ^^^ n) = L at *
    have u : L - 1 < 6 * (lv t n + 1) := by
      have := Nat.lt_of_le_of_lt c2 b1
      exact (Nat.pow_lt_pow_iff_right (by omega)).1 this
    have lo : 6 * lv t n ≤ L - 1 := by
      by_cases e : lv t n = 0
      · omega
      · have a2 := lv_at (t := t) (n := n) (by omega)
        rw [hpw _ (by omega)] at a2
        have b2 : 2 ^ (6 * lv t n) ≤ t ^^^ n := by
          by_cases f : 2 ^ (6 * lv t n) ≤ t ^^^ n
          · exact f
          · exact absurd ((hsh _).1 (Nat.div_eq_of_lt (by omega))) a2
        have := Nat.lt_of_le_of_lt b2 c3
        have := (Nat.pow_lt_pow_iff_right (by omega : 1 < 2)).1 this
        omega
    omega

/-! ### The map of ticks, as a list -/
def aget : List (Int × Int) → Int → Option Int
  | [], _ => none
  | (a, b) :: l, k => if a = k then some b else aget l k

/-- The place of a key. -/
def aidx : List (Int × Int) → Int → Nat → Option (Nat × Int)
  | [], _, _ => none
  | (a, b) :: l, k, i => if k = a then some (i, b) else aidx l k (i + 1)

def aset (l : List (Int × Int)) (k v : Int) : List (Int × Int) :=
  match l with
  | [] => [(k, v)]
  | (a, b) :: l => if a = k then (k, v) :: l else (a, b) :: aset l k v

def adel : List (Int × Int) → Int → List (Int × Int)
  | [], _ => []
  | (a, b) :: l, k => if a = k then l else (a, b) :: adel l k

def AKeys (l : List (Int × Int)) : Prop := (l.map (·.1)).Nodup

theorem aget_set (l : List (Int × Int)) (k v k' : Int) : aget (aset l k v) k' = if k' = k then some v else aget l k' := by
  induction l with
  | nil => simp only [aset, aget]; by_cases h : k = k' <;> simp [h, eq_comm]
  | cons x l ih =>
    obtain ⟨a, b⟩ := x
    simp only [aset]
    by_cases h : a = k
    · subst h; rw [if_pos rfl]; simp only [aget]
      by_cases h2 : a = k'
      · subst h2; simp
      · rw [if_neg h2, if_neg (fun e => h2 e.symm), if_neg h2]
    · rw [if_neg h]; simp only [aget, ih]
      by_cases h2 : a = k'
      · subst h2; rw [if_pos rfl, if_neg h, if_pos rfl]
      · rw [if_neg h2, if_neg h2]

theorem aget_none {l : List (Int × Int)} {k : Int} : aget l k = none ↔ k ∉ l.map (·.1) := by
  induction l with
  | nil => simp [aget]
  | cons x l ih =>
    obtain ⟨a, b⟩ := x
    simp only [aget, List.map_cons, List.mem_cons, not_or]
    by_cases h : a = k
    · subst h; simp
    · rw [if_neg h, ih]
      exact ⟨fun e => ⟨fun e2 => h e2.symm, e⟩, fun e => e.2⟩

theorem adel_keys {l : List (Int × Int)} {k a : Int} (h : a ∈ (adel l k).map (·.1)) : a ∈ l.map (·.1) := by
  induction l with
  | nil => exact h
  | cons x l ih =>
    obtain ⟨c, b⟩ := x
    simp only [adel] at h
    split at h
    · exact List.mem_cons_of_mem _ h
    · rcases List.mem_cons.1 h with h | h
      · exact List.mem_cons.2 (.inl h)
      · exact List.mem_cons_of_mem _ (ih h)

theorem AKeys.del {l : List (Int × Int)} (h : AKeys l) (k : Int) : AKeys (adel l k) := by
  induction l with
  | nil => exact h
  | cons x l ih =>
    obtain ⟨a, b⟩ := x
    have h' := List.nodup_cons.1 h
    simp only [adel]
    split
    · exact h'.2
    · exact List.nodup_cons.2 ⟨fun e => h'.1 (adel_keys e), ih h'.2⟩

theorem aget_del {l : List (Int × Int)} (h : AKeys l) (k k' : Int) : aget (adel l k) k' = if k' = k then none else aget l k' := by
  induction l with
  | nil => simp [adel, aget]
  | cons x l ih =>
    obtain ⟨a, b⟩ := x
    have h' := List.nodup_cons.1 h
    simp only [adel]
    by_cases e : a = k
    · subst e; rw [if_pos rfl]
      by_cases e2 : k' = a
      · subst e2; rw [if_pos rfl]; exact aget_none.2 h'.1
      · rw [if_neg e2]; simp only [aget]; rw [if_neg (fun e3 => e2 e3.symm)]
    · rw [if_neg e]; simp only [aget]
      by_cases e2 : a = k'
      · subst e2; rw [if_pos rfl, if_neg e, if_pos rfl]
      · rw [if_neg e2, if_neg e2, ih h'.2]

theorem aset_keys {l : List (Int × Int)} {k v a : Int} (h : a ∈ (aset l k v).map (·.1)) : a = k ∨ a ∈ l.map (·.1) := by
  induction l with
  | nil => simp [aset] at h; exact .inl h
  | cons x l ih =>
    obtain ⟨c, b⟩ := x
    simp only [aset] at h
    split at h
    · rcases List.mem_cons.1 h with h | h
      · exact .inl h
      · exact .inr (List.mem_cons_of_mem _ h)
    · rcases List.mem_cons.1 h with h | h
      · exact .inr (List.mem_cons.2 (.inl h))
      · rcases ih h with h | h
        · exact .inl h
        · exact .inr (List.mem_cons_of_mem _ h)

theorem AKeys.set {l : List (Int × Int)} (h : AKeys l) (k v : Int) : AKeys (aset l k v) := by
  induction l with
  | nil => simp [aset, AKeys]
  | cons x l ih =>
    obtain ⟨a, b⟩ := x
    have h' := List.nodup_cons.1 h
    simp only [aset]
    split
    · rename_i e; subst e; exact h
    · rename_i e
      refine List.nodup_cons.2 ⟨fun hm => ?_, ih h'.2⟩
      rcases aset_keys hm with h | h
      · exact e h
      · exact h'.1 h

/-! ### What a wheel holds -/

/-- A wheel at n with the ticks T and the slots R is in order. -/
structure WInv (n : Nat) (R : Nat → Nat → List Int) (T : List (Int × Int)) : Prop where
  keys : AKeys T
  slot : ∀ l d, l < 7 → d < 64 → ∀ i ∈ R l d, ∃ t : Nat, aget T i = some (t : Int) ∧ lv t n = l ∧ dg t l = d
  tick : ∀ i z, aget T i = some z → ∃ t : Nat, z = t ∧ n ≤ t ∧ t < 1099511627776 ∧ i ∈ R (lv t n) (dg t (lv t n))
  nd : ∀ l d, l < 7 → d < 64 → (R l d).Nodup
  n0 : n ≤ 1099511627776

/-- One slot's list is another. -/
def rput (R : Nat → Nat → List Int) (l d : Nat) (xs : List Int) : Nat → Nat → List Int := fun a b => if a = l ∧ b = d then xs else R a b

theorem rput_same (R : Nat → Nat → List Int) (l d : Nat) (xs : List Int) : rput R l d xs l d = xs := by simp [rput]
theorem rput_ne (R : Nat → Nat → List Int) {l d a b : Nat} (xs : List Int) (h : ¬ (a = l ∧ b = d)) : rput R l d xs a b = R a b := by simp [rput, h]

theorem winv_new (n : Nat) (h : n ≤ 1099511627776) : WInv n (fun _ _ => []) [] :=
  ⟨by simp [AKeys], fun _ _ _ _ i hi => by simp at hi, fun i z hz => by simp [aget] at hz, fun _ _ _ _ => List.nodup_nil, h⟩

/-- A timer that is not there is laid. -/
theorem WInv.lay {n : Nat} {R : Nat → Nat → List Int} {T : List (Int × Int)} (h : WInv n R T) {i : Int} {t : Nat} (hi : aget T i = none) (h1 : n ≤ t) (h2 : t < 1099511627776) :
    WInv n (rput R (lv t n) (dg t (lv t n)) (R (lv t n) (dg t (lv t n)) ++ [i])) (aset T i t) := by
  have hn := h.n0
  have hno : ∀ l d, l < 7 → d < 64 → i ∉ R l d := fun l d hl hd hm => by
    obtain ⟨t', ht', _⟩ := h.slot l d hl hd i hm
    rw [hi] at ht'; cases ht'
  have hlv := lv_le t n
  have hdg := dg_lt t (lv t n)
  refine ⟨h.keys.set i t, fun l d hl hd j hj => ?_, fun j z hz => ?_, fun l d hl hd => ?_, h.n0⟩
  · by_cases e : l = lv t n ∧ d = dg t (lv t n)
    · obtain ⟨rfl, rfl⟩ := e
      rw [rput_same] at hj
      rcases List.mem_append.1 hj with hj | hj
      · obtain ⟨t', a, b, c⟩ := h.slot _ _ hl hd j hj
        have hne : j ≠ i := fun e => hno _ _ hl hd (e ▸ hj)
        exact ⟨t', by rw [aget_set, if_neg hne]; exact a, b, c⟩
      · obtain rfl := List.mem_singleton.1 hj
        exact ⟨t, by rw [aget_set, if_pos rfl], rfl, rfl⟩
    · rw [rput_ne _ _ e] at hj
      obtain ⟨t', a, b, c⟩ := h.slot l d hl hd j hj
      have hne : j ≠ i := fun e => by subst e; exact hno _ _ hl hd hj
      exact ⟨t', by rw [aget_set, if_neg hne]; exact a, b, c⟩
  · rw [aget_set] at hz
    split at hz
    · rename_i e; subst e
      obtain rfl := Option.some.inj hz
      exact ⟨t, rfl, h1, h2, by rw [rput_same]; simp⟩
    · obtain ⟨t', a, b, c, d⟩ := h.tick j z hz
      refine ⟨t', a, b, c, ?_⟩
      by_cases e : lv t' n = lv t n ∧ dg t' (lv t' n) = dg t (lv t n)
      · rw [e.2] at d ⊢; rw [e.1] at d ⊢; rw [rput_same]; exact List.mem_append_left _ d
      · rw [rput_ne _ _ e]; exact d
  · by_cases e : l = lv t n ∧ d = dg t (lv t n)
    · obtain ⟨rfl, rfl⟩ := e
      rw [rput_same]
      refine List.nodup_append.2 ⟨h.nd _ _ hl hd, by simp, fun a ha b hb => ?_⟩
      obtain rfl := List.mem_singleton.1 hb
      exact fun e => by subst e; exact hno _ _ hl hd ha
    · rw [rput_ne _ _ e]; exact h.nd l d hl hd

theorem div_mono {a b k : Nat} (h : a ≤ b) : a / k ≤ b / k := Nat.div_le_div_right h

/-- A timer's digit is not below the wheel's own. -/
theorem dg_ge {n t l : Nat} (hl : l ≤ 6) (h : n ≤ t) (he : t / pw (l + 1) = n / pw (l + 1)) : dg n l ≤ dg t l := by
  unfold dg
  have h1 := pw_step t l hl
  have h2 := pw_step n l hl
  have h3 : n / pw l ≤ t / pw l := div_mono h
  omega

/-- WHAT THE FIRST SLOT TELLS: no timer is below those that lie in it. -/
theorem WInv.first {n : Nat} {R : Nat → Nat → List Int} {T : List (Int × Int)} (h : WInv n R T) {l d : Nat} (hl : l < 7) (hd : d < 64)
    (hlow : ∀ a b, a < l → b < 64 → dg n a ≤ b → R a b = []) (hsame : ∀ b, b < d → dg n l ≤ b → R l b = []) {i : Int} {t : Nat} (hi : i ∈ R l d) (ht : aget T i = some (t : Int)) :
    ∀ j (z : Nat), aget T j = some (z : Int) → j ∈ R l d ∨ t < z := by
  intro j z hz
  have hn := h.n0
  obtain ⟨t0, a0, b0, c0⟩ := h.slot l d hl hd i hi
  have e0 : t0 = t := by rw [ht] at a0; have := Option.some.inj a0; omega
  subst e0
  obtain ⟨t1, e1, f1, g1, hm⟩ := h.tick i t0 ht
  obtain rfl : t1 = t0 := by omega
  obtain ⟨z', e2, f2, g2, hm2⟩ := h.tick j z hz
  obtain rfl : z' = z := by omega
  have A := lv_above (t := t1) (n := n) (by omega) (by omega)
  have Z := lv_above (t := z') (n := n) (by omega) (by omega)
  have hz6 := lv_le z' n
  rw [b0] at A
  have hge : dg n (lv z' n) ≤ dg z' (lv z' n) := dg_ge hz6 f2 Z
  rcases Nat.lt_trichotomy (lv z' n) l with hc | hc | hc
  · rw [hlow _ _ hc (dg_lt _ _) hge] at hm2; cases hm2
  · rw [hc] at hm2 hge Z
    rcases Nat.lt_trichotomy (dg z' l) d with hk | hk | hk
    · rw [hsame _ hk hge] at hm2; cases hm2
    · left; rw [hk] at hm2; exact hm2
    · right
      have p1 := pw_step t1 l (by omega)
      have p2 := pw_step z' l (by omega)
      unfold dg at hk c0
      have : t1 / pw l < z' / pw l := by omega
      by_cases e : t1 < z'
      · exact e
      · have := div_mono (k := pw l) (show z' ≤ t1 by omega); omega
  · right
    have hat := lv_at (t := z') (n := n) (by omega)
    have hle : n / pw (lv z' n) ≤ z' / pw (lv z' n) := div_mono f2
    have hup := pw_up (lv z' n) (show l + 1 ≤ lv z' n by omega) (by omega) A
    by_cases e : t1 < z'
    · exact e
    · have := div_mono (k := pw (lv z' n)) (show z' ≤ t1 by omega); omega

/-- No slot holds a timer: there is none. -/
theorem WInv.empty {n : Nat} {R : Nat → Nat → List Int} {T : List (Int × Int)} (h : WInv n R T) (hall : ∀ a b, a < 7 → b < 64 → dg n a ≤ b → R a b = []) : T = [] := by
  have hn := h.n0
  cases T with
  | nil => rfl
  | cons x l =>
    obtain ⟨a, b⟩ := x
    obtain ⟨t, e, f, g, hm⟩ := h.tick a b (by simp [aget])
    have Z := lv_above (t := t) (n := n) (by omega) (by omega)
    rw [hall _ _ (by have := lv_le t n; omega) (dg_lt _ _) (dg_ge (lv_le t n) f Z)] at hm
    cases hm

/-! ### Moving on -/

/-- While the wheel is led to m: the levels above k are in order for m, those up to k are to be looked through. -/
structure WMove (m k : Nat) (R : Nat → Nat → List Int) (T : List (Int × Int)) : Prop where
  keys : AKeys T
  done : ∀ l d, k < l → l < 7 → d < 64 → ∀ i ∈ R l d, ∃ t : Nat, aget T i = some (t : Int) ∧ lv t m = l ∧ dg t l = d
  todo : ∀ l d, l ≤ k → l < 7 → d < 64 → ∀ i ∈ R l d, ∃ t : Nat, aget T i = some (t : Int) ∧ t / pw (l + 1) = m / pw (l + 1) ∧ dg t l = d
  tick : ∀ i z, aget T i = some z → ∃ t : Nat, z = t ∧ m ≤ t ∧ t < 1099511627776 ∧ ∃ l d, l < 7 ∧ d < 64 ∧ i ∈ R l d
  one : ∀ i l d a b, l < 7 → d < 64 → a < 7 → b < 64 → i ∈ R l d → i ∈ R a b → l = a ∧ d = b
  nd : ∀ l d, l < 7 → d < 64 → (R l d).Nodup
  n0 : m ≤ 1099511627776

theorem WInv.begin {n m : Nat} {R : Nat → Nat → List Int} {T : List (Int × Int)} (h : WInv n R T) (hnm : n ≤ m) (hm : m ≤ 1099511627776) (hlow : ∀ i z, aget T i = some z → (m : Int) ≤ z) : WMove m 6 R T := by
  have hn := h.n0
  refine ⟨h.keys, fun l d h1 h2 => by omega, fun l d _ hl hd i hi => ?_, fun i z hz => ?_, fun i l d a b hl hd ha hb h1 h2 => ?_, h.nd, hm⟩
  · obtain ⟨t, a, b, c⟩ := h.slot l d hl hd i hi
    obtain ⟨t', e, f, g, _⟩ := h.tick i t a
    obtain rfl : t' = t := by omega
    have hmt := hlow i t' a
    refine ⟨t', a, ?_, c⟩
    have A := lv_above (t := t') (n := n) (by omega) (by omega)
    rw [b] at A
    have l1 : n / pw (l + 1) ≤ m / pw (l + 1) := div_mono hnm
    have l2 : m / pw (l + 1) ≤ t' / pw (l + 1) := div_mono (by omega)
    omega
  · obtain ⟨t, e, f, g, hmm⟩ := h.tick i z hz
    have := hlow i z hz
    exact ⟨t, e, by omega, g, _, _, by have := lv_le t n; omega, dg_lt _ _, hmm⟩
  · obtain ⟨t, e1, f1, g1⟩ := h.slot l d hl hd i h1
    obtain ⟨t', e2, f2, g2⟩ := h.slot a b ha hb i h2
    rw [e1] at e2
    obtain rfl : t = t' := by have := Option.some.inj e2; omega
    exact ⟨by omega, by rw [← f1] at g1; rw [← f2] at g2; omega⟩

theorem WMove.finish {m : Nat} {R : Nat → Nat → List Int} {T : List (Int × Int)} (h : WMove m 0 R T) : WInv m R T := by
  have hm := h.n0
  have key : ∀ l d, l < 7 → d < 64 → ∀ i ∈ R l d, ∃ t : Nat, aget T i = some (t : Int) ∧ lv t m = l ∧ dg t l = d := fun l d hl hd i hi => by
    by_cases e : 0 < l
    · exact h.done l d e hl hd i hi
    · obtain rfl : l = 0 := by omega
      obtain ⟨t, a, b, c⟩ := h.todo 0 d (by omega) hl hd i hi
      obtain ⟨t', e1, f, g, _⟩ := h.tick i t a
      obtain rfl : t' = t := by omega
      exact ⟨t', a, lv_unique (by omega) (by omega) (by omega) b (by omega), c⟩
  refine ⟨h.keys, key, fun i z hz => ?_, h.nd, hm⟩
  obtain ⟨t, e, f, g, l, d, hl, hd, hi⟩ := h.tick i z hz
  obtain ⟨t', a, b, c⟩ := key l d hl hd i hi
  rw [hz, e] at a
  obtain rfl : t = t' := by have := Option.some.inj a; omega
  refine ⟨t, e, f, g, ?_⟩
  rw [b, c]; exact hi

/-- In the midst of a level's slot: it has been emptied; the timers 'rest' of it are not laid down yet. -/
structure WMid (m k : Nat) (R : Nat → Nat → List Int) (T : List (Int × Int)) (rest : List Int) : Prop where
  keys : AKeys T
  done : ∀ l d, k ≤ l → l < 7 → d < 64 → ∀ i ∈ R l d, ∃ t : Nat, aget T i = some (t : Int) ∧ lv t m = l ∧ dg t l = d
  todo : ∀ l d, l < k → l < 7 → d < 64 → ∀ i ∈ R l d, ∃ t : Nat, aget T i = some (t : Int) ∧ t / pw (l + 1) = m / pw (l + 1) ∧ dg t l = d
  out : ∀ i ∈ rest, (∃ t : Nat, aget T i = some (t : Int) ∧ m ≤ t ∧ t < 1099511627776 ∧ t / pw k = m / pw k) ∧ ∀ l d, l < 7 → d < 64 → i ∉ R l d
  rnd : rest.Nodup
  tick : ∀ i z, aget T i = some z → ∃ t : Nat, z = t ∧ m ≤ t ∧ t < 1099511627776 ∧ (i ∈ rest ∨ ∃ l d, l < 7 ∧ d < 64 ∧ i ∈ R l d)
  one : ∀ i l d a b, l < 7 → d < 64 → a < 7 → b < 64 → i ∈ R l d → i ∈ R a b → l = a ∧ d = b
  nd : ∀ l d, l < 7 → d < 64 → (R l d).Nodup
  n0 : m ≤ 1099511627776
  k1 : 1 ≤ k ∧ k ≤ 6

theorem WMove.take {m k : Nat} {R : Nat → Nat → List Int} {T : List (Int × Int)} (h : WMove m k R T) (hk : 1 ≤ k ∧ k ≤ 6) : WMid m k (rput R k (dg m k) []) T (R k (dg m k)) := by
  have hm := h.n0
  have hdm := dg_lt m k
  have sub : ∀ {l d : Nat} {i : Int}, i ∈ rput R k (dg m k) [] l d → i ∈ R l d ∧ ¬ (l = k ∧ d = dg m k) := fun {l d i} hi => by
    by_cases e : l = k ∧ d = dg m k
    · obtain ⟨rfl, rfl⟩ := e; rw [rput_same] at hi; cases hi
    · rw [rput_ne _ _ e] at hi; exact ⟨hi, e⟩
  refine ⟨h.keys, fun l d h1 hl hd i hi => ?_, fun l d h1 hl hd i hi => h.todo l d (by omega) hl hd i (sub hi).1, fun i hi => ?_, h.nd k _ (by omega) hdm, fun i z hz => ?_,
    fun i l d a b hl hd ha hb h1 h2 => h.one i l d a b hl hd ha hb (sub h1).1 (sub h2).1, fun l d hl hd => ?_, hm, hk⟩
  · obtain ⟨hi', hne⟩ := sub hi
    by_cases e : k < l
    · exact h.done l d e hl hd i hi'
    · obtain rfl : l = k := by omega
      obtain ⟨t, a, b, c⟩ := h.todo l d (Nat.le_refl _) hl hd i hi'
      obtain ⟨t', e1, f, g, _⟩ := h.tick i t a
      obtain rfl : t' = t := by omega
      refine ⟨t', a, lv_unique (by omega) (by omega) (by omega) b (fun _ e2 => hne ⟨rfl, ?_⟩), c⟩
      rw [← c]; unfold dg; rw [e2]
  · obtain ⟨t, a, b, c⟩ := h.todo k _ (Nat.le_refl _) (by omega) hdm i hi
    obtain ⟨t', e1, f, g, _⟩ := h.tick i t a
    obtain rfl : t' = t := by omega
    refine ⟨⟨t', a, f, g, ?_⟩, fun l d hl hd hi2 => ?_⟩
    · have p1 := pw_step t' k (by omega)
      have p2 := pw_step m k (by omega)
      unfold dg at c
      omega
    · obtain ⟨x, y⟩ := sub hi2
      have := h.one i l d k (dg m k) hl hd (by omega) hdm x hi
      exact y this
  · obtain ⟨t, e, f, g, l, d, hl, hd, hi⟩ := h.tick i z hz
    refine ⟨t, e, f, g, ?_⟩
    by_cases e2 : l = k ∧ d = dg m k
    · obtain ⟨rfl, rfl⟩ := e2; exact .inl hi
    · exact .inr ⟨l, d, hl, hd, by rw [rput_ne _ _ e2]; exact hi⟩
  · by_cases e : l = k ∧ d = dg m k
    · obtain ⟨rfl, rfl⟩ := e; rw [rput_same]; exact List.nodup_nil
    · rw [rput_ne _ _ e]; exact h.nd l d hl hd

/-- One of them is laid down where it belongs now. -/
theorem WMid.lay {m k : Nat} {R : Nat → Nat → List Int} {T : List (Int × Int)} {i : Int} {rest : List Int} (h : WMid m k R T (i :: rest)) :
    ∃ t : Nat, aget T i = some (t : Int) ∧ m ≤ t ∧ t < 1099511627776 ∧ WMid m k (rput R (lv t m) (dg t (lv t m)) (R (lv t m) (dg t (lv t m)) ++ [i])) (aset T i t) rest := by
  have hm := h.n0
  have hk := h.k1
  obtain ⟨⟨t, a, f, g, hq⟩, hno⟩ := h.out i (by simp)
  refine ⟨t, a, f, g, ?_⟩
  have hsame : ∀ j, aget (aset T i t) j = aget T j := fun j => by
    rw [aget_set]; split
    · rename_i e; subst e; exact a.symm
    · rfl
  have hl6 := lv_le t m
  have hdl := dg_lt t (lv t m)
  have hlk : lv t m < k := by
    by_cases e : lv t m < k
    · exact e
    · exact absurd (pw_up (lv t m) (by omega) (by omega) hq) (lv_at (by omega))
  have hA := lv_above (t := t) (n := m) (by omega) (by omega)
  have hrnd := List.nodup_cons.1 h.rnd
  have sub : ∀ {l d : Nat} {j : Int}, j ∈ rput R (lv t m) (dg t (lv t m)) (R (lv t m) (dg t (lv t m)) ++ [i]) l d → j ∈ R l d ∨ (j = i ∧ l = lv t m ∧ d = dg t (lv t m)) := fun {l d j} hj => by
    by_cases e : l = lv t m ∧ d = dg t (lv t m)
    · obtain ⟨rfl, rfl⟩ := e; rw [rput_same] at hj
      rcases List.mem_append.1 hj with hj | hj
      · exact .inl hj
      · exact .inr ⟨List.mem_singleton.1 hj, rfl, rfl⟩
    · rw [rput_ne _ _ e] at hj; exact .inl hj
  have sup : ∀ {l d : Nat} {j : Int}, j ∈ R l d → j ∈ rput R (lv t m) (dg t (lv t m)) (R (lv t m) (dg t (lv t m)) ++ [i]) l d := fun {l d j} hj => by
    by_cases e : l = lv t m ∧ d = dg t (lv t m)
    · obtain ⟨rfl, rfl⟩ := e; rw [rput_same]; exact List.mem_append_left _ hj
    · rw [rput_ne _ _ e]; exact hj
  refine ⟨h.keys.set i t, fun l d h1 hl hd j hj => ?_, fun l d h1 hl hd j hj => ?_, fun j hj => ?_, hrnd.2, fun j z hz => ?_, fun j l d a' b hl hd ha hb h1 h2 => ?_, fun l d hl hd => ?_, hm, hk⟩
  · rw [hsame]
    rcases sub hj with hj | ⟨rfl, rfl, rfl⟩
    · exact h.done l d h1 hl hd j hj
    · omega
  · rw [hsame]
    rcases sub hj with hj | ⟨rfl, rfl, rfl⟩
    · exact h.todo l d h1 hl hd j hj
    · exact ⟨t, a, hA, rfl⟩
  · rw [hsame]
    obtain ⟨p, q⟩ := h.out j (List.mem_cons_of_mem _ hj)
    refine ⟨p, fun l d hl hd hm2 => ?_⟩
    rcases sub hm2 with hm2 | ⟨rfl, _, _⟩
    · exact q l d hl hd hm2
    · exact hrnd.1 hj
  · rw [hsame] at hz
    obtain ⟨t', e, f', g', hor⟩ := h.tick j z hz
    refine ⟨t', e, f', g', ?_⟩
    rcases hor with hor | ⟨l, d, hl, hd, hj⟩
    · rcases List.mem_cons.1 hor with rfl | hor
      · exact .inr ⟨lv t m, dg t (lv t m), by omega, hdl, by rw [rput_same]; simp⟩
      · exact .inl hor
    · exact .inr ⟨l, d, hl, hd, sup hj⟩
  · rcases sub h1 with h1 | ⟨rfl, rfl, rfl⟩
    · rcases sub h2 with h2 | ⟨e, _, _⟩
      · exact h.one j l d a' b hl hd ha hb h1 h2
      · exact absurd (e ▸ h1) (hno _ _ hl hd)
    · rcases sub h2 with h2 | ⟨_, rfl, rfl⟩
      · exact absurd h2 (hno _ _ ha hb)
      · exact ⟨rfl, rfl⟩
  · by_cases e : l = lv t m ∧ d = dg t (lv t m)
    · obtain ⟨rfl, rfl⟩ := e
      rw [rput_same]
      refine List.nodup_append.2 ⟨h.nd _ _ hl hd, by simp, fun x hx b hb => ?_⟩
      obtain rfl := List.mem_singleton.1 hb
      exact fun e => by subst e; exact hno _ _ hl hd hx
    · rw [rput_ne _ _ e]; exact h.nd l d hl hd

theorem WMid.finish {m k : Nat} {R : Nat → Nat → List Int} {T : List (Int × Int)} (h : WMid m k R T []) : WMove m (k - 1) R T := by
  have hk := h.k1
  refine ⟨h.keys, fun l d h1 hl hd i hi => h.done l d (by omega) hl hd i hi, fun l d h1 hl hd i hi => h.todo l d (by omega) hl hd i hi, fun i z hz => ?_, h.one, h.nd, h.n0⟩
  obtain ⟨t, e, f, g, hor⟩ := h.tick i z hz
  rcases hor with hor | hor
  · cases hor
  · exact ⟨t, e, f, g, hor⟩

/-! ### Firing -/

/-- All that lie in the slot of the wheel's own tick run out now. -/
theorem WInv.due {n : Nat} {R : Nat → Nat → List Int} {T : List (Int × Int)} (h : WInv n R T) (i : Int) : i ∈ R 0 (dg n 0) ↔ aget T i = some (n : Int) := by
  have hn := h.n0
  constructor
  · intro hi
    obtain ⟨t, a, b, c⟩ := h.slot 0 _ (by omega) (dg_lt _ _) i hi
    obtain ⟨t', e, f, g, _⟩ := h.tick i t a
    obtain rfl : t' = t := by omega
    have A := lv_above (t := t') (n := n) (by omega) (by omega)
    rw [b] at A
    simp only [pw, dg, Nat.div_one] at A c
    rw [a, show t' = n by omega]
  · intro hi
    obtain ⟨t', e, f, g, hm⟩ := h.tick i n hi
    obtain rfl : t' = n := by omega
    have : lv t' t' = 0 := by simp [lv]
    rwa [this] at hm

/-- The timers of a list are forgotten, and the slot they lay in is empty. -/
def adels : List (Int × Int) → List Int → List (Int × Int)
  | T, [] => T
  | T, i :: l => adels (adel T i) l

theorem adels_keys {T : List (Int × Int)} (h : AKeys T) : ∀ (l : List Int), AKeys (adels T l)
  | [] => h
  | i :: l => adels_keys (h.del i) l

theorem aget_dels {T : List (Int × Int)} (h : AKeys T) : ∀ (l : List Int) (k : Int), aget (adels T l) k = if k ∈ l then none else aget T k
  | [], k => by simp [adels]
  | i :: l, k => by
    induction l generalizing T i with
    | nil => simp only [adels]; rw [aget_del h]; simp
    | cons j l ih =>
      have := ih (h.del i) j
      simp only [adels] at this ⊢
      rw [this, aget_del h]
      by_cases e : k = i
      · subst e; simp
      · simp [e]

theorem WInv.fire {n : Nat} {R : Nat → Nat → List Int} {T : List (Int × Int)} (h : WInv n R T) {l : List Int} (hl : ∀ i, i ∈ l ↔ i ∈ R 0 (dg n 0)) : WInv n (rput R 0 (dg n 0) []) (adels T l) := by
  have hn := h.n0
  have hget := aget_dels h.keys l
  have hdue := h.due
  refine ⟨adels_keys h.keys l, fun a b ha hb i hi => ?_, fun i z hz => ?_, fun a b ha hb => ?_, hn⟩
  · by_cases e : a = 0 ∧ b = dg n 0
    · obtain ⟨rfl, rfl⟩ := e; rw [rput_same] at hi; cases hi
    · rw [rput_ne _ _ e] at hi
      obtain ⟨t, x, y, z⟩ := h.slot a b ha hb i hi
      refine ⟨t, ?_, y, z⟩
      rw [hget, if_neg (fun hm => ?_)]
      · exact x
      · have := (hl i).1 hm
        obtain ⟨t', x', y', z'⟩ := h.slot 0 _ (by omega) (dg_lt _ _) i this
        rw [x] at x'
        obtain rfl : t = t' := by have := Option.some.inj x'; omega
        exact e ⟨by omega, by rw [← z, ← z', ← y, ← y']⟩
  · rw [hget] at hz
    split at hz
    · cases hz
    · rename_i hm
      obtain ⟨t, e, f, g, hi⟩ := h.tick i z hz
      refine ⟨t, e, f, g, ?_⟩
      rw [rput_ne _ _ (fun e2 => hm ((hl i).2 ?_))]
      · exact hi
      · rw [e2.1, ← e2.1, e2.2] at hi
        rw [e2.1] at hi; exact hi
  · by_cases e : a = 0 ∧ b = dg n 0
    · obtain ⟨rfl, rfl⟩ := e; rw [rput_same]; exact List.nodup_nil
    · rw [rput_ne _ _ e]; exact h.nd a b ha hb

theorem nodup_len {α : Type} {l m : List α} (h : l.Nodup) (hs : ∀ x ∈ l, x ∈ m) : l.length ≤ m.length := h.length_le_of_subset hs

theorem aget_mem {T : List (Int × Int)} {i z : Int} (h : aget T i = some z) : i ∈ T.map (·.1) := by
  by_cases e : i ∈ T.map (·.1)
  · exact e
  · rw [aget_none.2 e] at h; cases h

theorem WInv.len {n : Nat} {R : Nat → Nat → List Int} {T : List (Int × Int)} (h : WInv n R T) {l d : Nat} (hl : l < 7) (hd : d < 64) : (R l d).length ≤ T.length := by
  have := nodup_len (h.nd l d hl hd) (m := T.map (·.1)) fun i hi => by
    obtain ⟨t, a, _⟩ := h.slot l d hl hd i hi
    exact aget_mem a
  simpa using this

theorem WMid.len {m k : Nat} {R : Nat → Nat → List Int} {T : List (Int × Int)} {rest : List Int} (h : WMid m k R T rest) {l d : Nat} (hl : l < 7) (hd : d < 64) : (R l d).length ≤ T.length := by
  have := nodup_len (h.nd l d hl hd) (m := T.map (·.1)) fun i hi => by
    by_cases e : k ≤ l
    · obtain ⟨t, a, _⟩ := h.done l d e hl hd i hi
      exact aget_mem a
    · obtain ⟨t, a, _⟩ := h.todo l d (by omega) hl hd i hi
      exact aget_mem a
  simpa using this

theorem WMove.len {m k : Nat} {R : Nat → Nat → List Int} {T : List (Int × Int)} (h : WMove m k R T) {l d : Nat} (hl : l < 7) (hd : d < 64) : (R l d).length ≤ T.length := by
  have := nodup_len (h.nd l d hl hd) (m := T.map (·.1)) fun i hi => by
    by_cases e : k < l
    · obtain ⟨t, a, _⟩ := h.done l d e hl hd i hi
      exact aget_mem a
    · obtain ⟨t, a, _⟩ := h.todo l d (by omega) hl hd i hi
      exact aget_mem a
  simpa using this

theorem aset_same {T : List (Int × Int)} {k v : Int} (h : aget T k = some v) : aset T k v = T := by
  induction T with
  | nil => cases h
  | cons x T ih =>
    obtain ⟨a, b⟩ := x
    simp only [aget] at h
    simp only [aset]
    split at h
    · rename_i e; subst e
      rw [if_pos rfl]
      obtain rfl := Option.some.inj h
      rfl
    · rename_i e; rw [if_neg e, ih h]

end Bulk
