/- Numbers: within, Gcd, Lcm, NextAt. -/
import Derived.Test.YtlmnojbghgnniaaGreatDoorMem
import Derived.Test.YtlmnojbghgnniaaGreatDoorProg
import Derived.Test.YtlmnojbghgnniaaGreatDoorWheel
namespace Go.Proofs.YtlmnojbghgnniaaGreatDoor.Ch
open Go.RowKit Bulk

theorem within_any (x lo hi : Int) (w : World) (p : Bool) (hp : p = decide (lo ≤ x ∧ x ≤ hi)) :
    Calls Tryz.prog 63 #[.int .i64 x, .int .i64 lo, .int .i64 hi] w fun e w' => e = .returned (.bool p) ∧ w' = w := by
  subst hp
  by_cases h1 : lo ≤ x
  · by_cases h2 : x ≤ hi
    · have d1 : decide (lo ≤ x) = true := by simpa using h1
      have d2 : decide (x ≤ hi) = true := by simpa using h2
      have d3 : decide (lo ≤ x ∧ x ≤ hi) = true := by simp [h1, h2]
      clear h1 h2
      go_enter Tryz.func63, Tryz.ntmps63
      go_wp2_with fail
      go_ret
      simp [d3]
    · have d1 : decide (lo ≤ x) = true := by simpa using h1
      have d2 : decide (x ≤ hi) = false := by simpa using h2
      have d3 : decide (lo ≤ x ∧ x ≤ hi) = false := by simp [h2]
      clear h1 h2
      go_enter Tryz.func63, Tryz.ntmps63
      go_wp2_with fail
      go_ret
      simp [d3]
  · have d1 : decide (lo ≤ x) = false := by simpa using h1
    have d3 : decide (lo ≤ x ∧ x ≤ hi) = false := by simp [h1]
    clear h1
    go_enter Tryz.func63, Tryz.ntmps63
    go_wp2_with fail
    go_ret
    simp [d3]

set_option maxHeartbeats 1000000 in
set_option maxRecDepth 100000 in
theorem gcd_any (a b : Nat) (w : World) (ha : a < 4611686018427387904) (hb : b < 4611686018427387904) :
    Calls Tryz.prog 64 #[.int .i64 a, .int .i64 b] w fun e w' => e = .returned (.int .i64 (Nat.gcd a b : Nat)) ∧ ∃ q, w' = w.drewN q := by
  generalize hG : Nat.gcd a b = G
  have HG := hid hG
  have Hab := hid (And.intro ha hb)
  clear hG ha hb
  go_enter Tryz.func64, Tryz.ntmps64
  go_wp2_with fail
  go_loopg [0, 1] b (fun g v0 v1 wr => ∃ x : Nat, v0 = .int .i64 x ∧ v1 = .int .i64 g ∧ Hid (Nat.gcd x g = G ∧ x < 4611686018427387904 ∧ g < 4611686018427387904) ∧ ∃ q, wr = w.drewN q)
  case atStart => exact ⟨a, rfl, rfl, hid ⟨HG.out, Hab.out⟩, 0, rfl⟩
  case round =>
    obtain ⟨x, rfl, rfl, HX, q, rfl⟩ := hrel
    clear HG Hab
    by_cases h0 : gk = 0
    · subst h0
      obtain ⟨h1, h2, h3⟩ := HX.out
      have d1 : decide ((x : Int) < 0) = false := by simp
      have d2 : max (x : Int) 0 = x := by omega
      go_wp2_with fail
      go_ret
      exact ⟨by rw [← h1]; simp, q, rfl⟩
    · have d1 : ((gk : Int) != 0) = true := by simpa using h0
      have d2 : ((gk : Int) == -1) = false := by simp
      have d4 : ¬ (gk : Int) = 0 := by omega
      have HK := hid (show 0 < gk by omega)
      have HB := hid (show x < 4611686018427387904 ∧ gk < 4611686018427387904 from HX.out.2)
      have d3 : (Int.tmod (x : Int) (gk : Int)) = ((x % gk : Nat) : Int) := (Int.ofNat_tmod x gk).symm
      clear h0
      go_wp2_with fail
      go_quiet (fail)
      go_wp2
      go_roundg (x % gk)
      case measure => exact Nat.mod_lt _ HK.out
      case rel =>
        obtain ⟨h1, h2, h3⟩ := HX.out
        exact ⟨gk, rfl, by go_num, hid ⟨by rw [← h1, Nat.gcd_comm gk, Nat.gcd_comm x, ← Nat.gcd_rec], h3, Nat.lt_trans (Nat.mod_lt _ HK.out) h3⟩, q + nq, World.drewN_drewN _ _ _⟩

/-- The least common multiple, while it is at most 2^20. -/
def lcmN : List Nat → Nat → Option Nat
  | [], m => some m
  | x :: xs, m => if 1048576 / m < x / Nat.gcd m x then none else lcmN xs (m * (x / Nat.gcd m x))

/-- A slice of ints, as it is read. -/
def IntsAt (w : World) (v : Value) (xs : List Int) : Prop :=
  ∃ (p : Option Addr) (cap : Nat), v = .slice p xs.length cap ∧ ∀ j (hj : j < xs.length), ∃ a, p = some a ∧ w.cell? (a.add j) = some (.int .i64 xs[j])

set_option maxHeartbeats 1000000 in
set_option maxRecDepth 100000 in
theorem lcm_any (xs : List Nat) (v : Value) (w : World) (hv : IntsAt w v (List.map (Nat.cast : Nat → Int) xs)) (h1 : ∀ x ∈ xs, 1 ≤ x ∧ x ≤ 1048576) (hl : xs.length ≤ 1000) :
    Calls Tryz.prog 48 #[v, .int .i64 1048576] w fun e w' => e = .returned (.tuple #[.int .i64 ((lcmN xs 1).getD 0 : Nat), .bool (lcmN xs 1).isSome]) ∧ ∃ q, w' = w.drewN q := by
  obtain ⟨p, cap, rfl, hc⟩ := hv
  have HC := hid hc
  have HX := hid h1
  clear hc h1
  simp only [List.length_map]
  generalize hR : lcmN xs 1 = R
  have HR := hid hR
  clear hR
  go_enter Tryz.func48, Tryz.ntmps48
  go_wp2_with fail
  go_step3
  go_wp2_with fail
  go_step3
  go_wp2_with fail
  go_loopg [6] 1 (fun g v6 wr => g = 1 ∧ v6 = .int .i64 1 ∧ wr = w)
  case atStart => exact ⟨rfl, rfl, rfl⟩
  case round =>
    obtain ⟨rfl, rfl, rfl⟩ := hrel
    go_wp2_with fail
    go_loopg [14] xs.length (fun g v14 wx => ∃ i : Nat, i ≤ xs.length ∧ g = xs.length - i ∧ v14 = .int .i64 i ∧ wx = wr)
    case atStart => exact ⟨0, by omega, rfl, rfl, rfl⟩
    case round =>
      obtain ⟨i, hi, rfl, rfl, rfl⟩ := hrel
      by_cases hi2 : i < xs.length
      · obtain ⟨a, rfl, hc⟩ := HC.out i (by simpa using hi2)
        have hx := HX.out xs[i] (List.getElem_mem _)
        rw [List.getElem_map] at hc
        have d1 : decide (((xs[i] : Nat) : Int) < 1) = false := by simp; omega
        have d2 : decide ((i : Int) < xs.length) = true := by simpa using hi2
        generalize xs[i] = x at *
        clear hx
        go_wp2_with fail
        go_roundg (xs.length - (i + 1))
        case measure => omega
        case rel => exact ⟨i + 1, by omega, rfl, by go_num, rfl⟩
      · obtain rfl : i = xs.length := by omega
        clear hi hi2
        go_wp2_with fail
        go_loopg [6, 23] xs.length (fun g v6 v23 wx => ∃ i m q : Nat, i ≤ xs.length ∧ g = xs.length - i ∧ v6 = .int .i64 m ∧ v23 = .int .i64 i ∧ Hid (1 ≤ m ∧ m ≤ 1048576 ∧ lcmN (xs.drop i) m = R) ∧ wx = wr.drewN q)
        case atStart => exact ⟨0, 1, 0, by omega, rfl, rfl, rfl, hid ⟨by omega, by omega, HR.out⟩, rfl⟩
        case round =>
          obtain ⟨i, m, q, hi, rfl, rfl, rfl, HM, rfl⟩ := hrel
          by_cases hi2 : i < xs.length
          · obtain ⟨a, rfl, hc⟩ := HC.out i (by simpa using hi2)
            have hx := HX.out xs[i] (List.getElem_mem _)
            obtain ⟨hm1, hm2, hlc⟩ := HM.out
            rw [List.drop_eq_getElem_cons hi2, lcmN] at hlc
            rw [List.getElem_map] at hc
            have d2 : decide ((i : Int) < xs.length) = true := by simpa using hi2
            generalize xs[i] = x at *
            have hg1 : 0 < Nat.gcd m x := Nat.gcd_pos_of_pos_left _ hm1
            have hg2 := gcd_any m x (wr.drewN q) (by omega) (by omega)
            have d3 : Int.tdiv (x : Int) ((Nat.gcd m x : Nat) : Int) = ((x / Nat.gcd m x : Nat) : Int) := (Int.ofNat_tdiv _ _).symm
            have d4 : Int.tdiv (1048576 : Int) (m : Int) = ((1048576 / m : Nat) : Int) := (Int.ofNat_tdiv 1048576 m).symm
            have hxd : x / Nat.gcd m x ≤ x := Nat.div_le_self _ _
            have hmd : 1048576 / m ≤ 1048576 := Nat.div_le_self _ _
            have hx1 : 1 ≤ x / Nat.gcd m x := Nat.div_pos (Nat.le_of_dvd (by omega) (Nat.gcd_dvd_right _ _)) hg1
            have hmul : x / Nat.gcd m x ≤ 1048576 / m → m * (x / Nat.gcd m x) ≤ 1048576 := fun h => Nat.le_trans (Nat.mul_le_mul_left m h) (Nat.mul_div_le _ _)
            have hmulp : 1 ≤ m * (x / Nat.gcd m x) := Nat.mul_pos hm1 hx1
            generalize Nat.gcd m x = G at *
            have e1 : ¬ (G : Int) = 0 := by omega
            have e2 : ¬ (m : Int) = 0 := by omega
            have HG := hid hg2
            clear hg2
            generalize x / G = y at *
            generalize hz : 1048576 / m = z at *
            by_cases hyz : z < y
            · have d5 : decide (z < y) = true := by simpa using hyz
              have HL := hid hlc
              have HZ := hid hyz
              clear hlc hyz hmul hz hmulp
              go_wp2_with fail
              refine HG.out.mono ?_
              rintro e w1 ⟨rfl, n, rfl⟩
              go_wp2_with fail
              rw [Exit.noGoto_ret]
              go_ret2
              have hR : R = none := by rw [← HL.out, if_pos HZ.out]
              rw [hR]
              exact ⟨rfl, q + n, rfl⟩
            · have d5 : decide (z < y) = false := by simp; omega
              have e3 : (IntKind.i64.wrap ((m : Int) * y)) = ((m * y : Nat) : Int) := by
                have := hmul (by omega)
                rw [← Int.natCast_mul]; exact IntWalk.i64_in _ (by omega)
              have HL := hid (show 1 ≤ m * y ∧ m * y ≤ 1048576 ∧ lcmN (xs.drop (i + 1)) (m * y) = R from ⟨hmulp, hmul (by omega), by rw [← hlc, if_neg (by omega)]⟩)
              clear hlc hmul hyz hz hmulp
              go_wp2_with fail
              refine HG.out.mono ?_
              rintro e w1 ⟨rfl, n, rfl⟩
              go_wp2_with fail
              go_roundg (xs.length - (i + 1))
              case measure => omega
              case rel => exact ⟨i + 1, m * y, q + n, by omega, rfl, rfl, by go_num, HL, rfl⟩
          · obtain rfl : i = xs.length := by omega
            obtain ⟨hm1, hm2, hlc⟩ := HM.out
            simp only [List.drop_length, lcmN] at hlc
            subst hlc
            have d1 : decide ((1048576 : Int) < m) = false := by simp; omega
            clear hi hi2
            go_wp2_with fail
            rw [Exit.noGoto_ret]
            go_ret2
            exact ⟨rfl, q, rfl⟩

/-- The least tick from 'f' on that is offset + k * period. -/
def nextN (o p f : Nat) : Nat := if f ≤ o then o else if (f - o) % p = 0 then f else f - (f - o) % p + p

set_option maxHeartbeats 1000000 in
set_option maxRecDepth 100000 in
theorem nextAt_any (o p f : Nat) (w : World) (hp : 1 ≤ p) (hp2 : p ≤ 1048576) (ho : o ≤ 1048576) (hf : f ≤ 1099511627776) :
    Calls Tryz.prog 40 #[.int .i64 o, .int .i64 p, .int .i64 f] w fun e w' => e = .returned (.tuple #[.int .i64 (nextN o p f : Nat), .bool true]) ∧ w' = w := by
  have d1 : decide ((p : Int) < 1) = false := by simp; omega
  have d2 : decide ((o : Int) < 0) = false := by simp
  unfold nextN
  by_cases h1 : f ≤ o
  · have d3 : decide (f ≤ o) = true := by simpa using h1
    rw [if_pos h1]
    clear h1
    go_enter Tryz.func40, Tryz.ntmps40
    go_wp2_with fail
    go_ret2
    exact ⟨rfl, rfl⟩
  · have d3 : decide (f ≤ o) = false := by simpa using h1
    rw [if_neg h1]
    have e1 : (IntKind.i64.wrap ((f : Int) - o)) = ((f - o : Nat) : Int) := by rw [IntWalk.i64_in _ (by omega)]; omega
    have e2 : ¬ (p : Int) = 0 := by omega
    have e3 : Int.tmod ((f - o : Nat) : Int) (p : Int) = (((f - o) % p : Nat) : Int) := (Int.ofNat_tmod _ _).symm
    have h4 : (f - o) % p < p := Nat.mod_lt _ hp
    have h5 : (f - o) % p ≤ f - o := Nat.mod_le _ _
    generalize (f - o) % p = m at *
    generalize hfo : f - o = fo at *
    by_cases h2 : m = 0
    · subst h2
      rw [if_pos rfl]
      clear hfo h1 h4 h5
      go_enter Tryz.func40, Tryz.ntmps40
      go_wp2_with fail
      go_ret2
      exact ⟨rfl, rfl⟩
    · rw [if_neg h2]
      have d4 : ((m : Int) == 0) = false := by simpa using h2
      have e4 : (IntKind.i64.wrap ((f : Int) - m)) = ((f - m : Nat) : Int) := by rw [IntWalk.i64_in _ (by omega)]; omega
      have e5 : (IntKind.i64.wrap (((f - m : Nat) : Int) + p)) = ((f - m + p : Nat) : Int) := by rw [IntWalk.i64_in _ (by omega)]; omega
      have d5 : decide (f < f - m + p) = true := by simp; omega
      generalize f - m + p = z at *
      generalize f - m = y at *
      have e6 : max (z : Int) 0 = z := by omega
      clear hfo h1 h4 h5 h2
      go_enter Tryz.func40, Tryz.ntmps40
      go_wp2_with fail
      go_ret2
      exact ⟨rfl, rfl⟩
end Go.Proofs.YtlmnojbghgnniaaGreatDoor.Ch
