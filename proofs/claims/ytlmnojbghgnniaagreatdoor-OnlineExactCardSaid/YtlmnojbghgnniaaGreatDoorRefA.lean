/- The document's numbers: away, signed, Gcd, Mul. -/
import Derived.Test.YtlmnojbghgnniaaGreatDoorMem
import Derived.Test.YtlmnojbghgnniaaGreatDoorProg
import Derived.BigQuiet
import Derived.Deep.QuietTactic
import Derived.IntWalk
import Derived.Deep.LoopGhost
namespace Go.Proofs.YtlmnojbghgnniaaGreatDoor.Ref
open Go.RowKit Bulk

set_option maxRecDepth 100000 in
theorem away_any (n : Nat) (w : World) (hn : n < 4611686018427387904) :
    Calls Tryz.prog 74 #[.int .i64 n] w fun e w' => e = .returned (.int .u64 n) ∧ w' = w := by
  have d1 : decide ((n : Int) < 0) = false := by simp
  have e1 : IntKind.u64.wrap (n : Int) = n := IntWalk.u64_in _ (by omega)
  go_enter Tryz.func74, Tryz.ntmps74
  go_wp2_with fail
  go_ret
  exact ⟨rfl, rfl⟩

set_option maxRecDepth 100000 in
theorem signed_any (n : Nat) (w : World) (hn : n < 4611686018427387904) :
    Calls Tryz.prog 75 #[.bool false, .int .u64 n] w fun e w' => e = .returned (.tuple #[.int .i64 n, .bool true]) ∧ w' = w := by
  have d1 : decide ((9223372036854775807 : Int) < n) = false := by simp; omega
  have e1 : IntKind.i64.wrap (n : Int) = n := IntWalk.i64_in _ (by omega)
  go_enter Tryz.func75, Tryz.ntmps75
  go_wp2_with fail
  go_ret2
  exact ⟨rfl, rfl⟩

set_option maxHeartbeats 1000000 in
set_option maxRecDepth 100000 in
theorem gcd_any (a b : Nat) (w : World) (ha : a < 4611686018427387904) (hb : b < 4611686018427387904) :
    Calls Tryz.prog 62 #[.int .i64 a, .int .i64 b] w fun e w' => e = .returned (.int .i64 (Nat.gcd a b : Nat)) ∧ w' = w := by
  generalize hG : Nat.gcd a b = G
  have HG := hid hG
  have Hab := hid (And.intro ha hb)
  clear hG ha hb
  go_enter Tryz.func62, Tryz.ntmps62
  go_wp2_with fail
  refine (away_any a w Hab.out.1).mono ?_
  rintro e w' ⟨rfl, rfl⟩
  go_wp2_with fail
  refine (away_any b w' Hab.out.2).mono ?_
  rintro e w'' ⟨rfl, rfl⟩
  go_wp2_with fail
  go_loopg [5, 6] b (fun g v0 v1 wr => ∃ x : Nat, v0 = .int .u64 x ∧ v1 = .int .u64 g ∧ Hid (Nat.gcd x g = G ∧ x < 4611686018427387904 ∧ g < 4611686018427387904) ∧ wr = w'')
  case atStart => exact ⟨a, rfl, rfl, hid ⟨HG.out, Hab.out⟩, rfl⟩
  case round =>
    obtain ⟨x, rfl, rfl, HX, rfl⟩ := hrel
    clear HG Hab
    by_cases h0 : gk = 0
    · subst h0
      obtain ⟨h1, h2, h3⟩ := HX.out
      go_wp2_with fail
      refine (signed_any x _ h2).mono ?_
      rintro e w' ⟨rfl, rfl⟩
      go_wp2_with fail
      go_ret
      exact ⟨by rw [← h1]; simp, rfl⟩
    · have d1 : ((gk : Int) != 0) = true := by simpa using h0
      have d4 : ¬ (gk : Int) = 0 := by omega
      have HK := hid (show 0 < gk by omega)
      have HB := hid (show x < 4611686018427387904 ∧ gk < 4611686018427387904 from HX.out.2)
      have d3 : (Int.tmod (x : Int) (gk : Int)) = ((x % gk : Nat) : Int) := (Int.ofNat_tmod x gk).symm
      have e3 : IntKind.u64.wrap ((x % gk : Nat) : Int) = ((x % gk : Nat) : Int) := IntWalk.u64_in _ (by have := Nat.mod_lt x (show 0 < gk by omega); have := HX.out; omega)
      clear h0
      go_wp2_with fail
      go_roundg (x % gk)
      case measure => exact Nat.mod_lt _ HK.out
      case rel =>
        obtain ⟨h1, h2, h3⟩ := HX.out
        exact ⟨gk, rfl, by go_num, hid ⟨by rw [← h1, Nat.gcd_comm gk, Nat.gcd_comm x, ← Nat.gcd_rec], h3, Nat.lt_trans (Nat.mod_lt _ HK.out) h3⟩, rfl⟩

set_option maxHeartbeats 1000000 in
set_option maxRecDepth 100000 in
theorem mul_any (a b : Nat) (w : World) (ha : 1 ≤ a) (ha2 : a ≤ 1048576) (hb : b ≤ 1048576) :
    Calls Tryz.prog 61 #[.int .i64 a, .int .i64 b] w fun e w' => e = .returned (.tuple #[.int .i64 ((a * b : Nat) : Int), .bool true]) ∧ w' = w := by
  have hab : a * b ≤ 1048576 * 1048576 := Nat.mul_le_mul ha2 hb
  have H1 := hid (away_any a w (by omega))
  have H2 := hid (away_any b w (by omega))
  have H3 := hid (fun w => signed_any (a * b) w (by omega))
  have d0 : ((a : Int) != 0) = true := by simp; omega
  have d1 : decide ((9223372036854775808 : Int) / a < b) = false := decide_eq_false fun h => by
    have h2 : (b : Int) ≤ (9223372036854775808 : Int) / a := by
      refine Int.le_ediv_of_mul_le (by omega) ?_
      have h3 : ((b * a : Nat) : Int) ≤ ((1048576 * 1048576 : Nat) : Int) := Int.ofNat_le.2 (by rw [Nat.mul_comm]; exact hab)
      rw [Int.natCast_mul] at h3
      refine Int.le_trans h3 ?_
      omega
    exact absurd h (Int.not_lt.2 h2)
  have d2 : decide ((a : Int) < 0) = false := by simp
  have d3 : decide ((b : Int) < 0) = false := by simp
  have e1 : IntKind.u64.wrap ((a : Int) * b) = ((a * b : Nat) : Int) := by
    rw [← Int.natCast_mul]; exact IntWalk.u64_in _ (by omega)
  have d4 : ¬ (a : Int) = 0 := by omega
  have HX := hid (show 1 ≤ a ∧ a ≤ 1048576 from ⟨ha, ha2⟩)
  generalize a * b = c at *
  clear hab
  go_enter Tryz.func61, Tryz.ntmps61
  go_wp2_with fail
  refine H1.out.mono ?_
  rintro e w' ⟨rfl, rfl⟩
  go_wp2_with fail
  refine H2.out.mono ?_
  rintro e w'' ⟨rfl, rfl⟩
  go_wp2_with fail
  refine (H3.out _).mono ?_
  rintro e w'' ⟨rfl, rfl⟩
  go_wp2_with fail
  go_ret2
  exact ⟨rfl, rfl⟩
end Go.Proofs.YtlmnojbghgnniaaGreatDoor.Ref
