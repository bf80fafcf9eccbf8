/- OnlineExact's small functions: roomy, sameServers, most. -/
import Derived.Test.YtlmnojbghgnniaaGreatDoorRefI
import Derived.Test.YtlmnojbghgnniaaGreatDoorSpoiltJ
namespace Bulk
open Go Go.RowKit

def mark77 : Srv := ⟨77, 0, 0, 0⟩

theorem flatS_append (S T : List Srv) : flatS (S ++ T) = flatS S ++ flatS T := by simp [flatS]
end Bulk

namespace Go.Proofs.YtlmnojbghgnniaaGreatDoor.Ref
open Go.RowKit Bulk Ch On

set_option maxHeartbeats 2000000 in
set_option maxRecDepth 100000 in
theorem roomy_any (S : List Srv) (v : Value) (w : World) (hv : SrvF w v S) (hl : S.length * 32 ≤ 140737488351232) :
    Calls Tryz.prog 12 #[v] w fun e w' => ∃ v', e = .returned v' ∧ Only noB w w' ∧ w'.ownsRow w.heap.size 44 4 v' (S.length + 64) (flatS (S ++ List.replicate 64 mark77)) := by
  have HSrc := hid hv.src
  obtain ⟨pv, cv, rfl, _⟩ := hv.sat
  clear hv
  obtain ⟨i0, hii, hz0, hz1, hz2⟩ := info_parts info39
  go_enter Tryz.func12, Tryz.ntmps12
  go_wp2_with (at_builtin; refine wpList_append_src rfl _ _ 22 rfl w.heap.size 44 i0 _ 4 32 Tryz.underlying22 hii hz0 hz1 hz2 rfl (by decide) _ _ _ rfl (World.ownsRow_nil _ _ _ _) _ _ _ rfl HSrc.out (flatS_one S) ?c3 ?c4 ?c5 ?_)
  case c3 => unfold maxLen; omega
  case c4 => omega
  case c5 => exact Nat.le_refl _
  intro vx w1 ho1 hg1
  have HL := hid (show Only noB w w1 ∧ w1.ownsRow w.heap.size 44 4 vx (S.length + 0) (flatS (S ++ List.replicate 0 mark77)) from ⟨(Only.refl _ w).grown hg1 fun k e => by simp [Value.ownBlock] at e, by simpa using ho1⟩)
  clear ho1 hg1
  go_wp2_with fail
  go_loopg [3, 4] 64 (fun g v3 v4 wr => ∃ i : Nat, i ≤ 64 ∧ g = 64 - i ∧ v4 = .int .i64 i ∧ Hid (Only noB w wr ∧ wr.ownsRow w.heap.size 44 4 v3 (S.length + i) (flatS (S ++ List.replicate i mark77))))
  case atStart => exact ⟨0, by omega, rfl, rfl, HL⟩
  case round =>
    obtain ⟨i, hi, rfl, rfl, HR⟩ := hrel
    clear HL
    by_cases hi2 : i < 64
    · have d1 : decide ((i : Int) < 64) = true := by simp; omega
      have hown := HR.out.2
      have hsz := HR.out.1.size
      go_wp2_with (at_builtin; refine wpList_append_own _ rfl (.tmp 12) (.tmp 14) 22 rfl w.heap.size 44 i0 _ 4 32 Tryz.underlying22 hii hz0 hz1 hz2 rfl (by decide) _ (S.length + i) _ rfl (hown.alloc _) ⟨wr.heap.size, 0, none⟩ 1 1 [.int .i64 77, .int .i64 0, .int .i64 0, .int .i64 0] rfl rfl ?c1 ?c2 ?c3 ?c4 ?c5 ?_)
      case c1 =>
        intro k u hk
        match k, hk with
        | 0, hk => simp at hk; subst hk; simp [Addr.add]
        | 1, hk => simp at hk; subst hk; simp [Addr.add]
        | 2, hk => simp at hk; subst hk; simp [Addr.add]
        | 3, hk => simp at hk; subst hk; simp [Addr.add]
      case c2 => intro u hu; simp at hu; rcases hu with rfl | rfl <;> rfl
      case c3 => unfold maxLen; omega
      case c4 => omega
      case c5 => simp; omega
      intro v1 w2 ho1 hg1 _
      have HN := hid (show Only noB w w2 ∧ w2.ownsRow w.heap.size 44 4 v1 (S.length + (i + 1)) (flatS (S ++ List.replicate (i + 1) mark77)) from
        ⟨(HR.out.1.alloc _).grown hg1 fun k e => .inr (hown.lt k e).1, by
          rw [List.replicate_succ', ← List.append_assoc, flatS_append _ [mark77]]
          exact ho1⟩)
      clear ho1 hg1 hown hsz
      go_wp2_with fail
      go_roundg (64 - (i + 1))
      case measure => omega
      case rel => exact ⟨i + 1, by omega, rfl, by go_num, HN⟩
    · obtain rfl : i = 64 := by omega
      have d1 : decide (((64 : Nat) : Int) < 64) = false := by decide
      clear hi hi2
      go_wp2_with fail
      go_ret
      exact ⟨_, rfl, HR.out.1, HR.out.2⟩

set_option maxHeartbeats 2000000 in
set_option maxRecDepth 100000 in
theorem sameServers_same (S : List Srv) (va vb : Value) (w : World) (ha : SrvAt w va S) (hb : SrvAt w vb S) (hl : S.length ≤ 9223372036854775807) :
    Calls Tryz.prog 14 #[va, vb] w fun e w' => e = .returned (.bool true) ∧ ∃ q, w' = w.drewN q := by
  obtain ⟨pa, ca, rfl, ka⟩ := ha
  obtain ⟨pb, cb, rfl, kb⟩ := hb
  have HA := hid ka
  have HB := hid kb
  clear ka kb
  have d0 : ((S.length : Int) != (S.length : Int)) = false := by simp
  go_enter Tryz.func14, Tryz.ntmps14
  go_wp2_with fail
  go_loopg [5] S.length (fun g v5 wr => ∃ i : Nat, i ≤ S.length ∧ g = S.length - i ∧ v5 = .int .i64 i ∧ Hid (∃ q, wr = w.drewN q))
  case atStart => exact ⟨0, by omega, rfl, rfl, hid ⟨0, rfl⟩⟩
  case round =>
    obtain ⟨i, hi, rfl, rfl, HQ⟩ := hrel
    by_cases hi2 : i < S.length
    · obtain ⟨a, rfl, k1⟩ := HA.out i hi2
      obtain ⟨b, rfl, k2⟩ := HB.out i hi2
      have d2 : decide (i < S.length) = true := by simpa using hi2
      have hin : (i : Int) < (S.length : Int) := by omega
      have hw : Only noB w wr := by obtain ⟨q, hq⟩ := HQ.out; rw [hq]; exact (Only.refl _ _).drewN q
      obtain ⟨a0, a1, a2, a3⟩ := k1.kept hw id
      obtain ⟨b0, b1, b2, b3⟩ := k2.kept hw id
      clear k1 k2 hw
      generalize S[i].p = x0 at *
      generalize S[i].b = x1 at *
      generalize S[i].o = x2 at *
      generalize S[i].q = x3 at *
      go_wp2_with fail
      go_quiet (fail)
      go_wp2_with fail
      go_roundg (S.length - (i + 1))
      case measure => omega
      case rel => exact ⟨i + 1, by omega, rfl, by go_num, hid (by obtain ⟨q, hq⟩ := HQ.out; exact ⟨_, by rw [hq]; exact World.drewN_drewN _ _ _⟩)⟩
    · obtain rfl : i = S.length := by omega
      have d2 : decide (S.length < S.length) = false := by simp
      clear hi hi2
      go_wp2_with fail
      go_ret
      exact ⟨rfl, HQ.out⟩

set_option maxHeartbeats 2000000 in
set_option maxRecDepth 100000 in
theorem most_any (S : List Srv) (H now : Nat) (x : Value) (w : World) (hx : DocAt w x S H now) (hl : S.length ≤ 32) (hH : H ≤ 1048576) :
    Calls Tryz.prog 8 #[x] w fun e w' => ∃ k : Int, e = .returned (.int .i64 k) ∧ Only noB w w' := by
  obtain ⟨vs, vl, rfl, h1, h2⟩ := hx
  obtain ⟨pv, cv, rfl, _⟩ := h1.sat
  clear h1 h2
  have hm : 3 * H * (1 + S.length) ≤ 3145728 * 33 := Nat.mul_le_mul (by omega) (by omega)
  have e1 : IntKind.i64.wrap ((3 : Int) * H) = ((3 * H : Nat) : Int) := by rw [IntWalk.i64_in _ (by omega)]; omega
  have e2 : IntKind.i64.wrap ((1 : Int) + S.length) = ((1 + S.length : Nat) : Int) := by rw [IntWalk.i64_in _ (by omega)]; omega
  have e3 : IntKind.i64.wrap (((3 * H : Nat) : Int) * ((1 + S.length : Nat) : Int)) = ((3 * H * (1 + S.length) : Nat) : Int) := by rw [← Int.natCast_mul]; exact IntWalk.i64_in _ (by omega)
  generalize 3 * H * (1 + S.length) = m at *
  generalize 3 * H = a at *
  generalize 1 + S.length = b at *
  have e4 : IntKind.i64.wrap ((m : Int) + 1) = ((m + 1 : Nat) : Int) := by rw [IntWalk.i64_in _ (by omega)]; omega
  have e5 : Int.tdiv (16777216 : Int) ((m + 1 : Nat) : Int) = ((16777216 / (m + 1) : Nat) : Int) := (Int.ofNat_tdiv 16777216 _).symm
  have hd : 16777216 / (m + 1) ≤ 16777216 := Nat.div_le_self _ _
  have e6 : ¬ ((m + 1 : Nat) : Int) = 0 := by omega
  generalize 16777216 / (m + 1) = z at *
  generalize m + 1 = m1 at *
  clear hm
  go_enter Tryz.func8, Tryz.ntmps8
  go_wp2_with fail
  all_goals
    go_ret
    exact ⟨_, rfl, (Only.refl _ w).alloc _⟩
end Go.Proofs.YtlmnojbghgnniaaGreatDoor.Ref
