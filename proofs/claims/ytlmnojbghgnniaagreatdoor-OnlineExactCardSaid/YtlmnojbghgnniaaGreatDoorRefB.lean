/- The document's hyperperiod: Lcm, server, Servers, hyper, Hyper. -/
import Derived.Test.YtlmnojbghgnniaaGreatDoorRefA
import Derived.Test.YtlmnojbghgnniaaGreatDoorLawI
namespace Go.Proofs.YtlmnojbghgnniaaGreatDoor.Ref
open Go.RowKit Bulk Ch

theorem within_any (x lo hi : Int) (w : World) (p : Bool) (hp : p = decide (lo ≤ x ∧ x ≤ hi)) :
    Calls Tryz.prog 60 #[.int .i64 x, .int .i64 lo, .int .i64 hi] w fun e w' => e = .returned (.bool p) ∧ w' = w := by
  subst hp
  by_cases h1 : lo ≤ x
  · by_cases h2 : x ≤ hi
    · have d1 : decide (lo ≤ x) = true := by simpa using h1
      have d2 : decide (x ≤ hi) = true := by simpa using h2
      have d3 : decide (lo ≤ x ∧ x ≤ hi) = true := by simp [h1, h2]
      clear h1 h2
      go_enter Tryz.func60, Tryz.ntmps60
      go_wp2_with fail
      go_ret
      simp [d3]
    · have d1 : decide (lo ≤ x) = true := by simpa using h1
      have d2 : decide (x ≤ hi) = false := by simpa using h2
      have d3 : decide (lo ≤ x ∧ x ≤ hi) = false := by simp [h2]
      clear h1 h2
      go_enter Tryz.func60, Tryz.ntmps60
      go_wp2_with fail
      go_ret
      simp [d3]
  · have d1 : decide (lo ≤ x) = false := by simpa using h1
    have d3 : decide (lo ≤ x ∧ x ≤ hi) = false := by simp [h1]
    clear h1
    go_enter Tryz.func60, Tryz.ntmps60
    go_wp2_with fail
    go_ret
    simp [d3]

set_option maxHeartbeats 2000000 in
set_option maxRecDepth 100000 in
theorem rlcm_any (xs : List Nat) (v : Value) (w : World) (hv : IntsAt w v (List.map (Nat.cast : Nat → Int) xs)) (h1 : ∀ x ∈ xs, 1 ≤ x ∧ x ≤ 1048576) (hl : xs.length ≤ 1000) :
    Calls Tryz.prog 46 #[v, .int .i64 1048576] w fun e w' => e = .returned (.tuple #[.int .i64 ((lcmN xs 1).getD 0 : Nat), .bool (lcmN xs 1).isSome]) ∧ ∃ q, w' = w.drewN q := by
  obtain ⟨p, cap, rfl, hc⟩ := hv
  have HC := hid hc
  have HX := hid h1
  clear hc h1
  simp only [List.length_map]
  generalize hR : lcmN xs 1 = R
  have HR := hid hR
  clear hR
  go_enter Tryz.func46, Tryz.ntmps46
  go_wp2_with fail
  go_loopg [7] xs.length (fun g v7 wr => ∃ i : Nat, i ≤ xs.length ∧ g = xs.length - i ∧ v7 = .int .i64 i ∧ wr = w)
  case atStart => exact ⟨0, by omega, rfl, rfl, rfl⟩
  case round =>
    obtain ⟨i, hi, rfl, rfl, rfl⟩ := hrel
    by_cases hi2 : i < xs.length
    · obtain ⟨a, rfl, hc⟩ := HC.out i (by simpa using hi2)
      have hx := HX.out xs[i] (List.getElem_mem _)
      rw [List.getElem_map] at hc
      have d1 : decide (((xs[i] : Nat) : Int) < 1) = false := by simp; omega
      have d2 : decide (i < xs.length) = true := by simpa using hi2
      have hi3 : (i : Int) < (xs.length : Int) := by omega
      generalize xs[i] = x at *
      clear hx
      go_wp2_with fail
      go_roundg (xs.length - (i + 1))
      case measure => omega
      case rel => exact ⟨i + 1, by omega, rfl, by go_num, rfl⟩
    · obtain rfl : i = xs.length := by omega
      have d2 : decide (xs.length < xs.length) = false := by simp
      clear hi hi2
      go_wp2_with fail
      go_loopg [6, 8] xs.length (fun g v6 v8 wx => ∃ i m : Nat, i ≤ xs.length ∧ g = xs.length - i ∧ v6 = .int .i64 m ∧ v8 = .int .i64 i ∧ Hid (1 ≤ m ∧ m ≤ 1048576 ∧ lcmN (xs.drop i) m = R) ∧ Hid (∃ q, wx = wr.drewN q))
      case atStart => exact ⟨0, 1, by omega, rfl, rfl, rfl, hid ⟨by omega, by omega, HR.out⟩, hid ⟨0, rfl⟩⟩
      case round =>
        obtain ⟨i, m, hi, rfl, rfl, rfl, HM, HQ⟩ := hrel
        by_cases hi2 : i < xs.length
        · obtain ⟨a, rfl, hc⟩ := HC.out i (by simpa using hi2)
          have hx := HX.out xs[i] (List.getElem_mem _)
          obtain ⟨hm1, hm2, hlc⟩ := HM.out
          rw [List.drop_eq_getElem_cons hi2, lcmN] at hlc
          rw [List.getElem_map] at hc
          replace hc : wr.cell? (a.add i) = some (.int .i64 (xs[i] : Nat)) := by obtain ⟨q, hq⟩ := HQ.out; rw [hq]; exact hc
          have d2 : decide (i < xs.length) = true := by simpa using hi2
          have hi3 : (i : Int) < (xs.length : Int) := by omega
          generalize xs[i] = x at *
          have hg : 0 < Nat.gcd m x := Nat.gcd_pos_of_pos_left x hm1
          have hxg : x / Nat.gcd m x ≤ x := Nat.div_le_self _ _
          have HG := hid (fun w => gcd_any m x w (by omega) (by omega))
          have e1 : Int.tdiv (x : Int) (Nat.gcd m x : Nat) = ((x / Nat.gcd m x : Nat) : Int) := (Int.ofNat_tdiv _ _).symm
          have e2 : ¬ ((Nat.gcd m x : Nat) : Int) = 0 := by omega
          have hpos : 1 ≤ x / Nat.gcd m x := Nat.div_pos (Nat.le_of_dvd (by omega) (Nat.gcd_dvd_right _ _)) hg
          have e3 : IntKind.i64.wrap ((x / Nat.gcd m x : Nat) : Int) = ((x / Nat.gcd m x : Nat) : Int) := IntWalk.i64_in _ (by omega)
          generalize x / Nat.gcd m x = y at *
          have HMu := hid (fun w => mul_any m y w hm1 hm2 (by omega))
          have hmy : (1048576 / m < y) ↔ 1048576 < m * y := by rw [Nat.div_lt_iff_lt_mul (by omega), Nat.mul_comm]
          have hz1 : 1 ≤ m * y := Nat.mul_pos hm1 hpos
          generalize m * y = z at *
          generalize Nat.gcd m x = gg at *
          have HY := hid (show (y : Int) ≤ 1048576 by omega)
          by_cases hbig : 1048576 < z
          · rw [if_pos (hmy.2 hbig)] at hlc
            have d3 : decide ((1048576 : Int) < z) = true := by simp; omega
            have HLc := hid hlc
            have HE := hid (And.intro e1 (And.intro e2 e3))
            clear hlc hmy hbig hz1 hpos hxg hg hm1 hm2 hx e1 e3
            go_wp2_with fail
            have e1 := HE.out.1
            have e3 := HE.out.2.2
            go_quiet ((first | (go_at_call 62; exact Calls.quiet_of_same (HG.out _)) | (go_at_call 61; exact Calls.quiet_of_same (HMu.out _))))
            clear e1 e3
            go_wp2_with fail
            go_ret2
            rw [← HLc.out]
            obtain ⟨q, hq⟩ := HQ.out
            exact ⟨rfl, _, by rw [hq]; exact World.drewN_drewN _ _ _⟩
          · rw [if_neg (fun h => hbig (hmy.1 h))] at hlc
            have d3 : decide ((1048576 : Int) < z) = false := by simp; omega
            have HLc := hid (show 1 ≤ z ∧ z ≤ 1048576 ∧ lcmN (xs.drop (i + 1)) z = R from ⟨hz1, by omega, hlc⟩)
            have HE := hid (And.intro e1 (And.intro e2 e3))
            clear hlc hmy hbig hz1 hpos hxg hg hm1 hm2 hx e1 e3
            go_wp2_with fail
            have e1 := HE.out.1
            have e3 := HE.out.2.2
            go_quiet ((first | (go_at_call 62; exact Calls.quiet_of_same (HG.out _)) | (go_at_call 61; exact Calls.quiet_of_same (HMu.out _))))
            clear e1 e3
            go_wp2_with fail
            go_roundg (xs.length - (i + 1))
            case measure => omega
            case rel => exact ⟨i + 1, z, by omega, rfl, by go_num, by go_num, HLc, hid (by obtain ⟨q, hq⟩ := HQ.out; exact ⟨_, by rw [hq]; exact World.drewN_drewN _ _ _⟩)⟩
        · obtain rfl : i = xs.length := by omega
          obtain ⟨hm1, hm2, hlc⟩ := HM.out
          have d2 : decide (xs.length < xs.length) = false := by simp
          rw [List.drop_length, lcmN] at hlc
          subst hlc
          have d3 : decide ((1048576 : Int) < m) = false := by simp; omega
          clear hi hi2 hm1 hm2
          go_wp2_with fail
          go_ret2
          exact ⟨rfl, HQ.out⟩

/-- May the server at a place be, by the document? -/
def srvOk (S : List Srv) (i : Nat) (hi : i < S.length) : Prop := S[i].ok ∧ S[i].q ∉ (S.take i).map Srv.q

set_option maxHeartbeats 4000000 in
set_option maxRecDepth 100000 in
theorem server_any (S : List Srv) (v : Value) (w : World) (hv : SrvAt w v S) (hl : S.length ≤ 32) (i : Nat) (hi : i < S.length) :
    Calls Tryz.prog 45 #[v, .int .i64 i] w fun e w' => ∃ b : Bool, e = .returned (.bool b) ∧ Only noB w w' ∧ (b = true ↔ srvOk S i hi) := by
  obtain ⟨p, cap, rfl, hc⟩ := hv
  have HC := hid hc
  obtain ⟨a, rfl, hat⟩ := hc i hi
  obtain ⟨hc1, hc2, hc3, hc4⟩ := hat
  have HSi := hid (show ∀ s, S[i] = s → srvOk S i hi = (s.ok ∧ s.q ∉ (S.take i).map Srv.q) from fun s e => by unfold srvOk; rw [e])
  clear hc
  generalize hs : S[i] = s at *
  have HO := hid (HSi.out s rfl)
  obtain ⟨sp, sb, so, sq⟩ := s
  simp only at hc1 hc2 hc3 hc4
  clear hs HSi
  have hi3 : (i : Int) < (S.length : Int) := by omega
  have HO0 := hid (show Only noB w (w.alloc (.cells #[.int .i64 sp, .int .i64 sb, .int .i64 so, .int .i64 sq] 44)) from (Only.refl _ w).alloc _)
  go_enter Tryz.func45, Tryz.ntmps45
  go_wp2_with fail
  obtain ⟨w1, hw1⟩ : ∃ x : World, x = w.alloc (.cells #[.int .i64 sp, .int .i64 sb, .int .i64 so, .int .i64 sq] 44) := ⟨_, rfl⟩
  rw [← hw1] at HO0 ⊢
  have k0 : w1.cell? ⟨w.heap.size, 0, none⟩ = some (.int .i64 sp) := by rw [hw1]; simp
  have k1 : w1.cell? ⟨w.heap.size, 1, none⟩ = some (.int .i64 sb) := by rw [hw1]; simp
  have k2 : w1.cell? ⟨w.heap.size, 2, none⟩ = some (.int .i64 so) := by rw [hw1]; simp
  have k3 : w1.cell? ⟨w.heap.size, 3, none⟩ = some (.int .i64 sq) := by rw [hw1]; simp
  clear hw1 hc1 hc2 hc3 hc4
  go_loopg [6] i (fun g v6 wr => ∃ k : Nat, k ≤ i ∧ g = i - k ∧ v6 = .int .i64 k ∧ Hid (sq ∉ (S.take k).map Srv.q) ∧ Hid (∃ q, wr = w1.drewN q))
  case atStart => exact ⟨0, by omega, rfl, rfl, hid (by simp), hid ⟨0, rfl⟩⟩
  case round =>
    obtain ⟨k, hk, rfl, rfl, HN, HQ⟩ := hrel
    have j0 : wr.cell? ⟨w.heap.size, 0, none⟩ = some (.int .i64 sp) := by obtain ⟨q, hq⟩ := HQ.out; rw [hq]; exact k0
    have j1 : wr.cell? ⟨w.heap.size, 1, none⟩ = some (.int .i64 sb) := by obtain ⟨q, hq⟩ := HQ.out; rw [hq]; exact k1
    have j2 : wr.cell? ⟨w.heap.size, 2, none⟩ = some (.int .i64 so) := by obtain ⟨q, hq⟩ := HQ.out; rw [hq]; exact k2
    have j3 : wr.cell? ⟨w.heap.size, 3, none⟩ = some (.int .i64 sq) := by obtain ⟨q, hq⟩ := HQ.out; rw [hq]; exact k3
    clear k0 k1 k2 k3
    have HOr := hid (show Only noB w wr by obtain ⟨q, hq⟩ := HQ.out; rw [hq]; exact HO0.out.drewN q)
    by_cases hk2 : k < i
    · have d1 : decide (k < i) = true := by simpa using hk2
      have hkl : k < S.length := by omega
      have hkI : (k : Int) < (S.length : Int) := by omega
      obtain ⟨b, hbe, hbt⟩ := HC.out k hkl
      obtain rfl := Option.some.inj hbe
      have hb4 := (hbt.kept HOr.out id).2.2.2
      have HTk := hid (show (S.take (k + 1)).map Srv.q = (S.take k).map Srv.q ++ [S[k].q] by rw [List.take_succ_eq_append_getElem hkl, List.map_append]; rfl)
      have HMem := hid (show S[k].q ∈ (S.take i).map Srv.q from List.mem_map.2 ⟨S[k], List.mem_take_iff_getElem.2 ⟨k, by omega, rfl⟩, rfl⟩)
      generalize S[k].q = qk at *
      clear hbt hbe
      by_cases he : qk = sq
      · subst he
        have d2 : (qk == qk) = true := by simp
        go_wp2_with fail
        go_quiet (fail)
        go_wp2_with fail
        go_ret
        refine ⟨false, rfl, HOr.out.drewN _, ?_⟩
        rw [HO.out]
        exact ⟨fun h => (by cases h), fun h => absurd HMem.out h.2⟩
      · have d2 : (qk == sq) = false := by simpa using he
        have HN2 := hid (show sq ∉ (S.take (k + 1)).map Srv.q from by
          rw [HTk.out]
          intro h
          rcases List.mem_append.1 h with h | h
          · exact HN.out h
          · exact he (List.mem_singleton.1 h).symm)
        clear he
        go_wp2_with fail
        go_quiet (fail)
        go_wp2_with fail
        go_roundg (i - (k + 1))
        case measure => omega
        case rel => exact ⟨k + 1, by omega, rfl, by go_num, HN2, hid (by obtain ⟨q, hq⟩ := HQ.out; exact ⟨_, by rw [hq]; exact World.drewN_drewN _ _ _⟩)⟩
    · obtain rfl : k = i := by omega
      have d1 : decide (k < k) = false := by simp
      clear hk hk2
      by_cases t1 : 1 ≤ sp ∧ sp ≤ 1048576
      rotate_left
      · have P1 := hid (show false = decide (1 ≤ sp ∧ sp ≤ 1048576) by simp only [decide_eq_false t1])
        have HE := hid (show ¬ Srv.ok ⟨sp, sb, so, sq⟩ from fun h => t1 h.1)
        clear t1
        go_wp2_with (go_at_call 60; refine (within_any _ _ _ _ _ (by first | exact P1.out)).mono ?_; rintro e w' ⟨rfl, rfl⟩)
        go_ret
        exact ⟨false, rfl, HOr.out, by rw [HO.out]; exact ⟨fun h => (by cases h), fun h => absurd h.1 HE.out⟩⟩
      have P1 := hid (show true = decide (1 ≤ sp ∧ sp ≤ 1048576) by simp only [decide_eq_true t1])
      have T1 := hid t1
      have e1 : IntKind.i64.wrap (sp - 1) = sp - 1 := IntWalk.i64_in _ (by omega)
      clear t1
      by_cases t2 : 1 ≤ sb ∧ sb ≤ sp
      rotate_left
      · have P2 := hid (show false = decide (1 ≤ sb ∧ sb ≤ sp) by simp only [decide_eq_false t2])
        have HE := hid (show ¬ Srv.ok ⟨sp, sb, so, sq⟩ from fun h => t2 h.2.1)
        clear t2
        go_wp2_with (go_at_call 60; refine (within_any _ _ _ _ _ (by first | exact P1.out | exact P2.out)).mono ?_; rintro e w' ⟨rfl, rfl⟩)
        go_ret
        exact ⟨false, rfl, HOr.out, by rw [HO.out]; exact ⟨fun h => (by cases h), fun h => absurd h.1 HE.out⟩⟩
      have P2 := hid (show true = decide (1 ≤ sb ∧ sb ≤ sp) by simp only [decide_eq_true t2])
      have T2 := hid t2
      clear t2
      by_cases t3 : 0 ≤ so ∧ so ≤ sp - 1
      rotate_left
      · have P3 := hid (show false = decide (0 ≤ so ∧ so ≤ sp - 1) by simp only [decide_eq_false t3])
        have HE := hid (show ¬ Srv.ok ⟨sp, sb, so, sq⟩ from fun h => t3 h.2.2.1)
        clear t3
        go_wp2_with (go_at_call 60; refine (within_any _ _ _ _ _ (by first | exact P1.out | exact P2.out | exact P3.out)).mono ?_; rintro e w' ⟨rfl, rfl⟩)
        go_ret
        exact ⟨false, rfl, HOr.out, by rw [HO.out]; exact ⟨fun h => (by cases h), fun h => absurd h.1 HE.out⟩⟩
      have P3 := hid (show true = decide (0 ≤ so ∧ so ≤ sp - 1) by simp only [decide_eq_true t3])
      have T3 := hid t3
      clear t3
      by_cases t4 : 0 ≤ sq ∧ sq ≤ 255
      rotate_left
      · have P4 := hid (show false = decide (0 ≤ sq ∧ sq ≤ 255) by simp only [decide_eq_false t4])
        have HE := hid (show ¬ Srv.ok ⟨sp, sb, so, sq⟩ from fun h => t4 h.2.2.2)
        clear t4
        go_wp2_with (go_at_call 60; refine (within_any _ _ _ _ _ (by first | exact P1.out | exact P2.out | exact P3.out | exact P4.out)).mono ?_; rintro e w' ⟨rfl, rfl⟩)
        go_ret
        exact ⟨false, rfl, HOr.out, by rw [HO.out]; exact ⟨fun h => (by cases h), fun h => absurd h.1 HE.out⟩⟩
      have P4 := hid (show true = decide (0 ≤ sq ∧ sq ≤ 255) by simp only [decide_eq_true t4])
      have T4 := hid t4
      clear t4
      go_wp2_with (go_at_call 60; refine (within_any _ _ _ _ _ (by first | exact P1.out | exact P2.out | exact P3.out | exact P4.out)).mono ?_; rintro e w' ⟨rfl, rfl⟩)
      go_ret
      exact ⟨true, rfl, HOr.out, by rw [HO.out]; exact ⟨fun _ => ⟨⟨T1.out, T2.out, T3.out, T4.out⟩, HN.out⟩, fun _ => rfl⟩⟩
end Go.Proofs.YtlmnojbghgnniaaGreatDoor.Ref
