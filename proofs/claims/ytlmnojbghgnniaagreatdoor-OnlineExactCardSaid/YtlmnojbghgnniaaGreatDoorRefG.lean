/- The document's Until. -/
import Derived.Test.YtlmnojbghgnniaaGreatDoorRefF
namespace Bulk
open Go Go.RowKit

/-- The next release behind a tick, as the document reckons it. -/
theorem next_after (o p now : Nat) (hp : 1 ≤ p) : (if o ≤ now then now + p - (now - o) % p else o) = Go.Proofs.YtlmnojbghgnniaaGreatDoor.Ch.nextN o p (now + 1) := by
  unfold Go.Proofs.YtlmnojbghgnniaaGreatDoor.Ch.nextN
  by_cases h : o ≤ now
  · rw [if_pos h, if_neg (by omega)]
    have e : now + 1 - o = (now - o) + 1 := by omega
    rw [e]
    have hm := Nat.mod_lt (now - o) (show 0 < p by omega)
    have hle := Nat.mod_le (now - o) p
    by_cases hr : (now - o) % p + 1 = p
    · have h0 : (now - o + 1) % p = 0 := by
        rw [Nat.add_mod]
        by_cases h1 : p = 1
        · subst h1; omega
        · rw [Nat.mod_eq_of_lt (show 1 < p by omega), hr, Nat.mod_self]
      rw [h0, if_pos rfl]; omega
    · have h0 : (now - o + 1) % p = (now - o) % p + 1 := by
        rw [Nat.add_mod]
        by_cases h1 : p = 1
        · subst h1; omega
        · rw [Nat.mod_eq_of_lt (show 1 < p by omega), Nat.mod_eq_of_lt (show (now - o) % p + 1 < p by omega)]
      rw [h0, if_neg (by omega)]; omega
  · rw [if_neg h, if_pos (by omega)]

theorem nx_after {S : List Srv} {i : Nat} (hi : i < S.length) {o p : Nat} (ho : S[i].o = o) (hp : S[i].p = p) (now : Nat) (h1 : 1 ≤ p) : nx S i (now + 1) = if o ≤ now then now + p - (now - o) % p else o := by
  obtain ⟨e1, _, e3, _⟩ := sysOf_at hi
  unfold nx
  rw [e1, e3, ho, hp, next_after o p now h1]
  rfl
end Bulk

namespace Go.Proofs.YtlmnojbghgnniaaGreatDoor.Ref
open Go.RowKit Bulk Ch On

set_option maxHeartbeats 4000000 in
set_option maxRecDepth 100000 in
theorem until_ref (S : List Srv) (H now : Nat) (x : Value) (w : World) (hx : DocAt w x S H now) (hl : S.length ≤ 32) (ok : okL S) (hn : now < 1099511627776)
    (hbd : ∀ t i, i < S.length → 0 ≤ (sysOf S).st t i ∧ (sysOf S).st t i ≤ 1048576) :
    Calls Tryz.prog 23 #[x] w fun e w' => e = .returned (.int .i64 (untilOf S now ((sysOf S).st now) (now + 1))) ∧ Only noB w w' := by
  have HX := hid hx
  obtain ⟨vs, vl, rfl, h1, h2⟩ := hx
  have HSF := hid h1
  obtain ⟨pv, cv, rfl, hsv⟩ := h1.sat
  have HV := hid hsv
  have HB := hid hbd
  obtain ⟨w1, hw1⟩ : ∃ y : World, y = w.alloc (.cells #[.slice pv S.length cv, .int .i64 H, .int .i64 now, vl] 28) := ⟨_, rfl⟩
  have ho : Only noB w w1 := by rw [hw1]; exact (Only.refl _ _).alloc _
  have c0 : w1.cell? ⟨w.heap.size, 0, none⟩ = some (.slice pv S.length cv) := by rw [hw1]; simp
  have c1 : w1.cell? ⟨w.heap.size, 1, none⟩ = some (.int .i64 H) := by rw [hw1]; simp
  have c2 : w1.cell? ⟨w.heap.size, 2, none⟩ = some (.int .i64 now) := by rw [hw1]; simp
  have c3 : w1.cell? ⟨w.heap.size, 3, none⟩ = some vl := by rw [hw1]; simp
  have HC := hid (And.intro c0 (And.intro c1 (And.intro c2 c3)))
  have HW1 := hid hw1
  have HO := hid ho
  clear h1 h2 hw1 ho c0 c1 c2 c3 hsv hbd
  go_enter Tryz.func23, Tryz.ntmps23
  go_wp2_with fail
  rw [← HW1.out]
  go_loopg [3, 4] S.length (fun g v3 v4 wr => ∃ i : Nat, i ≤ S.length ∧ g = S.length - i ∧ v4 = .int .i64 i ∧ v3 = .int .i64 (relMin S (now + 1) i : Nat) ∧ Hid (Only noB w1 wr))
  case atStart => exact ⟨0, by omega, rfl, rfl, rfl, hid (Only.refl _ _)⟩
  case round =>
    obtain ⟨i, hi, rfl, rfl, rfl, HR⟩ := hrel
    have c0 := HR.out.cell HC.out.1 id
    have c1 := HR.out.cell HC.out.2.1 id
    have c2 := HR.out.cell HC.out.2.2.1 id
    have c3 := HR.out.cell HC.out.2.2.2 id
    by_cases hi2 : i < S.length
    · have d1 : decide (i < S.length) = true := by simpa using hi2
      have hin : (i : Int) < (S.length : Int) := by omega
      obtain ⟨a, rfl, hat⟩ := HV.out i hi2
      obtain ⟨s1, s2, s3, s4⟩ := (hat.kept HO.out id).kept HR.out id
      have hsrv := ok.1 S[i] (List.getElem_mem hi2)
      obtain ⟨⟨p1, p2⟩, _, ⟨o1, o2⟩, _⟩ := hsrv
      obtain ⟨pn, hp⟩ : ∃ pn : Nat, S[i].p = pn := ⟨_, (Int.toNat_of_nonneg (show 0 ≤ S[i].p by omega)).symm⟩
      obtain ⟨ofs, hof⟩ : ∃ ofs : Nat, S[i].o = ofs := ⟨_, (Int.toNat_of_nonneg o1).symm⟩
      have hnx := nx_after hi2 hof hp now (by omega)
      have hrm : relMin S (now + 1) (i + 1) = min (relMin S (now + 1) i) (nx S i (now + 1)) := rfl
      have hrt := relMin_top S (now + 1) i
      rw [hp] at s1 p1 p2 o2
      rw [hof] at s3 o2
      generalize S[i].b = bi at *
      generalize S[i].q = qi at *
      generalize relMin S (now + 1) i = lm at *
      have HN := hid (show Only noB w1 (wr.alloc (.cells #[.int .i64 pn, .int .i64 bi, .int .i64 ofs, .int .i64 qi] 44)) from HR.out.alloc _)
      have k0 := cell_alloc_keep c0 (.cells #[.int .i64 pn, .int .i64 bi, .int .i64 ofs, .int .i64 qi] 44)
      have k2 := cell_alloc_keep c2 (.cells #[.int .i64 pn, .int .i64 bi, .int .i64 ofs, .int .i64 qi] 44)
      by_cases h1 : ofs ≤ now
      · rw [if_pos h1] at hnx
        have d2 : decide (ofs ≤ now) = true := by simpa using h1
        have hmp : (now - ofs) % pn < pn := Nat.mod_lt _ (by omega)
        have e1 : IntKind.i64.wrap ((now : Int) + pn) = (now : Int) + pn := IntWalk.i64_in _ (by omega)
        have e2 : IntKind.i64.wrap ((now : Int) - ofs) = ((now - ofs : Nat) : Int) := by rw [IntWalk.i64_in _ (by omega)]; omega
        have e3 : Int.tmod ((now - ofs : Nat) : Int) (pn : Int) = (((now - ofs) % pn : Nat) : Int) := (Int.ofNat_tmod _ _).symm
        have e4 : ¬ (pn : Int) = 0 := by omega
        have e5 : IntKind.i64.wrap ((now : Int) + pn - ((now - ofs) % pn : Nat)) = ((now + pn - (now - ofs) % pn : Nat) : Int) := by rw [IntWalk.i64_in _ (by omega)]; omega
        have e6 : IntKind.i64.wrap (((now - ofs) % pn : Nat) : Int) = (((now - ofs) % pn : Nat) : Int) := IntWalk.i64_in _ (by omega)
        generalize now + pn - (now - ofs) % pn = z at *
        generalize (now - ofs) % pn = m at *
        generalize now - ofs = df at *
        have hz : z ≤ 2199023255552 := by
          have h5 := e5
          rw [IntWalk.i64_in _ (by omega)] at h5
          omega
        have HE := hid (And.intro e1 (And.intro e2 (And.intro e3 (And.intro e5 e6))))
        clear e1 e2 e3 e5 e6 hmp h1 hp hof o1 p1 p2 o2
        go_wp2_with fail
        obtain ⟨wa, hwa⟩ : ∃ y : World, y = wr.alloc (.cells #[.int .i64 pn, .int .i64 bi, .int .i64 ofs, .int .i64 qi] 44) := ⟨_, rfl⟩
        have m0 : wa.cell? ⟨wr.heap.size, 0, none⟩ = some (.int .i64 pn) := by rw [hwa]; simp
        have m2 : wa.cell? ⟨wr.heap.size, 2, none⟩ = some (.int .i64 ofs) := by rw [hwa]; simp
        rw [← hwa]
        rw [← hwa] at HN k0 k2
        clear hwa
        obtain ⟨e1, e2, e3, e5, e6⟩ := HE.out
        go_quiet (fail)
        clear e1 e2 e3 e5 e6
        by_cases hlt : z < lm
        · have d3 : decide (z < lm) = true := by simpa using hlt
          have HM := hid (show z = relMin S (now + 1) (i + 1) by rw [hrm, hnx, Nat.min_eq_right (by omega)])
          clear hlt hrm hnx
          go_wp2_with fail
          go_roundg (S.length - (i + 1))
          case measure => omega
          case rel => exact ⟨i + 1, by omega, rfl, by go_num, by rw [← HM.out], hid (HN.out.drewN _)⟩
        · have d3 : decide (z < lm) = false := by simpa using hlt
          have HM := hid (show lm = relMin S (now + 1) (i + 1) by rw [hrm, hnx, Nat.min_eq_left (by omega)])
          clear hlt hrm hnx
          go_wp2_with fail
          go_roundg (S.length - (i + 1))
          case measure => omega
          case rel => exact ⟨i + 1, by omega, rfl, by go_num, by rw [← HM.out], hid (HN.out.drewN _)⟩
      · rw [if_neg h1] at hnx
        have d2 : decide (ofs ≤ now) = false := by simpa using h1
        clear h1 hp hof o1 p1 p2
        by_cases hlt : ofs < lm
        · have d3 : decide (ofs < lm) = true := by simpa using hlt
          have HM := hid (show ofs = relMin S (now + 1) (i + 1) by rw [hrm, hnx, Nat.min_eq_right (by omega)])
          clear hlt hrm hnx
          go_wp2_with fail
          go_roundg (S.length - (i + 1))
          case measure => omega
          case rel => exact ⟨i + 1, by omega, rfl, by go_num, by rw [← HM.out], hid (HN.out)⟩
        · have d3 : decide (ofs < lm) = false := by simpa using hlt
          have HM := hid (show lm = relMin S (now + 1) (i + 1) by rw [hrm, hnx, Nat.min_eq_left (by omega)])
          clear hlt hrm hnx
          go_wp2_with fail
          go_roundg (S.length - (i + 1))
          case measure => omega
          case rel => exact ⟨i + 1, by omega, rfl, by go_num, by rw [← HM.out], hid (HN.out)⟩
    · obtain rfl : i = S.length := by omega
      have d1 : decide (S.length < S.length) = false := by simp
      have HR2 := hid (rests_ref S H now _ wr (HX.out.kept (HO.out.trans HR.out (fun _ _ h => h))) hl)
      have HUn := hid (show untilOf S now ((sysOf S).st now) (now + 1) = match (sysOf S).pick ((sysOf S).st now) S.length with | none => (relMin S (now + 1) S.length : Int) | some i => min (relMin S (now + 1) S.length : Int) (now + (sysOf S).st now i) from rfl)
      have hrt := relMin_top S (now + 1) S.length
      generalize relMin S (now + 1) S.length = lm at *
      clear hi hi2
      go_wp2_with fail
      refine HR2.out.mono ?_
      rintro e w2 ⟨vr, rfl, hr⟩
      have HRr := hid hr
      have HO2 := hid (HR.out.trans hr.only (fun _ _ h => h))
      obtain ⟨pr, cr, rfl⟩ := hr.shape
      have k0 := HO2.out.cell HC.out.1 id
      have k2 := HO2.out.cell HC.out.2.2.1 id
      have HCh := hid (chosen_any S ((sysOf S).st now) _ _ w2 (HSF.out.kept (HO.out.trans HO2.out (fun _ _ h => h))).sat hr.iat hl)
      clear hr HR2 c0 c1 c2 c3
      go_wp2_with fail
      refine HCh.out.mono ?_
      rintro e w3 ⟨rfl, q, rfl⟩
      have HO3 := hid (show Only noB w (w2.drewN q) from (HO.out.trans HO2.out (fun _ _ h => h)).drewN q)
      have HR3 := hid (HRr.out.drewN q)
      have k0' : (w2.drewN q).cell? ⟨w.heap.size, 0, none⟩ = some (.slice pv S.length cv) := k0
      have k2' : (w2.drewN q).cell? ⟨w.heap.size, 2, none⟩ = some (.int .i64 now) := k2
      generalize w2.drewN q = w4 at *
      clear k0 k2 HCh HRr
      cases hp : (sysOf S).pick ((sysOf S).st now) S.length with
      | none =>
        rw [show optI none + 1 = (0 : Int) from rfl]
        have HE := hid (show untilOf S now ((sysOf S).st now) (now + 1) = (lm : Int) by rw [HUn.out, hp])
        clear hp
        go_wp2_with fail
        go_ret
        exact ⟨by rw [HE.out]; rfl, HO3.out⟩
      | some j =>
        have hj : j < S.length := (Sys.pick_some hp).1
        have hjI : (j : Int) < (S.length : Int) := by omega
        rw [show optI (some j) + 1 = (j : Int) + 1 from rfl]
        obtain ⟨g, rfl, _, hcell, hfz⟩ := HR3.out.form hj
        have d2 : decide ((0 : Int) < (j : Int) + 1) = true := decide_eq_true (by omega)
        obtain ⟨z0, z1⟩ := HB.out now j hj
        have HE := hid (show untilOf S now ((sysOf S).st now) (now + 1) = min (lm : Int) (now + (sysOf S).st now j) by rw [HUn.out, hp])
        generalize (sysOf S).st now j = zz at *
        have e2 : IntKind.i64.wrap ((j : Int) + 1 - 1) = (j : Int) := by rw [IntWalk.i64_in _ (by omega)]; omega
        have e3 : IntKind.i64.wrap ((now : Int) + zz) = (now : Int) + zz := IntWalk.i64_in _ (by omega)
        have HE3 := hid e3
        clear hp e3
        go_wp2_with fail
        have e3 := HE3.out
        go_quiet (fail)
        by_cases hlt : (now : Int) + zz < lm
        · have d3 : decide ((now : Int) + zz < lm) = true := by simpa using hlt
          have HE2 := hid (show untilOf S now ((sysOf S).st now) (now + 1) = (now : Int) + zz by rw [HE.out]; omega)
          clear hlt e3
          go_wp2_with fail
          go_ret
          exact ⟨by rw [HE2.out]; rfl, HO3.out.drewN _⟩
        · have d3 : decide ((now : Int) + zz < lm) = false := by simpa using hlt
          have HE2 := hid (show untilOf S now ((sysOf S).st now) (now + 1) = (lm : Int) by rw [HE.out]; omega)
          clear hlt e3
          go_wp2_with fail
          go_ret
          exact ⟨by rw [HE2.out]; rfl, HO3.out.drewN _⟩
end Go.Proofs.YtlmnojbghgnniaaGreatDoor.Ref
