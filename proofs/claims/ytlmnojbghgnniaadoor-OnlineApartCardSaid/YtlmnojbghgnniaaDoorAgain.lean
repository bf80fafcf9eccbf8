/- OnlineAgain: the walk. -/
import Derived.Test.YtlmnojbghgnniaaDoorLawA
namespace Go.Proofs.YtlmnojbghgnniaaDoor.On
open Go.RowKit Bulk Ch

theorem stList_again {S : List Srv} {h t : Nat} (okk : (sysOf S).Ok h) (ht : 2 * h ≤ t) : stList S (t + h) = stList S t := by
  unfold stList
  refine List.map_congr_left fun i hi => ?_
  exact Sys.st_again okk rfl (List.mem_range.1 hi) ht

theorem fr_new {w w' : World} {b : Nat} (h : Fr noB w w' b) : w.heap.size ≤ b ∧ b < w'.heap.size := h.resolve_left id

set_option maxHeartbeats 1000000 in
set_option maxRecDepth 100000 in
theorem again_any (S : List Srv) (v : Value) (t : Int) (w : World) (hv : SrvAt w v S) (hl0 : S.length ≤ 9223372036854775807) (hg : Ch.Hnd w) :
    Calls Tryd.prog 5 #[v, .int .i64 t] w fun e w' => e = .returned (.bool true) ∧ Only noB w w' := by
  have HA := hid (able_any S v w hv hl0 hg)
  have HV := hid hv
  have HG := hid hg
  clear hv hg
  go_enter Tryd.func5, Tryd.ntmps5
  go_wp2_with fail
  refine HA.out.mono ?_
  rintro e w1 ⟨ho1, hcase⟩
  have HO1 := hid ho1
  have HB := hid (able_any S v w1 (SrvAt.kept HV.out ho1) hl0 (HG.out.kept ho1 id))
  clear ho1 HA
  rcases hcase with ⟨hne, rfl⟩ | ⟨h, db, hh, rfl, hD⟩
  · have HE := hid hne
    clear hne
    go_wp2_with fail
    refine HB.out.mono ?_
    rintro e w2 ⟨ho2, hcase⟩
    have HO2 := hid ho2
    have HK := hid (known_any w2 ((HG.out.kept HO1.out id).kept ho2 id))
    clear ho2 HB
    rcases hcase with ⟨hne, rfl⟩ | ⟨h, db, hh, rfl, hD⟩
    · clear hne
      go_wp2_with fail
      refine HK.out.mono ?_
      rintro e w3 ⟨rfl, ho3⟩
      have HO3 := hid ho3
      clear ho3 HK
      go_wp2_with fail
      go_ret
      exact ⟨rfl, (HO1.out.trans HO2.out (fun _ _ h => h)).trans HO3.out (fun _ _ h => h)⟩
    · exact absurd (by rw [hh]) HE.out
  · have HH := hid hh
    have HD := hid hD
    clear hh hD
    go_wp2_with fail
    refine HB.out.mono ?_
    rintro e w2 ⟨ho2, hcase⟩
    have HO2 := hid ho2
    have HK := hid (known_any w2 ((HG.out.kept HO1.out id).kept ho2 id))
    clear ho2 HB
    rcases hcase with ⟨hne, rfl⟩ | ⟨h', db2, hh2, rfl, hD2⟩
    · exact absurd (by rw [HH.out]) hne
    · have hhe : h' = h := by have := HH.out; rw [hh2] at this; exact congrArg Prod.fst this
      subst hhe
      obtain ⟨ok, hl, hH1, hH2, okk⟩ := sys_ok hh2
      have HD2 := hid hD2
      clear hh2 hD2
      go_wp2_with fail
      refine HK.out.mono ?_
      rintro e w3 ⟨rfl, ho3⟩
      have HO3 := hid ho3
      have HO := hid ((HO1.out.trans HO2.out (fun _ _ h => h)).trans ho3 (fun _ _ h => h))
      clear ho3 HK
      have e1 : IntKind.i64.wrap ((1099511627776 : Int) - h') = 1099511627776 - h' := IntWalk.i64_in _ (by omega)
      by_cases t1 : t < h'
      · have d1 : decide (t < (h' : Int)) = true := by simpa using t1
        clear t1
        go_wp2_with fail
        go_ret
        exact ⟨rfl, HO.out⟩
      · by_cases t2 : 1099511627776 - (h' : Int) ≤ t
        · have d1 : decide (t < (h' : Int)) = false := by simpa using t1
          have d2 : decide (1099511627776 - (h' : Int) ≤ t) = true := by simpa using t2
          clear t1 t2
          go_wp2_with fail
          go_ret
          exact ⟨rfl, HO.out⟩
        · obtain ⟨n, rfl⟩ : ∃ n : Nat, t = n := ⟨t.toNat, by omega⟩
          have d1 : decide (n < h') = false := by simp; omega
          have d2 : decide (1099511627776 - (h' : Int) ≤ (n : Int)) = false := by simpa using t2
          have e2 : IntKind.i64.wrap ((n : Int) + h') = ((n + h' : Nat) : Int) := by rw [IntWalk.i64_in _ (by omega)]; omega
          have hA1 := dis_adv (tt := n) ((HD.out.kept HO2.out (fun _ _ _ e => e)).kept HO3.out (fun _ _ _ e => e)) (by omega) (by omega) HH.out
          have HA1 := hid hA1
          have HN := hid (show h' ≤ n ∧ n + h' < 1099511627776 by omega)
          clear hA1 t1 t2
          go_wp2_with fail
          refine HA1.out.mono ?_
          rintro e w4 ⟨rfl, ho4, hD4⟩
          have HO4 := hid ho4
          have HD4 := hid hD4
          have hA2 := dis_adv (tt := n + h') ((HD2.out.kept HO3.out (fun _ _ _ e => e)).kept ho4 (fun b _ e1 e2 => by
            have h1 := fr_new e1; have h2 := fr_new e2; omega)) (by omega) HN.out.2 HH.out
          have HA2 := hid hA2
          clear hA2 ho4 hD4 HA1
          obtain ⟨m, hm⟩ : ∃ m : Nat, m = n + h' := ⟨_, rfl⟩
          rw [← hm] at HA2 e2
          have HM := hid hm
          clear hm
          go_wp2_with fail
          refine HA2.out.mono ?_
          rintro e w5 ⟨rfl, ho5, hD5⟩
          have HO5 := hid ho5
          have HD5 := hid hD5
          have hD45 := HD4.out.kept ho5 (fun b hb e1 e2 => by
            have h2 := fr_new e2
            have s3 := HO3.out.size
            rcases e1 with e1 | e1
            · have h1 := fr_new e1; omega
            · have := e1.1; omega)
          have HD45 := hid hD45
          have HOa := hid (dis_occ hD45 HH.out)
          have HOb := hid (dis_occ hD5 HH.out)
          have hoc : (sysOf S).occ m = (sysOf S).occ n := by rw [HM.out]; exact Sys.occ_again okk rfl HN.out.1
          rw [hoc] at HOb
          generalize optI ((sysOf S).occ n) + 1 = o at *
          clear HA2 ho5 hD5 hD45 hoc
          go_wp2_with fail
          refine HOa.out.mono ?_
          rintro e w' ⟨rfl, rfl⟩
          clear HOa
          go_wp2_with fail
          refine HOb.out.mono ?_
          rintro e w' ⟨rfl, rfl⟩
          clear HOb
          have d3 : (o != o) = false := by simp
          have e3 : IntKind.i64.wrap ((2 : Int) * h') = ((2 * h' : Nat) : Int) := by rw [IntWalk.i64_in _ (by omega)]; omega
          have HOe := hid (show Only noB w w' from (HO.out.trans HO4.out fun x hx e => by
              have h1 := fr_new e; omega).trans HO5.out fun x hx e => by
                have h1 := fr_new e; have s1 := HO1.out.size; omega)
          by_cases t3 : n < 2 * h'
          · have d4 : decide (n < 2 * h') = true := by simpa using t3
            generalize 2 * h' = hh2 at *
            clear t3
            go_wp2_with fail
            go_ret
            exact ⟨rfl, HOe.out⟩
          · have d4 : decide (n < 2 * h') = false := by simpa using t3
            have hst : stList S m = stList S n := by rw [HM.out]; exact stList_again okk (by omega)
            have HRa := hid (dis_rests HD45.out hl)
            generalize 2 * h' = hh2 at *
            have HSt := hid hst
            clear t3 hst
            go_wp2_with fail
            refine HRa.out.mono ?_
            rintro e w6 ⟨v6, rfl, ho6, hw6⟩
            have hRb := dis_rests (HD5.out.kept ho6 (fun _ _ _ e => e)) hl
            rw [HSt.out] at hRb
            have HRb := hid hRb
            have HI6 := hid (intsAt_own (stList_len S n) hw6)
            have HO6 := hid ho6
            clear ho6 hw6 hRb HRa
            go_wp2_with fail
            refine HRb.out.mono ?_
            rintro e w7 ⟨v7, rfl, ho7, hw7⟩
            have HSm := hid (sameInts_any _ _ v6 v7 w7 (IntsAt.kept HI6.out ho7) (intsAt_own (stList_len S n) hw7) (by rw [stList_len]; omega) (by rw [stList_len]; omega))
            have HO7 := hid ho7
            clear ho7 hw7 HRb
            rw [show decide (stList S n = stList S n) = true by simp] at HSm
            go_wp2_with fail
            refine HSm.out.mono ?_
            rintro e w8 ⟨rfl, q8, rfl⟩
            go_wp2_with fail
            go_ret
            exact ⟨rfl, ((HOe.out.trans HO6.out (fun _ _ h => h)).trans HO7.out (fun _ _ h => h)).drewN q8⟩
end Go.Proofs.YtlmnojbghgnniaaDoor.On
