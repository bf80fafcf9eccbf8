/- OnlineSteps: the walk. -/
import Derived.Test.YtlmnojbghgnniaaDoorAgain
namespace Bulk
open Go Go.RowKit

/-- Two dispatchers, the blocks of the first from w.size to s1 and from s3 on, those of the second from s1 to s3. -/
structure StepSt (S : List Srv) (h : Nat) (w wr : World) (db db2 n m s1 s3 : Nat) : Prop where
  only : Only noB w wr
  a : Dis S h wr db n (fun b => (w.heap.size ≤ b ∧ b < s1) ∨ s3 ≤ b)
  b : Dis S h wr db2 m (fun b => s1 ≤ b ∧ b < s3)
  sz : s3 ≤ wr.heap.size
  s13 : s1 ≤ s3
  s0 : w.heap.size ≤ s1

theorem StepSt.stepA {S : List Srv} {h : Nat} {w wr w' : World} {db db2 n m k s1 s3 : Nat} (st : StepSt S h w wr db db2 n m s1 s3)
    (ho : Only (fun b => (w.heap.size ≤ b ∧ b < s1) ∨ s3 ≤ b) wr w') (hd : Dis S h w' db k (Fr (fun b => (w.heap.size ≤ b ∧ b < s1) ∨ s3 ≤ b) wr w')) : StepSt S h w w' db db2 k m s1 s3 :=
  ⟨st.only.trans ho fun x hx e => by have := st.s0; have := st.s13; omega, hd.mono fun b _ e => by
    rcases e with e | e
    · exact e
    · have := st.sz; right; omega, st.b.kept ho fun b _ e1 e2 => by omega, Nat.le_trans st.sz ho.size, st.s13, st.s0⟩

theorem StepSt.drew {S : List Srv} {h : Nat} {w wr w' : World} {db db2 n m s1 s3 : Nat} (st : StepSt S h w wr db db2 n m s1 s3) (ho : Only noB wr w') : StepSt S h w w' db db2 n m s1 s3 :=
  ⟨st.only.trans ho fun _ _ e => e, st.a.kept ho fun _ _ _ e => e, st.b.kept ho fun _ _ _ e => e, Nat.le_trans st.sz ho.size, st.s13, st.s0⟩
end Bulk

namespace Go.Proofs.YtlmnojbghgnniaaDoor.On
open Go.RowKit Bulk Ch

set_option maxHeartbeats 2000000 in
set_option maxRecDepth 100000 in
theorem steps_any (S : List Srv) (v v1 : Value) (xs : List Int) (w : World) (hv : SrvAt w v S) (hl0 : S.length ≤ 9223372036854775807) (hx : IntsAt w v1 xs) (hxl : xs.length ≤ 9223372036854775807) (hg : Ch.Hnd w) :
    Calls Tryd.prog 4 #[v, v1] w fun e w' => e = .returned (.bool true) ∧ Only noB w w' := by
  have HA := hid (able_any S v w hv hl0 hg)
  have HV := hid hv
  have HG := hid hg
  obtain ⟨px, cx, rfl, hcx⟩ := hx
  have HX := hid hcx
  clear hv hg hcx
  go_enter Tryd.func4, Tryd.ntmps4
  go_wp2_with fail
  refine HA.out.mono ?_
  rintro e w1 ⟨ho1, hcase⟩
  have HO1 := hid ho1
  have HB := hid (able_any S v w1 (SrvAt.kept HV.out ho1) hl0 (HG.out.kept ho1 id))
  clear ho1 HA
  rcases hcase with ⟨hne, rfl⟩ | ⟨h, db, hh, rfl, hD⟩
  · have HE := hid hne
    clear hne
    go_wp2_with fail
    refine HB.out.mono ?_
    rintro e w2 ⟨ho2, hcase⟩
    have HO2 := hid ho2
    have HK := hid (known_any w2 ((HG.out.kept HO1.out id).kept ho2 id))
    clear ho2 HB
    rcases hcase with ⟨hne, rfl⟩ | ⟨h, db, hh, rfl, hD⟩
    · clear hne
      go_wp2_with fail
      refine HK.out.mono ?_
      rintro e w3 ⟨rfl, ho3⟩
      have HO3 := hid ho3
      clear ho3 HK
      go_wp2_with fail
      go_ret
      exact ⟨rfl, (HO1.out.trans HO2.out (fun _ _ h => h)).trans HO3.out (fun _ _ h => h)⟩
    · exact absurd (by rw [hh]) HE.out
  · have HH := hid hh
    have HD := hid hD
    clear hh hD
    go_wp2_with fail
    refine HB.out.mono ?_
    rintro e w2 ⟨ho2, hcase⟩
    have HO2 := hid ho2
    have HK := hid (known_any w2 ((HG.out.kept HO1.out id).kept ho2 id))
    clear ho2 HB
    rcases hcase with ⟨hne, rfl⟩ | ⟨h', db2, hh2, rfl, hD2⟩
    · exact absurd (by rw [HH.out]) hne
    · have hhe : h' = h := by have := HH.out; rw [hh2] at this; exact congrArg Prod.fst this
      subst hhe
      obtain ⟨ok, hl, hH1, hH2, okk⟩ := sys_ok hh2
      have HD2 := hid hD2
      clear hh2 hD2
      go_wp2_with fail
      refine HK.out.mono ?_
      rintro e w3 ⟨rfl, ho3⟩
      have HS := hid (show StepSt S h' w w3 db db2 0 0 w1.heap.size w3.heap.size from by
        have s1 := HO1.out.size
        have s2 := HO2.out.size
        have s3 := ho3.size
        exact ⟨(HO1.out.trans HO2.out (fun _ _ h => h)).trans ho3 (fun _ _ h => h), ((HD.out.kept HO2.out (fun _ _ _ e => e)).kept ho3 (fun _ _ _ e => e)).mono (fun b _ e => .inl (fr_new e)),
          (HD2.out.kept ho3 (fun _ _ _ e => e)).mono (fun b _ e => by have := fr_new e; omega), Nat.le_refl _, by omega, s1⟩)
      generalize w3.heap.size = s3 at *
      generalize w1.heap.size = s1 at *
      clear ho3 HK
      go_wp2_with fail
      go_loopg [11, 12] xs.length (fun g v11 v12 wr => ∃ i n : Nat, i ≤ xs.length ∧ g = xs.length - i ∧ v11 = .int .i64 n ∧ v12 = .int .i64 i ∧ n < 1099511627776 ∧ Hid (StepSt S h' w wr db db2 n 0 s1 s3))
      case atStart => exact ⟨0, 0, by omega, rfl, rfl, rfl, by omega, HS⟩
      case round =>
        obtain ⟨i, n, hi, rfl, rfl, rfl, hn, HR⟩ := hrel
        clear HS
        by_cases hi2 : i < xs.length ∧ i < 200
        · obtain ⟨hi2, hi3⟩ := hi2
          obtain ⟨a, rfl, hc⟩ := HX.out i hi2
          have hc' := HR.out.only.cell hc id
          have d1 : decide (i < xs.length) = true := by simpa using hi2
          have d2 : decide ((i : Int) < 200) = true := by simp; omega
          have hi4 : (i : Int) < (xs.length : Int) := by omega
          generalize xs[i] = x at *
          have HC := hid hc
          clear hc
          by_cases hg1 : (n : Int) ≤ x
          · by_cases hg2 : x < 1099511627776
            · obtain ⟨k, rfl⟩ : ∃ k : Nat, x = k := ⟨x.toNat, by omega⟩
              have d3 : decide (n ≤ k) = true := by simp; omega
              have d4 : decide ((k : Int) < 1099511627776) = true := by simp; omega
              have HAd := hid (dis_adv (tt := k) HR.out.a (by omega) (by omega) HH.out)
              have hk : k < 1099511627776 := by omega
              clear hg1 hg2
              go_wp2_with fail
              refine HAd.out.mono ?_
              rintro e w4 ⟨rfl, ho4, hD4⟩
              have HS4 := hid (HR.out.stepA ho4 hD4)
              have hc4 := HS4.out.only.cell HC.out id
              have HNow := hid (dis_now HS4.out.a)
              have d5 : ((k : Int) != (k : Int)) = false := by simp
              clear ho4 hD4 HAd hc'
              go_wp2_with fail
              refine HNow.out.mono ?_
              rintro e w5 ⟨rfl, rfl⟩
              clear HNow
              go_wp2_with fail
              go_roundg (xs.length - (i + 1))
              case measure => omega
              case rel => exact ⟨i + 1, k, by omega, rfl, rfl, by go_num, hk, HS4⟩
            · have d3 : decide ((n : Int) ≤ x) = true := by simpa using hg1
              have d4 : decide (x < 1099511627776) = false := by simpa using hg2
              have HAd := hid (dis_bad HR.out.a (.inr (show (1099511627776 : Int) ≤ x by omega)))
              have HNow := hid (dis_now HR.out.a)
              have d5 : ((n : Int) != (n : Int)) = false := by simp
              clear hg1 hg2
              go_wp2_with fail
              refine HAd.out.mono ?_
              rintro e w4 ⟨rfl, rfl⟩
              clear HAd
              go_wp2_with fail
              refine HNow.out.mono ?_
              rintro e w5 ⟨rfl, rfl⟩
              clear HNow
              go_wp2_with fail
              go_roundg (xs.length - (i + 1))
              case measure => omega
              case rel => exact ⟨i + 1, n, by omega, rfl, rfl, by go_num, hn, HR⟩
          · have d3 : decide ((n : Int) ≤ x) = false := by simpa using hg1
            have HAd := hid (dis_bad HR.out.a (.inl (show x < (n : Int) by omega)))
            have HNow := hid (dis_now HR.out.a)
            have d5 : ((n : Int) != (n : Int)) = false := by simp
            clear hg1
            go_wp2_with fail
            refine HAd.out.mono ?_
            rintro e w4 ⟨rfl, rfl⟩
            clear HAd
            go_wp2_with fail
            refine HNow.out.mono ?_
            rintro e w5 ⟨rfl, rfl⟩
            clear HNow
            go_wp2_with fail
            go_roundg (xs.length - (i + 1))
            case measure => omega
            case rel => exact ⟨i + 1, n, by omega, rfl, rfl, by go_num, hn, HR⟩
        · have HAd := hid (dis_adv (tt := n) HR.out.b (by omega) hn HH.out)
          have HEnd : Hid (∀ w4, Only (fun b => s1 ≤ b ∧ b < s3) wr w4 → Only noB w w4 ∧ Dis S h' w4 db n (fun b => (w.heap.size ≤ b ∧ b < s1) ∨ s3 ≤ b)) := hid fun w4 ho4 =>
            ⟨HR.out.only.trans ho4 fun x hx e => by have := HR.out.s0; omega, HR.out.a.kept ho4 fun b _ e1 e2 => by omega⟩
          by_cases hi3 : i < xs.length
          · have d1 : decide (i < xs.length) = true := by simpa using hi3
            have d2 : decide ((i : Int) < 200) = false := by simp; omega
            clear hi2 hi3 hi
            go_wp2_with fail
            refine HAd.out.mono ?_
            rintro e w4 ⟨rfl, ho4, hD4⟩
            obtain ⟨hoa, hda⟩ := HEnd.out w4 ho4
            have HOa := hid hoa
            have HDa := hid hda
            have HDb := hid hD4
            have HRa := hid (dis_rests hda hl)
            clear ho4 hoa hda hD4 HAd HEnd
            go_wp2_with fail
            refine HRa.out.mono ?_
            rintro e w6 ⟨v6, rfl, ho6, hw6⟩
            have HRb := hid (dis_rests (HDb.out.kept ho6 (fun _ _ _ e => e)) hl)
            have HI6 := hid (intsAt_own (stList_len S n) hw6)
            have HO6 := hid ho6
            clear ho6 hw6 HRa
            go_wp2_with fail
            refine HRb.out.mono ?_
            rintro e w7 ⟨v7, rfl, ho7, hw7⟩
            have HSm := hid (sameInts_any _ _ v6 v7 w7 (IntsAt.kept HI6.out ho7) (intsAt_own (stList_len S n) hw7) (by rw [stList_len]; omega) (by rw [stList_len]; omega))
            have HO7 := hid (HO6.out.trans ho7 (fun _ _ h => h))
            clear ho7 hw7 HRb
            rw [show decide (stList S n = stList S n) = true by simp] at HSm
            go_wp2_with fail
            refine HSm.out.mono ?_
            rintro e w8 ⟨rfl, q8, rfl⟩
            have ho8 : Only noB w4 (w7.drewN q8) := HO7.out.drewN q8
            have HO8 := hid (HOa.out.trans ho8 (fun _ _ h => h))
            have HDa8 := hid (HDa.out.kept ho8 (fun _ _ _ e => e))
            have HDb8 := hid (HDb.out.kept ho8 (fun _ _ _ e => e))
            have HOcA := hid (dis_occ HDa8.out HH.out)
            have HOcB := hid (dis_occ HDb8.out HH.out)
            generalize optI ((sysOf S).occ n) + 1 = o at *
            have d7 : (o == o) = true := by simp
            clear ho8 HSm
            generalize w7.drewN q8 = w9 at *
            go_wp2_with fail
            refine HOcA.out.mono ?_
            rintro e w' ⟨rfl, rfl⟩
            clear HOcA
            go_wp2_with fail
            refine HOcB.out.mono ?_
            rintro e w'' ⟨rfl, rfl⟩
            clear HOcB
            have HUa := hid (dis_until HDa8.out hn HH.out)
            have HUb := hid (fun q => dis_until (HDb8.out.kept ((Only.refl noB _).drewN q) (fun _ _ _ e => e)) hn HH.out)
            generalize untilOf S n ((sysOf S).st n) (n + 1) = u at *
            have d8 : (u == u) = true := by simp
            go_wp2_with fail
            refine HUa.out.mono ?_
            rintro e wA ⟨rfl, qa, rfl⟩
            clear HUa
            go_wp2_with fail
            refine (HUb.out qa).mono ?_
            rintro e wB ⟨rfl, qb, rfl⟩
            clear HUb
            go_wp2_with fail
            go_ret
            exact ⟨rfl, HO8.out.drewN (qa + qb)⟩
          · have d1 : decide (i < xs.length) = false := by simpa using hi3
            clear hi2 hi3 hi
            go_wp2_with fail
            refine HAd.out.mono ?_
            rintro e w4 ⟨rfl, ho4, hD4⟩
            obtain ⟨hoa, hda⟩ := HEnd.out w4 ho4
            have HOa := hid hoa
            have HDa := hid hda
            have HDb := hid hD4
            have HRa := hid (dis_rests hda hl)
            clear ho4 hoa hda hD4 HAd HEnd
            go_wp2_with fail
            refine HRa.out.mono ?_
            rintro e w6 ⟨v6, rfl, ho6, hw6⟩
            have HRb := hid (dis_rests (HDb.out.kept ho6 (fun _ _ _ e => e)) hl)
            have HI6 := hid (intsAt_own (stList_len S n) hw6)
            have HO6 := hid ho6
            clear ho6 hw6 HRa
            go_wp2_with fail
            refine HRb.out.mono ?_
            rintro e w7 ⟨v7, rfl, ho7, hw7⟩
            have HSm := hid (sameInts_any _ _ v6 v7 w7 (IntsAt.kept HI6.out ho7) (intsAt_own (stList_len S n) hw7) (by rw [stList_len]; omega) (by rw [stList_len]; omega))
            have HO7 := hid (HO6.out.trans ho7 (fun _ _ h => h))
            clear ho7 hw7 HRb
            rw [show decide (stList S n = stList S n) = true by simp] at HSm
            go_wp2_with fail
            refine HSm.out.mono ?_
            rintro e w8 ⟨rfl, q8, rfl⟩
            have ho8 : Only noB w4 (w7.drewN q8) := HO7.out.drewN q8
            have HO8 := hid (HOa.out.trans ho8 (fun _ _ h => h))
            have HDa8 := hid (HDa.out.kept ho8 (fun _ _ _ e => e))
            have HDb8 := hid (HDb.out.kept ho8 (fun _ _ _ e => e))
            have HOcA := hid (dis_occ HDa8.out HH.out)
            have HOcB := hid (dis_occ HDb8.out HH.out)
            generalize optI ((sysOf S).occ n) + 1 = o at *
            have d7 : (o == o) = true := by simp
            clear ho8 HSm
            generalize w7.drewN q8 = w9 at *
            go_wp2_with fail
            refine HOcA.out.mono ?_
            rintro e w' ⟨rfl, rfl⟩
            clear HOcA
            go_wp2_with fail
            refine HOcB.out.mono ?_
            rintro e w'' ⟨rfl, rfl⟩
            clear HOcB
            have HUa := hid (dis_until HDa8.out hn HH.out)
            have HUb := hid (fun q => dis_until (HDb8.out.kept ((Only.refl noB _).drewN q) (fun _ _ _ e => e)) hn HH.out)
            generalize untilOf S n ((sysOf S).st n) (n + 1) = u at *
            have d8 : (u == u) = true := by simp
            go_wp2_with fail
            refine HUa.out.mono ?_
            rintro e wA ⟨rfl, qa, rfl⟩
            clear HUa
            go_wp2_with fail
            refine (HUb.out qa).mono ?_
            rintro e wB ⟨rfl, qb, rfl⟩
            clear HUb
            go_wp2_with fail
            go_ret
            exact ⟨rfl, HO8.out.drewN (qa + qb)⟩
end Go.Proofs.YtlmnojbghgnniaaDoor.On
