/- OnlineRule: the walk. -/
import Derived.Test.YtlmnojbghgnniaaDoorRuleA
import Derived.Test.YtlmnojbghgnniaaDoorAgain
import Derived.Test.YtlmnojbghgnniaaDoorSpoilt
namespace Bulk
open Go Go.RowKit

/-- In OnlineRule: a dispatcher and a list of rests of its own. -/
structure RuleSt (S : List Srv) (h : Nat) (w wr : World) (db now : Nat) (v : Value) (r : Nat → Int) : Prop where
  only : Only noB w wr
  d : Dis S h wr db now (fun b => w.heap.size ≤ b ∧ v.ownBlock ≠ some b)
  own : wr.ownsRow w.heap.size 3 1 v S.length ((rList S r).map (Value.int .i64))

theorem RuleSt.step {S : List Srv} {h : Nat} {w wr w' : World} {db now : Nat} {v : Value} {r : Nat → Int} (st : RuleSt S h w wr db now v r) (ho : Only noB wr w') : RuleSt S h w w' db now v r :=
  ⟨st.only.trans ho fun _ _ e => e, st.d.kept ho fun _ _ _ e => e, own_of_blocks st.own fun b hb => ho.block b (st.own.lt b hb).2 id⟩

theorem RuleSt.adv {S : List Srv} {h : Nat} {w wr w' : World} {db now k : Nat} {v : Value} {r : Nat → Int} (st : RuleSt S h w wr db now v r)
    (ho : Only (fun b => w.heap.size ≤ b ∧ v.ownBlock ≠ some b) wr w') (hd : Dis S h w' db k (Fr (fun b => w.heap.size ≤ b ∧ v.ownBlock ≠ some b) wr w')) : RuleSt S h w w' db k v r := by
  have hs := st.only.size
  refine ⟨st.only.trans ho fun x hx e => by omega, hd.mono fun b _ e => ?_, own_of_blocks st.own fun b hb => ho.block b (st.own.lt b hb).2 (fun e => e.2 hb)⟩
  rcases e with e | e
  · exact e
  · exact ⟨by omega, fun e2 => by have := (st.own.lt b e2).2; omega⟩

/-- Another list. -/
theorem RuleSt.list {S : List Srv} {h : Nat} {w wr w' : World} {db now : Nat} {v v' : Value} {r r' : Nat → Int} (st : RuleSt S h w wr db now v r) (ho : Only noB wr w') (hw : w'.ownsRow wr.heap.size 3 1 v' S.length ((rList S r').map (Value.int .i64))) :
    RuleSt S h w w' db now v' r' := by
  have hs := st.only.size
  refine ⟨st.only.trans ho fun _ _ e => e, ((st.d.mono (G' := fun b => w.heap.size ≤ b ∧ b < wr.heap.size) fun b hb e => ⟨e.1, hb⟩).kept ho fun _ _ _ e => e).mono fun b _ e => ⟨e.1, fun e2 => by have := (hw.lt b e2).1; omega⟩, ⟨hw.1, ?_⟩⟩
  rcases hw.2 with h1 | ⟨g, c, cu, h1, h2, h3⟩
  · exact .inl h1
  · exact .inr ⟨g, c, cu, h1, by omega, h3⟩

/-- One of the list turns. -/
theorem RuleSt.set {S : List Srv} {h : Nat} {w wr : World} {db now i g : Nat} {v : Value} {r : Nat → Int} (st : RuleSt S h w wr db now v r) (hg : v.ownBlock = some g) (x : Int) :
    RuleSt S h w (wr.setCell ⟨g, i, none⟩ (.int .i64 x)) db now v (fun j => if j = i then x else r j) := by
  have ho : Only (fun b => b = g) wr (wr.setCell ⟨g, i, none⟩ (.int .i64 x)) := Only.setCell0 wr ⟨g, i, none⟩ _
  refine ⟨st.only.trans ho fun y hy e => by have := (st.own.lt g hg).1; omega, st.d.kept ho fun b _ e1 e2 => e1.2 (by rw [hg]; exact congrArg some e2.symm), ?_⟩
  have := own_set st.own (i := i) hg (.int .i64 x)
  have he : ((rList S r).map (Value.int .i64)).set i (.int .i64 x) = (rList S (fun j => if j = i then x else r j)).map (Value.int .i64) := by
    apply List.ext_getElem
    · simp [rList]
    · intro j h1 h2
      rw [List.getElem_set]
      simp only [rList, List.getElem_map, List.getElem_range]
      by_cases e : i = j
      · subst e; simp
      · rw [if_neg e, if_neg (fun e2 => e e2.symm)]
  rw [← he]; exact this

/-- The rests that a tick leaves. -/
def leftF (S : List Srv) (x : Nat) (j : Nat) : Int := if (sysOf S).occ x = some j then (sysOf S).st x j - 1 else (sysOf S).st x j

theorem rel_left (S : List Srv) (x : Nat) : rList S (relF S (leftF S x) (x + 1)) = stList S (x + 1) := by
  unfold rList stList
  refine List.map_congr_left fun j _ => ?_
  rw [Sys.st_succ, relF, leftF]
  rfl

theorem rel_st (S : List Srv) (x : Nat) : rList S (relF S ((sysOf S).st x) x) = stList S x := by
  unfold rList stList
  refine List.map_congr_left fun j _ => ?_
  unfold relF
  split
  · rename_i hr
    cases x with
    | zero =>
      have h0 : (sysOf S).st 0 j = if (sysOf S).rel j ((0 : Nat) : Int) then (sysOf S).B j else 0 := rfl
      rw [h0, if_pos hr]
    | succ x => rw [Sys.st_succ, if_pos (by simpa using hr)]
  · rfl
end Bulk

namespace Go.Proofs.YtlmnojbghgnniaaDoor.On
open Go.RowKit Bulk Ch

set_option maxHeartbeats 8000000 in
set_option maxRecDepth 100000 in
theorem rule_any (S : List Srv) (v : Value) (F K : Int) (w : World) (hv : SrvAt w v S) (hl0 : S.length ≤ 9223372036854775807) (hg : Ch.Hnd w) (hK : -9223372036854775808 ≤ K) :
    Calls Tryd.prog 3 #[v, .int .i64 F, .int .i64 K] w fun e w' => e = .returned (.bool true) ∧ Only noB w w' := by
  by_cases hk : 400 < K
  · have d1 : decide ((400 : Int) < K) = true := by simpa using hk
    have HK := hid (known_any w hg)
    clear hk hv hg
    go_enter Tryd.func3, Tryd.ntmps3
    go_wp2_with fail
    refine HK.out.mono ?_
    rintro e w3 ⟨rfl, ho3⟩
    have HO3 := hid ho3
    clear ho3 HK
    go_wp2_with fail
    go_ret
    exact ⟨rfl, HO3.out⟩
  · have d1 : decide ((400 : Int) < K) = false := by simpa using hk
    have HKb := hid (show K ≤ 400 by omega)
    have HA := hid (able_any S v w hv hl0 hg)
    have HV := hid hv
    have HG := hid hg
    obtain ⟨pv, cv, hvv, _⟩ := hv
    clear hg hk
    subst hvv
    obtain ⟨v, hvd⟩ : ∃ y : Value, y = .slice pv S.length cv := ⟨_, rfl⟩
    rw [← hvd] at HA HV
    have HVd := hid hvd
    clear hvd
    go_enter Tryd.func3, Tryd.ntmps3
    go_wp2_with fail
    rw [← HVd.out]
    refine HA.out.mono ?_
    rintro e w1 ⟨ho1, hcase⟩
    have HO1 := hid ho1
    have HK := hid (known_any w1 (HG.out.kept ho1 id))
    clear ho1 HA
    rcases hcase with ⟨hne, rfl⟩ | ⟨h', db, hh, rfl, hD⟩
    · clear hne
      go_wp2_with fail
      refine HK.out.mono ?_
      rintro e w3 ⟨rfl, ho3⟩
      have HO3 := hid ho3
      clear ho3 HK
      go_wp2_with fail
      go_ret
      exact ⟨rfl, HO1.out.trans HO3.out (fun _ _ h => h)⟩
    · obtain ⟨ok, hl, hH1, hH2, okk⟩ := sys_ok hh
      have HH := hid hh
      have HD := hid hD
      clear hh hD
      go_wp2_with fail
      refine HK.out.mono ?_
      rintro e w3 ⟨rfl, ho3⟩
      have HO3 := hid (HO1.out.trans ho3 (fun _ _ h => h))
      have HD3 := hid (HD.out.kept ho3 (fun _ _ _ e => e))
      clear ho3 HK
      by_cases hF1 : F < 0
      · have HB := hid (dis_bad HD3.out (.inl (show F < ((0 : Nat) : Int) by omega)))
        have d2 : decide (F < 0) = true := by simpa using hF1
        clear hF1
        go_wp2_with fail
        refine HB.out.mono ?_
        rintro e w4 ⟨rfl, rfl⟩
        go_wp2_with fail
        go_ret
        exact ⟨rfl, HO3.out⟩
      · by_cases hF2 : 1099511627776 ≤ F
        · have HB := hid (dis_bad HD3.out (.inr hF2))
          have d2 : decide (F < 0) = false := by simpa using hF1
          have d3 : decide (1099511627776 ≤ F) = true := by simpa using hF2
          clear hF1 hF2
          go_wp2_with fail
          refine HB.out.mono ?_
          rintro e w4 ⟨rfl, rfl⟩
          go_wp2_with fail
          go_ret
          exact ⟨rfl, HO3.out⟩
        · obtain ⟨n, rfl⟩ : ∃ n : Nat, F = n := ⟨F.toNat, by omega⟩
          have hn : n < 1099511627776 := by omega
          have HB := hid (dis_adv (tt := n) HD3.out (by omega) hn HH.out)
          clear hF1 hF2
          go_wp2_with fail
          refine HB.out.mono ?_
          rintro e w4 ⟨rfl, ho4, hD4⟩
          have HO4 := hid (HO3.out.trans ho4 (fun x hx e => by have := fr_new e; omega))
          have HD4 := hid (hD4.mono (G' := fun b => w.heap.size ≤ b) (fun b _ e => by
            have := HO3.out.size
            rcases e with e | e
            · exact (fr_new e).1
            · have := e.1; omega))
          have HRs := hid (dis_rests hD4 hl)
          clear ho4 hD4 HB
          go_wp2_with fail
          refine HRs.out.mono ?_
          rintro e w5 ⟨v5, rfl, ho5, hw5⟩
          have hs4 := HO4.out.size
          have HS := hid (show RuleSt S h' w w5 db n v5 ((sysOf S).st n) from
            ⟨HO4.out.trans ho5 (fun _ _ h => h), ((HD4.out.mono (G' := fun b => w.heap.size ≤ b ∧ b < w4.heap.size) fun b hb e => ⟨e, hb⟩).kept ho5 (fun _ _ _ e => e)).mono (fun b _ e => ⟨e.1, fun e2 => by have := (hw5.lt b e2).1; omega⟩), ⟨hw5.1, by
              rcases hw5.2 with h1 | ⟨g, c, cu, h1, h2, h3⟩
              · exact .inl h1
              · exact .inr ⟨g, c, cu, h1, by omega, h3⟩⟩⟩)
          obtain ⟨p5, c5, rfl⟩ : ∃ p5 c5, v5 = .slice p5 S.length c5 := by
            rcases hw5.2 with ⟨h1, h2⟩ | ⟨g, c, cu, h1, _⟩
            · exact ⟨none, 0, by rw [h1, h2]⟩
            · exact ⟨_, c, h1⟩
          clear ho5 hw5 HRs hs4
          rw [HVd.out]
          go_wp2_with fail
          rw [← HVd.out]
          have e1 : IntKind.i64.wrap ((n : Int) + K) = n + K := by have := HKb.out; exact IntWalk.i64_in _ (by omega)
          go_loopg [10, 11, 12, 13] K.toNat (fun g v10 v11 v12 v13 wr => ∃ (i x : Nat) (r : Nat → Int) (u l : Int), g = K.toNat - i ∧ v11 = .int .i64 u ∧ v12 = .int .i64 l ∧ v13 = .int .i64 ((n + i : Nat) : Int) ∧ n + i ≤ 1099511627776 ∧
            Hid (RuleSt S h' w wr db x v10 r ∧ ((i = 0 ∧ x = n ∧ r = (sysOf S).st n ∧ u = 0) ∨ (0 < i ∧ x + 1 = n + i ∧ r = leftF S x ∧ u = untilOf S x ((sysOf S).st x) (x + 1) ∧ l = optI ((sysOf S).occ x)))))
          case atStart => exact ⟨0, n, _, 0, -2, rfl, rfl, rfl, rfl, by omega, hid ⟨HS.out, .inl ⟨rfl, rfl, rfl, rfl⟩⟩⟩
          case round =>
            obtain ⟨i, x, r, u, l, rfl, rfl, rfl, rfl, hle, HR⟩ := hrel
            clear HS
            obtain ⟨t, ht⟩ : ∃ t : Nat, t = n + i := ⟨_, rfl⟩
            rw [← ht] at hle ⊢
            have HT := hid ht
            by_cases hc1 : (t : Int) < n + K
            · have d2 : decide ((t : Int) < n + K) = true := by simpa using hc1
              by_cases hc2 : t < 1099511627776
              · have d3 : decide ((t : Int) < 1099511627776) = true := by simp; omega
                have ht2 := hc2
                have hiK : i < K.toNat := by omega
                have hxt : x ≤ t := by
                  rcases HR.out.2 with ⟨_, h1, _⟩ | ⟨_, h1, _⟩ <;> omega
                have HAd := hid (dis_adv (tt := t) HR.out.1.d hxt hc2 HH.out)
                clear ht hc1 hc2
                go_wp2_with fail
                refine HAd.out.mono ?_
                rintro e w6 ⟨rfl, ho6, hD6⟩
                have HS6 := hid (HR.out.1.adv ho6 hD6)
                have HNow := hid (dis_now HS6.out.d)
                have d4 : ((t : Int) != (t : Int)) = false := by simp
                clear ho6 hD6 HAd
                go_wp2_with fail
                refine HNow.out.mono ?_
                rintro e w' ⟨rfl, rfl⟩
                clear HNow d4
                have hRel0 := fun (r' : Nat → Int) (hr' : RuleSt S h' w w' db t u10 r') => released_any S r' t v u10 w' (SrvAt.kept HV.out hr'.only) (intsAt_own (rList_len S _) hr'.own) ok hl ht2
                have HRel := hid hRel0
                clear hRel0
                rcases HR.out.2 with ⟨hi0, hx0, hr0, hu0⟩ | ⟨hi0, hx0, hr0, hu0, hl0⟩
                · subst hi0; subst hx0; subst hr0; subst hu0
                  obtain rfl : t = x := by have := HT.out; omega
                  have HRl := hid (HRel.out _ HS6.out)
                  have d5 : decide (t < t) = false := by simp
                  clear HRel
                  go_wp2_with fail
                  refine HRl.out.mono ?_
                  rintro e w7 ⟨v7, rfl, ho7, hw7⟩
                  have HS7 := hid (HS6.out.step ho7)
                  have HSm := hid (sameInts_any _ _ v7 u10 w7 (intsAt_own (rList_len S _) hw7) (intsAt_own (rList_len S _) HS7.out.own) (by rw [rList_len]; omega) (by rw [rList_len]; omega))
                  rw [show decide (rList S (relF S ((sysOf S).st t) t) = rList S ((sysOf S).st t)) = true by rw [rel_st]; simp [stList, rList]] at HSm
                  clear ho7 hw7 HRl
                  go_wp2_with fail
                  refine HSm.out.mono ?_
                  rintro e w8 ⟨rfl, q8, rfl⟩
                  have HS := hid (HS7.out.step ((Only.refl noB _).drewN q8))
                  generalize w7.drewN q8 = wz at *
                  clear HSm HS7
                  have HFi := hid (first_any S ((sysOf S).st t) v u10 wz (SrvAt.kept HV.out HS.out.only) (intsAt_own (rList_len S _) HS.out.own) hl)
                  rw [show (sysOf S).pick ((sysOf S).st t) S.length = (sysOf S).occ t from rfl] at HFi
                  have HOc0 := hid (show ∀ j, (sysOf S).occ t = some j → j < S.length from fun j hj => (Sys.pick_some hj).1)
                  have hob : -1 ≤ optI ((sysOf S).occ t) ∧ optI ((sysOf S).occ t) ≤ 32 := by
                    cases e : (sysOf S).occ t with
                    | none => simp [optI]
                    | some j => have := HOc0.out j e; simp [optI]; omega
                  obtain ⟨o, ho⟩ : ∃ o : Int, o = optI ((sysOf S).occ t) := ⟨_, rfl⟩
                  rw [← ho] at hob HFi
                  have HO := hid ho
                  have dU : decide ((t : Int) < 0) = false := by simp
                  clear ho
                  go_wp2_with fail
                  refine HFi.out.mono ?_
                  rintro e wa ⟨rfl, qa, rfl⟩
                  have HSa := hid (HS.out.step ((Only.refl noB _).drewN qa))
                  have HRs := hid (dis_rests HSa.out.d hl)
                  clear HFi HS
                  go_wp2_with fail
                  refine HRs.out.mono ?_
                  rintro e wb ⟨vb, rfl, hob1, hwb⟩
                  have HSb := hid (HSa.out.step hob1)
                  have HSm := hid (sameInts_any (stList S t) (stList S t) vb u10 wb (intsAt_own (stList_len S t) hwb) (intsAt_own (rList_len S _) HSb.out.own) (by rw [stList_len]; omega) (by rw [stList_len]; omega))
                  rw [show decide (stList S t = stList S t) = true by simp] at HSm
                  clear hob1 hwb HRs HSa
                  go_wp2_with fail
                  refine HSm.out.mono ?_
                  rintro e wc ⟨rfl, qc, rfl⟩
                  have HSc := hid (HSb.out.step ((Only.refl noB _).drewN qc))
                  generalize wb.drewN qc = wc at *
                  have HOcc := hid (dis_occ HSc.out.d HH.out)
                  rw [← HO.out] at HOcc
                  have e7 : IntKind.i64.wrap (o + 1) = o + 1 := IntWalk.i64_in _ (by omega)
                  have d7 : (o + 1 != o + 1) = false := by simp
                  clear HSm HSb
                  go_wp2_with fail
                  refine HOcc.out.mono ?_
                  rintro e w' ⟨rfl, rfl⟩
                  clear HOcc
                  obtain ⟨hu1, hu2⟩ := until_gt ok t ht2
                  have HUn := hid (fun q => dis_until ((HSc.out.step ((Only.refl noB _).drewN q)).d) ht2 HH.out)
                  obtain ⟨un, hun⟩ : ∃ un : Int, un = untilOf S t ((sysOf S).st t) (t + 1) := ⟨_, rfl⟩
                  rw [← hun] at hu1 hu2 HUn
                  have HUe := hid hun
                  have d8 : decide (un ≤ (t : Int)) = false := by simp; omega
                  have d9 : decide ((1099511627776 : Int) < un) = false := by simp; omega
                  have HU0 := hid (show ∀ (q : Nat), ∃ W, W = w'.drewN q from fun q => ⟨_, rfl⟩)
                  clear hun hu1 hu2
                  have HU1 := hid (HUn.out 0)
                  go_wp2_with fail
                  refine HU1.out.mono ?_
                  rintro e w1 ⟨rfl, q1, rfl⟩
                  go_wp2_with fail
                  refine (HUn.out q1).mono ?_
                  rintro e w1 ⟨rfl, q2, rfl⟩
                  go_wp2_with fail
                  refine (HUn.out (q1 + q2)).mono ?_
                  rintro e w1 ⟨rfl, q3, rfl⟩
                  have HSd := hid (HSc.out.step ((Only.refl noB _).drewN (q1 + q2 + q3)))
                  clear HUn HU1 HU0 e7 d7 d8 d9
                  cases hoc : (sysOf S).occ t with
                  | none =>
                    have ho1 : o = -1 := by rw [HO.out, hoc]; rfl
                    have d10 : decide ((0 : Int) ≤ o) = false := by rw [ho1]; decide
                    have HL := hid (show rList S (leftF S t) = rList S ((sysOf S).st t) from by
                      unfold rList; exact List.map_congr_left fun j _ => by unfold leftF; rw [hoc]; simp)
                    clear ho1 hoc
                    go_wp2_with fail
                    go_roundg (K.toNat - (0 + 1))
                    case measure => omega
                    case rel => exact ⟨0 + 1, t, leftF S t, un, o, by omega, rfl, rfl, by rw [HT.out]; go_num, by have := HT.out; omega, hid ⟨⟨HSd.out.only, HSd.out.d, by rw [HL.out]; exact HSd.out.own⟩, .inr ⟨by omega, by have := HT.out; omega, rfl, HUe.out, HO.out⟩⟩⟩
                  | some j =>
                    have ho1 : o = (j : Int) := by rw [HO.out, hoc]; rfl
                    have hj := HOc0.out j hoc
                    have hjn : (j : Int) < (S.length : Int) := by omega
                    have d10 : decide ((0 : Int) ≤ (j : Int)) = true := by simp
                    have HOj := hid (show optI ((sysOf S).occ t) = (j : Int) by rw [hoc]; rfl)
                    subst ho1
                    obtain ⟨g, cg, cur, rfl, hcu⟩ : ∃ g cg cur, u10 = .slice (some ⟨g, 0, none⟩) S.length cg ∧ (w'.drewN (q1 + q2 + q3)).heap[g]? = some (.cells cur 3 (0, 0)) := by
                      rcases HSd.out.own.2 with ⟨_, h2⟩ | ⟨g, c, cu, h1, _, h3, _⟩
                      · omega
                      · exact ⟨g, c, cu, h1, h3⟩
                    have hcell := HSd.out.own.cells (g := g) rfl j (.int .i64 ((sysOf S).st t j)) (by simp [rList, hj])
                    rw [Addr.add_lit, Nat.zero_add] at hcell
                    have hfz : (w'.drewN (q1 + q2 + q3)).frozen? ⟨g, j, none⟩ = false := by
                      have hcu' : w'.heap[g]? = some (.cells cur 3 (0, 0)) := hcu
                      simp [World.frozen?, hcu']
                    obtain ⟨z0, z1⟩ := st_bd ok okk t j hj
                    have e11 : IntKind.i64.wrap ((sysOf S).st t j - 1) = (sysOf S).st t j - 1 := IntWalk.i64_in _ (by omega)
                    have hset := HSd.out.set (i := j) (g := g) rfl ((sysOf S).st t j - 1)
                    have hle : rList S (fun k => if k = j then (sysOf S).st t j - 1 else (sysOf S).st t k) = rList S (leftF S t) := by
                      unfold rList
                      exact List.map_congr_left fun k _ => by
                        unfold leftF
                        rw [hoc]
                        by_cases e : k = j
                        · subst e; simp
                        · rw [if_neg e, if_neg (fun e2 => e (Option.some.inj e2).symm)]
                    have HSet := hid (And.intro hset hle)
                    generalize (sysOf S).st t j = zz at *
                    rw [show (w'.drewN (q1 + q2)).drewN q3 = w'.drewN (q1 + q2 + q3) from World.drewN_drewN _ _ _]
                    generalize w'.drewN (q1 + q2 + q3) = we at *
                    clear hset hle hoc hcu z0 z1 hj
                    go_wp2_with fail
                    go_roundg (K.toNat - (0 + 1))
                    case measure => omega
                    case rel => exact ⟨0 + 1, t, leftF S t, un, j, by omega, rfl, rfl, by rw [HT.out]; go_num, by have := HT.out; omega, hid ⟨⟨HSet.out.1.only, HSet.out.1.d, by rw [← HSet.out.2]; exact HSet.out.1.own⟩, .inr ⟨by omega, by have := HT.out; omega, rfl, HUe.out, HOj.out.symm⟩⟩⟩
                · have hnt : n < t := by have := HT.out; omega
                  have htx : t = x + 1 := by have := HT.out; omega
                  subst hr0
                  have HRl := hid (HRel.out _ HS6.out)
                  have d5 : decide (n < t) = true := by simpa using hnt
                  have HU := hid (And.intro hu0 (And.intro hl0 htx))
                  clear HRel hnt htx hu0 hl0 hx0
                  go_wp2_with fail
                  refine HRl.out.mono ?_
                  rintro e wz ⟨v7, rfl, ho7, hw7⟩
                  have hls := rel_left S x
                  rw [← HU.out.2.2] at hls
                  have hw8 : wz.ownsRow w'.heap.size 3 1 v7 S.length ((rList S ((sysOf S).st t)).map (Value.int .i64)) := by
                    rw [hls] at hw7; exact hw7
                  have HS := hid (HS6.out.list ho7 hw8)
                  clear ho7 hw7 hw8 hls HRl
                  by_cases htu : (t : Int) < u
                  · have HLo := hid (show l = optI ((sysOf S).occ t) by
                      rw [HU.out.2.1]
                      have hux := HU.out.1
                      obtain ⟨m, hm⟩ : ∃ m : Nat, u = m := ⟨u.toNat, by omega⟩
                      have hj := (jump_law ok okk x m (by have := HU.out.2.2; omega) (by rw [← hm, hux]; exact Int.le_refl _)).2.1 1 (by have := HU.out.2.2; omega)
                      rw [HU.out.2.2, hj])
                    have HFi := hid (first_any S ((sysOf S).st t) v v7 wz (SrvAt.kept HV.out HS.out.only) (intsAt_own (rList_len S _) HS.out.own) hl)
                    rw [show (sysOf S).pick ((sysOf S).st t) S.length = (sysOf S).occ t from rfl] at HFi
                    have HOc0 := hid (show ∀ j, (sysOf S).occ t = some j → j < S.length from fun j hj => (Sys.pick_some hj).1)
                    have hob : -1 ≤ optI ((sysOf S).occ t) ∧ optI ((sysOf S).occ t) ≤ 32 := by
                      cases e : (sysOf S).occ t with
                      | none => simp [optI]
                      | some j => have := HOc0.out j e; simp [optI]; omega
                    obtain ⟨o, ho⟩ : ∃ o : Int, o = optI ((sysOf S).occ t) := ⟨_, rfl⟩
                    rw [← ho] at hob HFi
                    have HO := hid ho
                    have dU : decide ((t : Int) < u) = true := by simpa using htu
                    have dL : o = l := by rw [HLo.out, ho]
                    subst dL
                    have dN : (o != o) = false := by simp
                    clear htu
                    clear ho
                    go_wp2_with fail
                    refine HFi.out.mono ?_
                    rintro e wa ⟨rfl, qa, rfl⟩
                    have HSa := hid (HS.out.step ((Only.refl noB _).drewN qa))
                    have HRs := hid (dis_rests HSa.out.d hl)
                    clear HFi HS
                    go_wp2_with fail
                    refine HRs.out.mono ?_
                    rintro e wb ⟨vb, rfl, hob1, hwb⟩
                    have HSb := hid (HSa.out.step hob1)
                    have HSm := hid (sameInts_any (stList S t) (stList S t) vb v7 wb (intsAt_own (stList_len S t) hwb) (intsAt_own (rList_len S _) HSb.out.own) (by rw [stList_len]; omega) (by rw [stList_len]; omega))
                    rw [show decide (stList S t = stList S t) = true by simp] at HSm
                    clear hob1 hwb HRs HSa
                    go_wp2_with fail
                    refine HSm.out.mono ?_
                    rintro e wc ⟨rfl, qc, rfl⟩
                    have HSc := hid (HSb.out.step ((Only.refl noB _).drewN qc))
                    generalize wb.drewN qc = wc at *
                    have HOcc := hid (dis_occ HSc.out.d HH.out)
                    rw [← HO.out] at HOcc
                    have e7 : IntKind.i64.wrap (o + 1) = o + 1 := IntWalk.i64_in _ (by omega)
                    have d7 : (o + 1 != o + 1) = false := by simp
                    clear HSm HSb
                    go_wp2_with fail
                    refine HOcc.out.mono ?_
                    rintro e w' ⟨rfl, rfl⟩
                    clear HOcc
                    obtain ⟨hu1, hu2⟩ := until_gt ok t ht2
                    have HUn := hid (fun q => dis_until ((HSc.out.step ((Only.refl noB _).drewN q)).d) ht2 HH.out)
                    obtain ⟨un, hun⟩ : ∃ un : Int, un = untilOf S t ((sysOf S).st t) (t + 1) := ⟨_, rfl⟩
                    rw [← hun] at hu1 hu2 HUn
                    have HUe := hid hun
                    have d8 : decide (un ≤ (t : Int)) = false := by simp; omega
                    have d9 : decide ((1099511627776 : Int) < un) = false := by simp; omega
                    have HU0 := hid (show ∀ (q : Nat), ∃ W, W = w'.drewN q from fun q => ⟨_, rfl⟩)
                    clear hun hu1 hu2
                    have HU1 := hid (HUn.out 0)
                    go_wp2_with fail
                    refine HU1.out.mono ?_
                    rintro e w1 ⟨rfl, q1, rfl⟩
                    go_wp2_with fail
                    refine (HUn.out q1).mono ?_
                    rintro e w1 ⟨rfl, q2, rfl⟩
                    go_wp2_with fail
                    refine (HUn.out (q1 + q2)).mono ?_
                    rintro e w1 ⟨rfl, q3, rfl⟩
                    have HSd := hid (HSc.out.step ((Only.refl noB _).drewN (q1 + q2 + q3)))
                    clear HUn HU1 HU0 e7 d7 d8 d9
                    cases hoc : (sysOf S).occ t with
                    | none =>
                      have ho1 : o = -1 := by rw [HO.out, hoc]; rfl
                      have d10 : decide ((0 : Int) ≤ o) = false := by rw [ho1]; decide
                      have HL := hid (show rList S (leftF S t) = rList S ((sysOf S).st t) from by
                        unfold rList; exact List.map_congr_left fun j _ => by unfold leftF; rw [hoc]; simp)
                      clear ho1 hoc
                      go_wp2_with fail
                      go_roundg (K.toNat - (i + 1))
                      case measure => omega
                      case rel => exact ⟨i + 1, t, leftF S t, un, o, by omega, rfl, rfl, by rw [HT.out]; go_num, by have := HT.out; omega, hid ⟨⟨HSd.out.only, HSd.out.d, by rw [HL.out]; exact HSd.out.own⟩, .inr ⟨by omega, by have := HT.out; omega, rfl, HUe.out, HO.out⟩⟩⟩
                    | some j =>
                      have ho1 : o = (j : Int) := by rw [HO.out, hoc]; rfl
                      have hj := HOc0.out j hoc
                      have hjn : (j : Int) < (S.length : Int) := by omega
                      have d10 : decide ((0 : Int) ≤ (j : Int)) = true := by simp
                      have HOj := hid (show optI ((sysOf S).occ t) = (j : Int) by rw [hoc]; rfl)
                      subst ho1
                      obtain ⟨g, cg, cur, rfl, hcu⟩ : ∃ g cg cur, v7 = .slice (some ⟨g, 0, none⟩) S.length cg ∧ (w'.drewN (q1 + q2 + q3)).heap[g]? = some (.cells cur 3 (0, 0)) := by
                        rcases HSd.out.own.2 with ⟨_, h2⟩ | ⟨g, c, cu, h1, _, h3, _⟩
                        · omega
                        · exact ⟨g, c, cu, h1, h3⟩
                      have hcell := HSd.out.own.cells (g := g) rfl j (.int .i64 ((sysOf S).st t j)) (by simp [rList, hj])
                      rw [Addr.add_lit, Nat.zero_add] at hcell
                      have hfz : (w'.drewN (q1 + q2 + q3)).frozen? ⟨g, j, none⟩ = false := by
                        have hcu' : w'.heap[g]? = some (.cells cur 3 (0, 0)) := hcu
                        simp [World.frozen?, hcu']
                      obtain ⟨z0, z1⟩ := st_bd ok okk t j hj
                      have e11 : IntKind.i64.wrap ((sysOf S).st t j - 1) = (sysOf S).st t j - 1 := IntWalk.i64_in _ (by omega)
                      have hset := HSd.out.set (i := j) (g := g) rfl ((sysOf S).st t j - 1)
                      have hle : rList S (fun k => if k = j then (sysOf S).st t j - 1 else (sysOf S).st t k) = rList S (leftF S t) := by
                        unfold rList
                        exact List.map_congr_left fun k _ => by
                          unfold leftF
                          rw [hoc]
                          by_cases e : k = j
                          · subst e; simp
                          · rw [if_neg e, if_neg (fun e2 => e (Option.some.inj e2).symm)]
                      have HSet := hid (And.intro hset hle)
                      generalize (sysOf S).st t j = zz at *
                      rw [show (w'.drewN (q1 + q2)).drewN q3 = w'.drewN (q1 + q2 + q3) from World.drewN_drewN _ _ _]
                      generalize w'.drewN (q1 + q2 + q3) = we at *
                      clear hset hle hoc hcu z0 z1 hj
                      go_wp2_with fail
                      go_roundg (K.toNat - (i + 1))
                      case measure => omega
                      case rel => exact ⟨i + 1, t, leftF S t, un, j, by omega, rfl, rfl, by rw [HT.out]; go_num, by have := HT.out; omega, hid ⟨⟨HSet.out.1.only, HSet.out.1.d, by rw [← HSet.out.2]; exact HSet.out.1.own⟩, .inr ⟨by omega, by have := HT.out; omega, rfl, HUe.out, HOj.out.symm⟩⟩⟩
                  · have dU : decide ((t : Int) < u) = false := by simpa using htu
                    clear htu
                    have HFi := hid (first_any S ((sysOf S).st t) v v7 wz (SrvAt.kept HV.out HS.out.only) (intsAt_own (rList_len S _) HS.out.own) hl)
                    rw [show (sysOf S).pick ((sysOf S).st t) S.length = (sysOf S).occ t from rfl] at HFi
                    have HOc0 := hid (show ∀ j, (sysOf S).occ t = some j → j < S.length from fun j hj => (Sys.pick_some hj).1)
                    have hob : -1 ≤ optI ((sysOf S).occ t) ∧ optI ((sysOf S).occ t) ≤ 32 := by
                      cases e : (sysOf S).occ t with
                      | none => simp [optI]
                      | some j => have := HOc0.out j e; simp [optI]; omega
                    obtain ⟨o, ho⟩ : ∃ o : Int, o = optI ((sysOf S).occ t) := ⟨_, rfl⟩
                    rw [← ho] at hob HFi
                    have HO := hid ho
                    skip
                    clear ho
                    go_wp2_with fail
                    refine HFi.out.mono ?_
                    rintro e wa ⟨rfl, qa, rfl⟩
                    have HSa := hid (HS.out.step ((Only.refl noB _).drewN qa))
                    have HRs := hid (dis_rests HSa.out.d hl)
                    clear HFi HS
                    go_wp2_with fail
                    refine HRs.out.mono ?_
                    rintro e wb ⟨vb, rfl, hob1, hwb⟩
                    have HSb := hid (HSa.out.step hob1)
                    have HSm := hid (sameInts_any (stList S t) (stList S t) vb v7 wb (intsAt_own (stList_len S t) hwb) (intsAt_own (rList_len S _) HSb.out.own) (by rw [stList_len]; omega) (by rw [stList_len]; omega))
                    rw [show decide (stList S t = stList S t) = true by simp] at HSm
                    clear hob1 hwb HRs HSa
                    go_wp2_with fail
                    refine HSm.out.mono ?_
                    rintro e wc ⟨rfl, qc, rfl⟩
                    have HSc := hid (HSb.out.step ((Only.refl noB _).drewN qc))
                    generalize wb.drewN qc = wc at *
                    have HOcc := hid (dis_occ HSc.out.d HH.out)
                    rw [← HO.out] at HOcc
                    have e7 : IntKind.i64.wrap (o + 1) = o + 1 := IntWalk.i64_in _ (by omega)
                    have d7 : (o + 1 != o + 1) = false := by simp
                    clear HSm HSb
                    go_wp2_with fail
                    refine HOcc.out.mono ?_
                    rintro e w' ⟨rfl, rfl⟩
                    clear HOcc
                    obtain ⟨hu1, hu2⟩ := until_gt ok t ht2
                    have HUn := hid (fun q => dis_until ((HSc.out.step ((Only.refl noB _).drewN q)).d) ht2 HH.out)
                    obtain ⟨un, hun⟩ : ∃ un : Int, un = untilOf S t ((sysOf S).st t) (t + 1) := ⟨_, rfl⟩
                    rw [← hun] at hu1 hu2 HUn
                    have HUe := hid hun
                    have d8 : decide (un ≤ (t : Int)) = false := by simp; omega
                    have d9 : decide ((1099511627776 : Int) < un) = false := by simp; omega
                    have HU0 := hid (show ∀ (q : Nat), ∃ W, W = w'.drewN q from fun q => ⟨_, rfl⟩)
                    clear hun hu1 hu2
                    have HU1 := hid (HUn.out 0)
                    go_wp2_with fail
                    refine HU1.out.mono ?_
                    rintro e w1 ⟨rfl, q1, rfl⟩
                    go_wp2_with fail
                    refine (HUn.out q1).mono ?_
                    rintro e w1 ⟨rfl, q2, rfl⟩
                    go_wp2_with fail
                    refine (HUn.out (q1 + q2)).mono ?_
                    rintro e w1 ⟨rfl, q3, rfl⟩
                    have HSd := hid (HSc.out.step ((Only.refl noB _).drewN (q1 + q2 + q3)))
                    clear HUn HU1 HU0 e7 d7 d8 d9
                    cases hoc : (sysOf S).occ t with
                    | none =>
                      have ho1 : o = -1 := by rw [HO.out, hoc]; rfl
                      have d10 : decide ((0 : Int) ≤ o) = false := by rw [ho1]; decide
                      have HL := hid (show rList S (leftF S t) = rList S ((sysOf S).st t) from by
                        unfold rList; exact List.map_congr_left fun j _ => by unfold leftF; rw [hoc]; simp)
                      clear ho1 hoc
                      go_wp2_with fail
                      go_roundg (K.toNat - (i + 1))
                      case measure => omega
                      case rel => exact ⟨i + 1, t, leftF S t, un, o, by omega, rfl, rfl, by rw [HT.out]; go_num, by have := HT.out; omega, hid ⟨⟨HSd.out.only, HSd.out.d, by rw [HL.out]; exact HSd.out.own⟩, .inr ⟨by omega, by have := HT.out; omega, rfl, HUe.out, HO.out⟩⟩⟩
                    | some j =>
                      have ho1 : o = (j : Int) := by rw [HO.out, hoc]; rfl
                      have hj := HOc0.out j hoc
                      have hjn : (j : Int) < (S.length : Int) := by omega
                      have d10 : decide ((0 : Int) ≤ (j : Int)) = true := by simp
                      have HOj := hid (show optI ((sysOf S).occ t) = (j : Int) by rw [hoc]; rfl)
                      subst ho1
                      obtain ⟨g, cg, cur, rfl, hcu⟩ : ∃ g cg cur, v7 = .slice (some ⟨g, 0, none⟩) S.length cg ∧ (w'.drewN (q1 + q2 + q3)).heap[g]? = some (.cells cur 3 (0, 0)) := by
                        rcases HSd.out.own.2 with ⟨_, h2⟩ | ⟨g, c, cu, h1, _, h3, _⟩
                        · omega
                        · exact ⟨g, c, cu, h1, h3⟩
                      have hcell := HSd.out.own.cells (g := g) rfl j (.int .i64 ((sysOf S).st t j)) (by simp [rList, hj])
                      rw [Addr.add_lit, Nat.zero_add] at hcell
                      have hfz : (w'.drewN (q1 + q2 + q3)).frozen? ⟨g, j, none⟩ = false := by
                        have hcu' : w'.heap[g]? = some (.cells cur 3 (0, 0)) := hcu
                        simp [World.frozen?, hcu']
                      obtain ⟨z0, z1⟩ := st_bd ok okk t j hj
                      have e11 : IntKind.i64.wrap ((sysOf S).st t j - 1) = (sysOf S).st t j - 1 := IntWalk.i64_in _ (by omega)
                      have hset := HSd.out.set (i := j) (g := g) rfl ((sysOf S).st t j - 1)
                      have hle : rList S (fun k => if k = j then (sysOf S).st t j - 1 else (sysOf S).st t k) = rList S (leftF S t) := by
                        unfold rList
                        exact List.map_congr_left fun k _ => by
                          unfold leftF
                          rw [hoc]
                          by_cases e : k = j
                          · subst e; simp
                          · rw [if_neg e, if_neg (fun e2 => e (Option.some.inj e2).symm)]
                      have HSet := hid (And.intro hset hle)
                      generalize (sysOf S).st t j = zz at *
                      rw [show (w'.drewN (q1 + q2)).drewN q3 = w'.drewN (q1 + q2 + q3) from World.drewN_drewN _ _ _]
                      generalize w'.drewN (q1 + q2 + q3) = we at *
                      clear hset hle hoc hcu z0 z1 hj
                      go_wp2_with fail
                      go_roundg (K.toNat - (i + 1))
                      case measure => omega
                      case rel => exact ⟨i + 1, t, leftF S t, un, j, by omega, rfl, rfl, by rw [HT.out]; go_num, by have := HT.out; omega, hid ⟨⟨HSet.out.1.only, HSet.out.1.d, by rw [← HSet.out.2]; exact HSet.out.1.own⟩, .inr ⟨by omega, by have := HT.out; omega, rfl, HUe.out, HOj.out.symm⟩⟩⟩
              · have d3 : decide ((t : Int) < 1099511627776) = false := by simp; omega
                clear ht hc1 hc2
                go_wp2_with fail
                go_ret
                exact ⟨rfl, HR.out.1.only⟩
            · have d2 : decide ((t : Int) < n + K) = false := by simpa using hc1
              clear ht hc1
              go_wp2_with fail
              go_ret
              exact ⟨rfl, HR.out.1.only⟩
end Go.Proofs.YtlmnojbghgnniaaDoor.On
