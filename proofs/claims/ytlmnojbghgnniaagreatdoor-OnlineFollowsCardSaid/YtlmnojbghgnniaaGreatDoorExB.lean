/- OnlineExact's told. -/
import Derived.Test.YtlmnojbghgnniaaGreatDoorExA
namespace Bulk
open Go Go.RowKit

/-- A dispatcher's box: the four cells of the document's value. -/
def Box4 (w : World) (b : Nat) (v0 v1 v2 v3 : Value) : Prop := w.cell? ⟨b, 0, none⟩ = some v0 ∧ w.cell? ⟨b, 1, none⟩ = some v1 ∧ w.cell? ⟨b, 2, none⟩ = some v2 ∧ w.cell? ⟨b, 3, none⟩ = some v3

theorem Box4.kept {w w' : World} {b : Nat} {v0 v1 v2 v3 : Value} {E : Nat → Prop} (h : Box4 w b v0 v1 v2 v3) (ho : Only E w w') (hE : ¬ E b) : Box4 w' b v0 v1 v2 v3 :=
  ⟨ho.cell h.1 hE, ho.cell h.2.1 hE, ho.cell h.2.2.1 hE, ho.cell h.2.2.2 hE⟩
end Bulk

namespace Go.Proofs.YtlmnojbghgnniaaGreatDoor.Ref
open Go.RowKit Bulk Ch On

theorem intsAt_keptE {w w' : World} {v : Value} {base n : Nat} {xs : List Int} {e : TypeId} {E : Nat → Prop} (hn : xs.length = n) (h : w.ownsRow base e 1 v n (xs.map (Value.int .i64))) (ho : Only E w w') (hE : ∀ b, base ≤ b → b < w.heap.size → ¬ E b) : IntsAt w' v xs :=
  intsAt_own hn (own_of_blocks (w' := w') h fun b hb => ho.block b (h.lt b hb).2 (hE b (h.lt b hb).1 (h.lt b hb).2))

set_option maxHeartbeats 4000000 in
set_option maxRecDepth 100000 in
theorem told_any (S : List Srv) (H now : Nat) (x : Value) (w : World) (db : Nat) (G : Nat → Prop) (hd : Dis S H w db now G) (hx : DocAt w x S H now) (hh : hyperOf S = (H, 0)) (hn : now < 1099511627776) :
    Calls Tryz.prog 7 #[.pointer (some ⟨db, 0, none⟩), x] w fun e w' => e = .returned (.bool true) ∧ Only noB w w' := by
  obtain ⟨ok, hl, hH1, hH2, okk⟩ := sys_ok hh
  have HB := hid (fun t i hi => st_bd ok okk t i hi)
  have HX := hid hx
  have HD := hid hd
  have HH := hid hh
  obtain ⟨vs, vl, rfl, h1, h2⟩ := hx
  obtain ⟨pv, cv, rfl, _⟩ := h1.sat
  obtain ⟨pl, cl, rfl, _⟩ := h2.iat
  rw [rList_len] at HX ⊢
  obtain ⟨w1, hw1⟩ : ∃ y : World, y = w.alloc (.cells #[.slice pv S.length cv, .int .i64 H, .int .i64 now, .slice pl S.length cl] 28) := ⟨_, rfl⟩
  have ho : Only noB w w1 := by rw [hw1]; exact (Only.refl _ _).alloc _
  have hbx : Box4 w1 w.heap.size (.slice pv S.length cv) (.int .i64 H) (.int .i64 now) (.slice pl S.length cl) := by rw [hw1]; refine ⟨?_, ?_, ?_, ?_⟩ <;> simp
  have hsz : w1.heap.size = w.heap.size + 1 := by rw [hw1]; simp
  have HW1 := hid hw1
  have HO1 := hid ho
  have HBx := hid hbx
  have HSz := hid hsz
  clear h1 h2 hd hw1 ho hbx hsz hh
  go_enter Tryz.func7, Tryz.ntmps7
  go_wp2_with fail
  rw [← HW1.out]
  refine (dis_rests (HD.out.kept HO1.out fun _ _ _ e => e) hl).mono ?_
  rintro e w2 ⟨va, rfl, ho2, ha⟩
  have HO2 := hid ho2
  have HA := hid ha
  clear ho2 ha
  go_wp2_with fail
  refine (dis_rests (HD.out.kept (HO1.out.trans HO2.out fun _ _ h => h) fun _ _ _ e => e) hl).mono ?_
  rintro e w3 ⟨vk, rfl, ho3, hk⟩
  have HO3 := hid ho3
  have HK0 := hid hk
  obtain ⟨c0, c1, c2, c3⟩ := HBx.out.kept (HO2.out.trans HO3.out fun _ _ h => h) id
  clear ho3 hk
  go_wp2_with fail
  clear c0 c1 c2 c3
  refine (rests_ref S H now _ w3 (HX.out.kept ((HO1.out.trans HO2.out fun _ _ h => h).trans HO3.out fun _ _ h => h)) hl).mono ?_
  rintro e w4 ⟨vw, rfl, hr⟩
  have HR := hid hr
  have HO4 := hid (show Only noB w w4 from ((HO1.out.trans HO2.out fun _ _ h => h).trans HO3.out fun _ _ h => h).trans hr.only fun _ _ h => h)
  have HB4 := hid (HBx.out.kept ((HO2.out.trans HO3.out fun _ _ h => h).trans hr.only fun _ _ h => h) (E := noB) id)
  have HA4 := hid (own_of_blocks (w' := w4) HA.out fun b hb => (HO3.out.trans hr.only fun _ _ h => h).block b (HA.out.lt b hb).2 id)
  have HK4 := hid (own_of_blocks (w' := w4) HK0.out fun b hb => hr.only.block b (HK0.out.lt b hb).2 id)
  have HD4 := hid (HD.out.kept HO4.out fun _ _ _ e => e)
  have HX4 := hid (HX.out.kept HO4.out)
  have HSm := hid (show ∀ W v n base, w4.ownsRow base 3 1 v n ((rList S ((sysOf S).st now)).map (Value.int .i64)) → n = S.length → Only noB w4 W → Calls Tryz.prog 19 #[v, vw] W fun e w' => e = .returned (.bool true) ∧ (w'.cell? ⟨w.heap.size, 0, none⟩ = some (.slice pv S.length cv) ∧ w'.cell? ⟨w.heap.size, 1, none⟩ = some (.int .i64 H) ∧ w'.cell? ⟨w.heap.size, 2, none⟩ = some (.int .i64 now) ∧ w'.cell? ⟨w.heap.size, 3, none⟩ = some (.slice pl S.length cl)) ∧ Hid (Only noB w4 w') from fun W v n base hv hn hW => by
    refine (sameInts_any (rList S ((sysOf S).st now)) (rList S ((sysOf S).st now)) v vw W (IntsAt.kept (intsAt_own (by rw [rList_len, hn]) hv) hW) (IntsAt.kept HR.out.iat hW) (by rw [rList_len]; omega) (by rw [rList_len]; omega)).mono ?_
    rintro e w' ⟨rfl, q, rfl⟩
    exact ⟨by simp, HB4.out.kept (hW.drewN q) id, hid (hW.drewN q)⟩)
  have HNow := hid (show ∀ W, Only noB w4 W → Calls Tryz.prog 20 #[.pointer (some ⟨db, 0, none⟩)] W fun e w' => e = .returned (.int .i64 now) ∧ (w'.cell? ⟨w.heap.size, 0, none⟩ = some (.slice pv S.length cv) ∧ w'.cell? ⟨w.heap.size, 1, none⟩ = some (.int .i64 H) ∧ w'.cell? ⟨w.heap.size, 2, none⟩ = some (.int .i64 now) ∧ w'.cell? ⟨w.heap.size, 3, none⟩ = some (.slice pl S.length cl)) ∧ Hid (Only noB w4 w') from fun W hW => by
    refine (dis_now (HD4.out.kept hW fun _ _ _ e => e)).mono ?_
    rintro e w' ⟨rfl, rfl⟩
    exact ⟨rfl, HB4.out.kept hW id, hid hW⟩)
  have HOc := hid (show ∀ W, Only noB w4 W → Calls Tryz.prog 21 #[.pointer (some ⟨db, 0, none⟩)] W fun e w' => e = .returned (.int .i64 (optI ((sysOf S).occ now) + 1)) ∧ (w'.cell? ⟨w.heap.size, 0, none⟩ = some (.slice pv S.length cv) ∧ w'.cell? ⟨w.heap.size, 1, none⟩ = some (.int .i64 H) ∧ w'.cell? ⟨w.heap.size, 2, none⟩ = some (.int .i64 now) ∧ w'.cell? ⟨w.heap.size, 3, none⟩ = some (.slice pl S.length cl)) ∧ Hid (Only noB w4 w') from fun W hW => by
    refine (dis_occ (HD4.out.kept hW fun _ _ _ e => e) HH.out).mono ?_
    rintro e w' ⟨rfl, rfl⟩
    exact ⟨rfl, HB4.out.kept hW id, hid hW⟩)
  have HOr := hid (show ∀ W, Only noB w4 W → Calls Tryz.prog 22 #[.agg #[.slice pv S.length cv, .int .i64 H, .int .i64 now, .slice pl S.length cl]] W fun e w' => e = .returned (.int .i64 (optI ((sysOf S).occ now) + 1)) ∧ (w'.cell? ⟨w.heap.size, 0, none⟩ = some (.slice pv S.length cv) ∧ w'.cell? ⟨w.heap.size, 1, none⟩ = some (.int .i64 H) ∧ w'.cell? ⟨w.heap.size, 2, none⟩ = some (.int .i64 now) ∧ w'.cell? ⟨w.heap.size, 3, none⟩ = some (.slice pl S.length cl)) ∧ Hid (Only noB w4 w') from fun W hW => by
    refine (occ_ref S H now _ W (HX4.out.kept hW) hl).mono ?_
    rintro e w' ⟨rfl, ho⟩
    have hk := hW.trans ho fun _ _ h => h
    exact ⟨rfl, HB4.out.kept hk id, hid hk⟩)
  have HUn := hid (show ∀ W, Only noB w4 W → Calls Tryz.prog 11 #[.pointer (some ⟨db, 0, none⟩)] W fun e w' => e = .returned (.int .i64 (untilOf S now ((sysOf S).st now) (now + 1))) ∧ (w'.cell? ⟨w.heap.size, 0, none⟩ = some (.slice pv S.length cv) ∧ w'.cell? ⟨w.heap.size, 1, none⟩ = some (.int .i64 H) ∧ w'.cell? ⟨w.heap.size, 2, none⟩ = some (.int .i64 now) ∧ w'.cell? ⟨w.heap.size, 3, none⟩ = some (.slice pl S.length cl)) ∧ Hid (Only noB w4 w') from fun W hW => by
    refine (dis_until (HD4.out.kept hW fun _ _ _ e => e) hn HH.out).mono ?_
    rintro e w' ⟨rfl, q, rfl⟩
    exact ⟨rfl, HB4.out.kept (hW.drewN q) id, hid (hW.drewN q)⟩)
  have HUr := hid (show ∀ W, Only noB w4 W → Calls Tryz.prog 23 #[.agg #[.slice pv S.length cv, .int .i64 H, .int .i64 now, .slice pl S.length cl]] W fun e w' => e = .returned (.int .i64 (untilOf S now ((sysOf S).st now) (now + 1))) ∧ (w'.cell? ⟨w.heap.size, 0, none⟩ = some (.slice pv S.length cv) ∧ w'.cell? ⟨w.heap.size, 1, none⟩ = some (.int .i64 H) ∧ w'.cell? ⟨w.heap.size, 2, none⟩ = some (.int .i64 now) ∧ w'.cell? ⟨w.heap.size, 3, none⟩ = some (.slice pl S.length cl)) ∧ Hid (Only noB w4 w') from fun W hW => by
    refine (until_ref S H now _ W (HX4.out.kept hW) hl ok hn HB.out).mono ?_
    rintro e w' ⟨rfl, ho⟩
    have hk := hW.trans ho fun _ _ h => h
    exact ⟨rfl, HB4.out.kept hk id, hid hk⟩)
  obtain ⟨c0, c1, c2, c3⟩ := HB4.out
  clear hr
  generalize optI ((sysOf S).occ now) + 1 = oc at *
  generalize untilOf S now ((sysOf S).st now) (now + 1) = un at *
  have d1 : ((now : Int) == now) = true := by simp
  have d2 : (oc == oc) = true := by simp
  have d3 : (un == un) = true := by simp
  go_wp2_with fail
  go_region_held3 (fun w' => w'.cell? ⟨w.heap.size, 0, none⟩ = some (.slice pv S.length cv) ∧ w'.cell? ⟨w.heap.size, 1, none⟩ = some (.int .i64 H) ∧ w'.cell? ⟨w.heap.size, 2, none⟩ = some (.int .i64 now) ∧ w'.cell? ⟨w.heap.size, 3, none⟩ = some (.slice pl S.length cl)) (go_keep)
    (first | (go_at_call 19; refine (HSm.out _ _ _ _ (by first | exact HA4.out | exact HK4.out) rfl (by first | exact HK.out | exact (Only.refl _ _).drew | exact Only.refl _ _)).mono ?_; rintro e w' ⟨rfl, k1, HK⟩) | (go_at_call 20; refine (HNow.out _ HK.out).mono ?_; rintro e w' ⟨rfl, k1, HK⟩) | (go_at_call 21; refine (HOc.out _ HK.out).mono ?_; rintro e w' ⟨rfl, k1, HK⟩) | (go_at_call 22; refine (HOr.out _ HK.out).mono ?_; rintro e w' ⟨rfl, k1, HK⟩) | (go_at_call 11; refine (HUn.out _ HK.out).mono ?_; rintro e w' ⟨rfl, k1, HK⟩) | (go_at_call 23; refine (HUr.out _ HK.out).mono ?_; rintro e w' ⟨rfl, k1, HK⟩))
  rename_i hHeld
  clear hHeld k1 c0 c1 c2 c3 HSm HNow HOc HOr HUn HUr d1 d2 d3
  have HSp := hid (show ∀ W, Only noB w4 W → Calls Tryz.prog 24 #[va] W fun e w' => e = .returned (.int .i64 ((S.length : Int) + 64)) ∧ (w'.cell? ⟨w.heap.size, 0, none⟩ = some (.slice pv S.length cv) ∧ w'.cell? ⟨w.heap.size, 1, none⟩ = some (.int .i64 H) ∧ w'.cell? ⟨w.heap.size, 2, none⟩ = some (.int .i64 now) ∧ w'.cell? ⟨w.heap.size, 3, none⟩ = some (.slice pl S.length cl)) ∧ Hid (Only (fun b => va.ownBlock = some b) w4 w') from fun W hW => by
    have hs := hW.size
    have hz := HO2.out.size
    have hz3 := HO3.out.size
    have hz4 := HR.out.only.size
    refine (spoilt_at w1.heap.size S.length va _ W (own_of_blocks (w' := W) HA4.out fun b hb => hW.block b (HA4.out.lt b hb).2 id) (by omega) (by omega)).mono ?_
    rintro e w' ⟨rfl, ho⟩
    have hk : Only (fun b => va.ownBlock = some b) w4 w' := (hW.mono fun b _ h => absurd h id).trans ho fun _ _ h => h
    refine ⟨by rw [show ((S.length + 64 : Nat) : Int) = (S.length : Int) + 64 by omega], HB4.out.kept hk fun e => ?_, hid hk⟩
    have := (HA.out.lt _ e).1
    have := HSz.out
    omega)
  have HSm3 := hid (show ∀ W, Only (fun b => va.ownBlock = some b) w4 W → Calls Tryz.prog 19 #[vk, vw] W fun e w' => e = .returned (.bool true) ∧ (w'.cell? ⟨w.heap.size, 0, none⟩ = some (.slice pv S.length cv) ∧ w'.cell? ⟨w.heap.size, 1, none⟩ = some (.int .i64 H) ∧ w'.cell? ⟨w.heap.size, 2, none⟩ = some (.int .i64 now) ∧ w'.cell? ⟨w.heap.size, 3, none⟩ = some (.slice pl S.length cl)) ∧ Hid (Only (fun b => va.ownBlock = some b) w4 w') from fun W hW => by
    have hlt : ∀ b, va.ownBlock = some b → b < w2.heap.size := fun b hb => (HA.out.lt b hb).2
    have hz3 := HO3.out.size
    refine (sameInts_any (rList S ((sysOf S).st now)) (rList S ((sysOf S).st now)) vk vw W (intsAt_keptE (rList_len S _) HK4.out hW fun b h1 _ e => ?_) (intsAt_keptE (rList_len S _) HR.out.own hW fun b h1 _ e => ?_) (by rw [rList_len]; omega) (by rw [rList_len]; omega)).mono ?_
    · have := hlt b e; omega
    · have := hlt b e; omega
    rintro e w' ⟨rfl, q, rfl⟩
    refine ⟨by simp, HB4.out.kept (hW.drewN q) fun e => ?_, hid (hW.drewN q)⟩
    have := (HA.out.lt _ e).1
    have := HSz.out
    omega)
  obtain ⟨c0, c1, c2, c3⟩ := HB4.out.kept HK.out (E := noB) id
  have d4 : ((S.length : Int) + 64 == (S.length : Int) + 64) = true := by simp
  have e4 : IntKind.i64.wrap ((S.length : Int) + 64) = (S.length : Int) + 64 := IntWalk.i64_in _ (by omega)
  have hlI : (S.length : Int) ≤ 32 := by omega
  go_wp2_with fail
  go_region_held3 (fun w' => w'.cell? ⟨w.heap.size, 0, none⟩ = some (.slice pv S.length cv) ∧ w'.cell? ⟨w.heap.size, 1, none⟩ = some (.int .i64 H) ∧ w'.cell? ⟨w.heap.size, 2, none⟩ = some (.int .i64 now) ∧ w'.cell? ⟨w.heap.size, 3, none⟩ = some (.slice pl S.length cl)) (go_keep)
    (first | (go_at_call 24; refine (HSp.out _ (by first | exact HK.out | exact HK.out.drew)).mono ?_; rintro e w' ⟨rfl, k1, HL⟩) | (go_at_call 19; refine (HSm3.out _ HL.out).mono ?_; rintro e w' ⟨rfl, k1, HL⟩))
  rename_i hHeld
  clear hHeld k1
  go_wp2_with fail
  go_ret
  refine ⟨rfl, HO4.out.trans HL.out fun b hb e => ?_⟩
  have := (HA.out.lt _ e).1
  have := HSz.out
  omega
end Go.Proofs.YtlmnojbghgnniaaGreatDoor.Ref
