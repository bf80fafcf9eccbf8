/- The dispatcher: Advance. -/
import Derived.Test.YtlmnojbghgnniaaGreatDoorWalk
import Derived.Deep.QuietTactic
import Derived.BigQuiet
namespace Bulk
open Go Go.RowKit

/-- A dispatcher that stands at tick 'now'. -/
def Led (S : List Srv) (H : Nat) (w : World) (db now : Nat) (ps : Option Addr) (cs : Nat) (po : Option Addr) (co : Nat) (ord : List Nat) (rb : Nat) (K F : Nat → Prop) : Prop :=
  ∃ wb n R T, DW S H w db now ps cs po co ord rb (fun i => (sysOf S).st now i) wb K F n R T ∧ n ≤ now ∧ Tm S T (now + 1)

theorem WalkSt.led {S : List Srv} {H : Nat} {w wr : World} {db now to : Nat} {ps : Option Addr} {cs : Nat} {po : Option Addr} {co : Nat} {ord : List Nat} {rb wb : Nat} {K FW : Nat → Prop} {x : Nat} (h : WalkSt S H w wr db now to ps cs po co ord rb wb K FW x) :
    Led S H wr db x ps cs po co ord rb K (Fr FW w wr) := by
  obtain ⟨n, R, T, h1, h2, h3⟩ := h.st
  exact ⟨wb, n, R, T, h1, h2, h3⟩

theorem Led.mono {S : List Srv} {H : Nat} {w : World} {db now : Nat} {ps : Option Addr} {cs : Nat} {po : Option Addr} {co : Nat} {ord : List Nat} {rb : Nat} {K F G : Nat → Prop} (h : Led S H w db now ps cs po co ord rb K F)
    (hFG : ∀ b, b < w.heap.size → F b → G b) (hG : ∀ b, G b → ¬ K b ∧ b ≠ db ∧ b ≠ rb) : Led S H w db now ps cs po co ord rb K G := by
  obtain ⟨wb, n, R, T, h1, h2, h3⟩ := h
  exact ⟨wb, n, R, T, ⟨h1.dp, h1.at_.mono hFG, h1.inv, hG⟩, h2, h3⟩

/-- What Advance leaves. -/
structure LedSt (S : List Srv) (H : Nat) (w w' : World) (db to : Nat) (ps : Option Addr) (cs : Nat) (po : Option Addr) (co : Nat) (ord : List Nat) (rb : Nat) (K F : Nat → Prop) : Prop where
  only : Only (fun b => F b ∨ b = rb ∨ b = db) w w'
  led : Led S H w' db to ps cs po co ord rb K (Fr F w w')

theorem Led.dj {S : List Srv} {H : Nat} {w : World} {db now : Nat} {ps : Option Addr} {cs : Nat} {po : Option Addr} {co : Nat} {ord : List Nat} {rb : Nat} {K F : Nat → Prop} (h : Led S H w db now ps cs po co ord rb K F) :
    (∀ b, F b → ¬ K b ∧ b ≠ db ∧ b ≠ rb) ∧ (∀ b, K b → b < w.heap.size) ∧ rb < w.heap.size ∧ db < w.heap.size := by
  obtain ⟨wb, n, R, T, h1, h2, h3⟩ := h
  exact ⟨h1.dj, h1.dp.kl, h1.dp.rl, World.block_lt_of_cell? w _ h1.dp.c0⟩

theorem Led.dj' {S : List Srv} {H : Nat} {w w' : World} {db now : Nat} {ps : Option Addr} {cs : Nat} {po : Option Addr} {co : Nat} {ord : List Nat} {rb : Nat} {K F : Nat → Prop} (h : Led S H w db now ps cs po co ord rb K F) :
    ∀ b, Fr F w w' b → ¬ K b ∧ b ≠ db ∧ b ≠ rb := by
  obtain ⟨h1, h2, h3, h4⟩ := h.dj
  intro b hb
  rcases hb with hb | hb
  · exact h1 b hb
  · exact ⟨fun hk => by have := h2 b hk; omega, by omega, by omega⟩

theorem LedSt.trans {S : List Srv} {H : Nat} {w w1 w2 : World} {db now t1 t2 : Nat} {ps : Option Addr} {cs : Nat} {po : Option Addr} {co : Nat} {ord : List Nat} {rb : Nat} {K F : Nat → Prop}
    (h0 : Led S H w db now ps cs po co ord rb K F) (h1 : LedSt S H w w1 db t1 ps cs po co ord rb K F) (h2 : LedSt S H w1 w2 db t2 ps cs po co ord rb K (Fr F w w1)) : LedSt S H w w2 db t2 ps cs po co ord rb K F := by
  have hs1 := h1.only.size
  have hs2 := h2.only.size
  refine ⟨h1.only.trans h2.only fun x hx e => ?_, h2.led.mono (fun b hb hf => ?_) h0.dj'⟩
  · rcases e with e | e
    · rcases e with e | e
      · exact .inl e
      · omega
    · exact .inr e
  · rcases hf with hf | hf
    · rcases hf with hf | hf
      · exact .inl hf
      · exact .inr ⟨hf.1, hb⟩
    · exact .inr ⟨by have := hf.1; omega, hb⟩

theorem WalkSt.ledSt {S : List Srv} {H : Nat} {w wr : World} {db now to : Nat} {ps : Option Addr} {cs : Nat} {po : Option Addr} {co : Nat} {ord : List Nat} {rb wb : Nat} {K FW : Nat → Prop} {x : Nat} (h : WalkSt S H w wr db now to ps cs po co ord rb wb K FW x) :
    LedSt S H w wr db x ps cs po co ord rb K FW := ⟨h.only, h.led⟩

theorem Led.drewN {S : List Srv} {H : Nat} {w : World} {db now : Nat} {ps : Option Addr} {cs : Nat} {po : Option Addr} {co : Nat} {ord : List Nat} {rb : Nat} {K F : Nat → Prop} (h : Led S H w db now ps cs po co ord rb K F) (q : Nat) : Led S H (w.drewN q) db now ps cs po co ord rb K F := by
  obtain ⟨wb, n, R, T, h1, h2, h3⟩ := h
  exact ⟨wb, n, R, T, ⟨h1.dp.drewN q, h1.at_.below ((Below.refl _ _).drewN q), h1.inv, h1.dj⟩, h2, h3⟩
end Bulk

namespace Go.Proofs.YtlmnojbghgnniaaGreatDoor.On
open Go.RowKit Bulk

theorem walk_led (S : List Srv) (H : Nat) (w : World) (db now to : Nat) (ps : Option Addr) (cs : Nat) (po : Option Addr) (co : Nat) (ord : List Nat) (rb : Nat) (K F : Nat → Prop)
    (h : Led S H w db now ps cs po co ord rb K F) (hto : now ≤ to) (hto2 : to < 1099511627776) (ok : okL S) (hl : S.length ≤ 32) {k : Int} (okk : (sysOf S).Ok k) :
    Calls Tryz.prog 25 #[.pointer (some ⟨db, 0, none⟩), .int .i64 to] w fun e w' => e = .returned (.tuple #[]) ∧ LedSt S H w w' db to ps cs po co ord rb K F := by
  obtain ⟨wb, n, R, T, h1, h2, h3⟩ := h
  exact (walk_any S H w db now to ps cs po co ord rb wb n K F R T h1 h3 h2 hto hto2 ok hl okk).mono fun e w' ⟨he, hw⟩ => ⟨he, hw.ledSt⟩

set_option maxHeartbeats 4000000 in
set_option maxRecDepth 100000 in
/-- Refused: behind, or beyond the last tick. -/
theorem adv_bad (S : List Srv) (H : Nat) (w : World) (db now : Nat) (to : Int) (ps : Option Addr) (cs : Nat) (po : Option Addr) (co : Nat) (ord : List Nat) (rb : Nat) (K F : Nat → Prop)
    (h : Led S H w db now ps cs po co ord rb K F) (hto : to < now ∨ 1099511627776 ≤ to) :
    Calls Tryz.prog 9 #[.pointer (some ⟨db, 0, none⟩), .int .i64 to] w fun e w' => e = .returned (.int .i64 2) ∧ w' = w := by
  obtain ⟨wb, n, R, T, h1, h2, h3⟩ := h
  have c3 := h1.dp.c3
  clear h1 h2 h3
  by_cases h4 : to < now
  · have d1 : decide (to < (now : Int)) = true := by simpa using h4
    clear h4 hto
    go_enter Tryz.func9, Tryz.ntmps9
    go_wp2_with fail
    go_ret
    exact ⟨rfl, rfl⟩
  · have d1 : decide (to < (now : Int)) = false := by simpa using h4
    have d2 : decide (1099511627776 ≤ to) = true := by simp; omega
    clear h4 hto
    go_enter Tryz.func9, Tryz.ntmps9
    go_wp2_with fail
    go_ret
    exact ⟨rfl, rfl⟩

set_option maxHeartbeats 4000000 in
set_option maxRecDepth 100000 in
theorem adv_led (S : List Srv) (H : Nat) (w : World) (db now to : Nat) (ps : Option Addr) (cs : Nat) (po : Option Addr) (co : Nat) (ord : List Nat) (rb : Nat) (K F : Nat → Prop)
    (h : Led S H w db now ps cs po co ord rb K F) (hto : now ≤ to) (hto2 : to < 1099511627776) (hh : hyperOf S = (H, 0)) :
    Calls Tryz.prog 9 #[.pointer (some ⟨db, 0, none⟩), .int .i64 to] w fun e w' => e = .returned (.int .i64 0) ∧ LedSt S H w w' db to ps cs po co ord rb K F := by
  obtain ⟨ok, hl, hH1, hH2, okk⟩ := sys_ok hh
  have HLed := hid h
  obtain ⟨wb0, n0, R0, T0, h1, h2, h3⟩ := h
  have c3 := h1.dp.c3
  have c2 := h1.dp.c2
  have d1 : decide (to < now) = false := by simp; omega
  have d2 : decide ((1099511627776 : Int) ≤ to) = false := by simp; omega
  have e1 : IntKind.i64.wrap ((2 : Int) * H) = ((2 * H : Nat) : Int) := by rw [IntWalk.i64_in _ (by omega)]; omega
  have e2 : max (now : Int) ((2 * H : Nat) : Int) = ((max now (2 * H) : Nat) : Int) := by omega
  have e3 : min (to : Int) ((max now (2 * H) : Nat) : Int) = ((min to (max now (2 * H)) : Nat) : Int) := by omega
  obtain ⟨t1, ht1⟩ : ∃ t1 : Nat, t1 = min to (max now (2 * H)) := ⟨_, rfl⟩
  rw [← ht1] at e3
  have HT1 := hid (show now ≤ t1 ∧ t1 ≤ to ∧ (t1 < to → 2 * H ≤ t1) by omega)
  generalize max now (2 * H) = mx at *
  generalize hh2 : 2 * H = h2' at *
  have HH2 := hid hh2
  clear hh2
  have HB := hid (And.intro hto hto2)
  have HWk := hid (fun q => walk_led S H (w.drewN q) db now t1 ps cs po co ord rb K F (HLed.out.drewN q) HT1.out.1 (by have := HT1.out; omega) ok hl okk)
  clear h1 h2 h3 ht1 hto
  go_enter Tryz.func9, Tryz.ntmps9
  go_wp2_with fail
  go_still_tail 13, (by kernel_rfl)
  go_wp2_with fail
  refine (HWk.out 1).mono ?_
  rintro e w1 ⟨rfl, hS1⟩
  have HS1 := hid (show LedSt S H w w1 db t1 ps cs po co ord rb K F from ⟨⟨hS1.only.os, hS1.only.tape, hS1.only.output, hS1.only.size, hS1.only.block⟩, hS1.led⟩)
  obtain ⟨wb1, n1, R1, T1, k1, k2, k3⟩ := hS1.led
  clear c3 c2 d1 d2 e1 e2 e3 HWk hS1
  have c3 := k1.dp.c3
  have c2 := k1.dp.c2
  clear k1 k2 k3
  obtain ⟨wh, hwh⟩ : ∃ wh : Nat, wh = (to - t1) / H * H := ⟨_, rfl⟩
  have hwh2 : wh ≤ to - t1 := by rw [hwh]; exact Nat.div_mul_le_self _ _
  have hdl : (to - t1) / H ≤ to - t1 := Nat.div_le_self _ _
  have e4 : IntKind.i64.wrap ((to : Int) - t1) = ((to - t1 : Nat) : Int) := by have := HT1.out; rw [IntWalk.i64_in _ (by omega)]; omega
  have e5 : Int.tdiv ((to - t1 : Nat) : Int) (H : Int) = (((to - t1) / H : Nat) : Int) := (Int.ofNat_tdiv _ _).symm
  have e6 : IntKind.i64.wrap ((((to - t1) / H : Nat) : Int) * (H : Int)) = (wh : Int) := by rw [← Int.natCast_mul, ← hwh]; exact IntWalk.i64_in _ (by omega)
  have e7 : IntKind.i64.wrap ((to : Int) - wh) = ((to - wh : Nat) : Int) := by rw [IntWalk.i64_in _ (by omega)]; omega
  have e8 : ¬ (H : Int) = 0 := by omega
  have HWh := hid (And.intro hwh hwh2)
  have hdb : ((((to - t1) / H : Nat) : Int)) ≤ 1099511627776 := by have h1 : to - t1 ≤ to := Nat.sub_le _ _; have h2 := hto2; omega
  have HDf := hid (show ∃ c, wh = c * H from ⟨_, hwh⟩)
  have HDg := hid (show wh + t1 ≤ to by have := HT1.out; omega)
  generalize hdv : (to - t1) / H = dv at *
  generalize hdf : to - t1 = df at *
  clear hwh hwh2 hdv hdf
  obtain ⟨t2, ht2⟩ : ∃ t2 : Nat, t2 = to - wh := ⟨_, rfl⟩
  rw [← ht2] at e7
  have HT2 := hid (show t1 ≤ t2 ∧ t2 ≤ to ∧ t2 = to - wh by have := HDg.out; have := HT1.out; omega)
  have HWk := hid (fun q => walk_led S H (w1.drewN q) db t1 t2 ps cs po co ord rb K _ (HS1.out.led.drewN q) HT2.out.1 (by have := HT2.out; omega) ok hl okk)
  clear ht2
  go_wp2_with fail
  go_quiet (fail)
  go_wp2_with fail
  refine (HWk.out _).mono ?_
  rintro e w2 ⟨rfl, hS2⟩
  have HS2 := hid (HLed.out |> fun h0 => LedSt.trans h0 HS1.out (show LedSt S H w1 w2 db t2 ps cs po co ord rb K (Fr F w w1) from ⟨⟨hS2.only.os, hS2.only.tape, hS2.only.output, hS2.only.size, hS2.only.block⟩, hS2.led⟩))
  clear c3 c2 e4 e5 e6 e7 HWk hS2
  by_cases hw0 : wh = 0
  · have d3 : decide (0 < wh) = false := by simp; omega
    have HEq := hid (show t2 = to by have := HT2.out; omega)
    clear hw0
    go_wp2_with fail
    go_ret
    have := HEq.out
    subst this
    exact ⟨rfl, HS2.out⟩
  · have d3 : decide (0 < wh) = true := by simp; omega
    obtain ⟨wb2, n2, R2, T2, k1, k2, k3⟩ := HS2.out.led
    have hst : ∀ i, i < S.length → (sysOf S).st t2 i = (sysOf S).st to i := fun i hi => by
      obtain ⟨c, hc⟩ := HDf.out
      have h1 := HT1.out
      have h2 := HT2.out
      have h3 := HH2.out
      have h4 := HDg.out
      have := Sys.st_again_mul okk (h := H) rfl hi (t := t2) (by omega) c
      rw [← this, ← hc]
      congr 1; omega
    have kd := k1.dp.congr hst
    have c3 := kd.c3
    have kf := kd.fz 3
    have e9 : IntKind.i64.wrap ((to : Int) + 1) = (to : Int) + 1 := IntWalk.i64_in _ (by omega)
    have HKd := hid kd
    clear hw0 k1 k2 k3 hst kd
    go_wp2_with fail
    obtain ⟨w3, hw3⟩ : ∃ y : World, y = w2.setCell ⟨db, 3, none⟩ (.int .i64 to) := ⟨_, rfl⟩
    rw [← hw3]
    have ho3 : Only (fun b => b = db) w2 w3 := by rw [hw3]; exact Only.setCell0 w2 ⟨db, 3, none⟩ _
    have hd3 := HKd.out.setNow to
    rw [← hw3] at hd3
    have hA := darm_any S H w3 db to (to + 1) ps cs po co ord rb _ _ K hd3 ok hl (by omega) (by omega)
    rw [show ((to + 1 : Nat) : Int) = (to : Int) + 1 by omega] at hA
    have HA := hid hA
    have HO3 := hid ho3
    clear hA hd3 ho3 hw3 c3 kf e9
    refine HA.out.mono ?_
    rintro e w4 ⟨rfl, ho4, wb4, R4, T4, hdw4, hT4⟩
    have HF := hid (And.intro ho4 (And.intro hdw4 hT4))
    clear ho4 hdw4 hT4 HA
    go_wp2_with fail
    go_ret
    obtain ⟨ho4, hdw4, hT4⟩ := HF.out
    have hs2 := HS2.out.only.size
    have hs3 := HO3.out.size
    have hs4 := ho4.size
    refine ⟨rfl, ⟨(HS2.out.only.trans HO3.out fun x _ e => .inr (.inr e)).trans ho4 fun x _ e => .inr (.inr e), wb4, to, R4, T4, ⟨hdw4.dp, hdw4.at_.mono fun b hb hf => ?_, hdw4.inv, HLed.out.dj'⟩, Nat.le_refl _, hT4⟩⟩
    have := (hf.resolve_left id).1
    exact .inr ⟨by omega, hb⟩
end Go.Proofs.YtlmnojbghgnniaaGreatDoor.On
