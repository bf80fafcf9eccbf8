/- The dispatcher from outside. -/
import Derived.Test.YtlmnojbghgnniaaGreatDoorNew
namespace Bulk
open Go Go.RowKit

/-- A dispatcher of S that stands at tick 'now', its blocks among those of G. -/
def Dis (S : List Srv) (H : Nat) (w : World) (db now : Nat) (G : Nat → Prop) : Prop :=
  ∃ ps cs po co ord rb K F, Led S H w db now ps cs po co ord rb K F ∧ G db ∧ G rb ∧ (∀ b, K b → G b) ∧ (∀ b, F b → G b)

theorem Led.kept {S : List Srv} {H : Nat} {w w' : World} {db now : Nat} {ps : Option Addr} {cs : Nat} {po : Option Addr} {co : Nat} {ord : List Nat} {rb : Nat} {K F E : Nat → Prop} (h : Led S H w db now ps cs po co ord rb K F)
    (ho : Only E w w') (hK : ∀ b, K b → ¬ E b) (hF : ∀ b, F b → ¬ E b) (hd : ¬ E db) (hr : ¬ E rb) : Led S H w' db now ps cs po co ord rb K F := by
  obtain ⟨wb, n, R, T, h1, h2, h3⟩ := h
  exact ⟨wb, n, R, T, ⟨h1.dp.kept ho (fun b hb => ⟨fun hk => hK b hk hb, fun e => hd (e ▸ hb), fun e => hr (e ▸ hb)⟩), h1.at_.kept ho hF, h1.inv, h1.dj⟩, h2, h3⟩

theorem Dis.kept {S : List Srv} {H : Nat} {w w' : World} {db now : Nat} {G E : Nat → Prop} (h : Dis S H w db now G) (ho : Only E w w') (hG : ∀ b, b < w.heap.size → G b → ¬ E b) : Dis S H w' db now G := by
  obtain ⟨ps, cs, po, co, ord, rb, K, F, h1, h2, h3, h4, h5⟩ := h
  obtain ⟨d1, d2, d3, d4⟩ := h1.dj
  have h1' := h1.mono (G := fun b => F b ∧ b < w.heap.size) (fun b hb hf => ⟨hf, hb⟩) (fun b hb => d1 b hb.1)
  exact ⟨ps, cs, po, co, ord, rb, K, _, h1'.kept ho (fun b hb => hG b (d2 b hb) (h4 b hb)) (fun b hb => hG b hb.2 (h5 b hb.1)) (hG db d4 h2) (hG rb d3 h3), h2, h3, h4, fun b hb => h5 b hb.1⟩

theorem Dis.mono {S : List Srv} {H : Nat} {w : World} {db now : Nat} {G G' : Nat → Prop} (h : Dis S H w db now G) (hG : ∀ b, b < w.heap.size → G b → G' b) : Dis S H w db now G' := by
  obtain ⟨ps, cs, po, co, ord, rb, K, F, h1, h2, h3, h4, h5⟩ := h
  obtain ⟨d1, d2, d3, d4⟩ := h1.dj
  have h1' := h1.mono (G := fun b => F b ∧ b < w.heap.size) (fun b hb hf => ⟨hf, hb⟩) (fun b hb => d1 b hb.1)
  exact ⟨ps, cs, po, co, ord, rb, K, _, h1', hG db d4 h2, hG rb d3 h3, fun b hb => hG b (d2 b hb) (h4 b hb), fun b hb => hG b hb.2 (h5 b hb.1)⟩

/-- The rests at a tick, as a list. -/
def stList (S : List Srv) (t : Nat) : List Int := (List.range S.length).map fun i => (sysOf S).st t i

theorem stList_len (S : List Srv) (t : Nat) : (stList S t).length = S.length := by simp [stList]
theorem stList_at (S : List Srv) (t i : Nat) (hi : i < S.length) : (stList S t)[i]'(by rw [stList_len]; exact hi) = (sysOf S).st t i := by simp [stList]
end Bulk

namespace Go.Proofs.YtlmnojbghgnniaaGreatDoor.On
open Go.RowKit Bulk

theorem dis_adv {S : List Srv} {H : Nat} {w : World} {db now tt : Nat} {G : Nat → Prop} (h : Dis S H w db now G) (hto : now ≤ tt) (hto2 : tt < 1099511627776) (hh : hyperOf S = (H, 0)) :
    Calls Tryz.prog 9 #[.pointer (some ⟨db, 0, none⟩), .int .i64 tt] w fun e w' => e = .returned (.int .i64 0) ∧ Only G w w' ∧ Dis S H w' db tt (Fr G w w') := by
  obtain ⟨ps, cs, po, co, ord, rb, K, F, h1, h2, h3, h4, h5⟩ := h
  have hdj := h1.dj
  refine (adv_led S H w db now tt ps cs po co ord rb K F h1 hto hto2 hh).mono ?_
  rintro e w' ⟨he, hs⟩
  refine ⟨he, hs.only.mono fun b _ hb => ?_, ps, cs, po, co, ord, rb, K, _, hs.led, .inl h2, .inl h3, fun b hb => .inl (h4 b hb), fun b hb => ?_⟩
  · rcases hb with hb | rfl | rfl
    · exact h5 b hb
    · exact h3
    · exact h2
  · rcases hb with hb | hb
    · exact .inl (h5 b hb)
    · exact .inr hb

theorem dis_bad {S : List Srv} {H : Nat} {w : World} {db now : Nat} {tt : Int} {G : Nat → Prop} (h : Dis S H w db now G) (hto : tt < now ∨ 1099511627776 ≤ tt) :
    Calls Tryz.prog 9 #[.pointer (some ⟨db, 0, none⟩), .int .i64 tt] w fun e w' => e = .returned (.int .i64 2) ∧ w' = w := by
  obtain ⟨ps, cs, po, co, ord, rb, K, F, h1, h2, h3, h4, h5⟩ := h
  exact adv_bad S H w db now tt ps cs po co ord rb K F h1 hto

set_option maxHeartbeats 1000000 in
set_option maxRecDepth 100000 in
theorem dis_now {S : List Srv} {H : Nat} {w : World} {db now : Nat} {G : Nat → Prop} (h : Dis S H w db now G) :
    Calls Tryz.prog 20 #[.pointer (some ⟨db, 0, none⟩)] w fun e w' => e = .returned (.int .i64 now) ∧ w' = w := by
  obtain ⟨ps, cs, po, co, ord, rb, K, F, ⟨wb, n, R, T, h1, _⟩, _⟩ := h
  have c3 := h1.dp.c3
  clear h1
  go_enter Tryz.func20, Tryz.ntmps20
  go_wp2_with fail
  go_ret
  exact ⟨rfl, rfl⟩

set_option maxHeartbeats 1000000 in
set_option maxRecDepth 100000 in
theorem dis_occ {S : List Srv} {H : Nat} {w : World} {db now : Nat} {G : Nat → Prop} (h : Dis S H w db now G) (hh : hyperOf S = (H, 0)) :
    Calls Tryz.prog 21 #[.pointer (some ⟨db, 0, none⟩)] w fun e w' => e = .returned (.int .i64 (optI ((sysOf S).occ now) + 1)) ∧ w' = w := by
  obtain ⟨ok, hl, hH1, hH2, okk⟩ := sys_ok hh
  obtain ⟨ps, cs, po, co, ord, rb, K, F, ⟨wb, n, R, T, h1, _⟩, _⟩ := h
  have hoc := occupant_any S H w db now ps cs po co ord rb _ _ K h1.dp (by omega) okk
  have e0 : (sysOf S).pick (fun i => (sysOf S).st now i) S.length = (sysOf S).occ now := rfl
  rw [e0] at hoc
  have hlt : ∀ i, (sysOf S).occ now = some i → i < S.length := fun i hi => (Sys.pick_some hi).1
  have hb : -1 ≤ optI ((sysOf S).occ now) ∧ optI ((sysOf S).occ now) ≤ 32 := by
    cases e : (sysOf S).occ now with
    | none => simp [optI]
    | some i => have := hlt i e; simp [optI]; omega
  have e1 : IntKind.i64.wrap (optI ((sysOf S).occ now) + 1) = optI ((sysOf S).occ now) + 1 := IntWalk.i64_in _ (by omega)
  generalize optI ((sysOf S).occ now) = o at *
  have HO := hid hoc
  clear hoc h1 e0 hlt hb
  go_enter Tryz.func21, Tryz.ntmps21
  go_wp2_with fail
  refine HO.out.mono ?_
  rintro e w1 ⟨rfl, rfl⟩
  go_wp2_with fail
  go_ret
  exact ⟨rfl, rfl⟩

theorem dis_until {S : List Srv} {H : Nat} {w : World} {db now : Nat} {G : Nat → Prop} (h : Dis S H w db now G) (hn : now < 1099511627776) (hh : hyperOf S = (H, 0)) :
    Calls Tryz.prog 11 #[.pointer (some ⟨db, 0, none⟩)] w fun e w' => e = .returned (.int .i64 (untilOf S now ((sysOf S).st now) (now + 1))) ∧ ∃ q, w' = w.drewN q := by
  obtain ⟨ok, hl, hH1, hH2, okk⟩ := sys_ok hh
  obtain ⟨ps, cs, po, co, ord, rb, K, F, ⟨wb, n, R, T, h1, _, hT⟩, _⟩ := h
  exact until_any S H w db now (now + 1) n ps cs po co ord rb _ wb K F R T h1.dp h1.at_ h1.inv (by omega) hT hl okk (fun i hi => st_bd ok okk now i hi)

set_option maxHeartbeats 1000000 in
set_option maxRecDepth 100000 in
theorem dis_rests {S : List Srv} {H : Nat} {w : World} {db now : Nat} {G : Nat → Prop} (h : Dis S H w db now G) (hl : S.length ≤ 32) :
    Calls Tryz.prog 17 #[.pointer (some ⟨db, 0, none⟩)] w fun e w' => ∃ v', e = .returned v' ∧ Only noB w w' ∧ w'.ownsRow w.heap.size 3 1 v' S.length ((stList S now).map (Value.int .i64)) := by
  obtain ⟨ps, cs, po, co, ord, rb, K, F, ⟨wb, n, R, T, h1, _⟩, _⟩ := h
  have c4 := h1.dp.c4
  have hcl := cloneI_any rb S.length S.length (stList S now) w (stList_len S now) (by omega) (fun j hj => by
    rw [h1.dp.rs j hj, List.getD_eq_getElem?_getD, List.getElem?_eq_getElem (by rw [stList_len]; exact hj), stList_at S now j hj]; rfl)
  have HC := hid hcl
  clear h1 hcl
  go_enter Tryz.func17, Tryz.ntmps17
  go_wp2_with fail
  refine HC.out.mono ?_
  rintro e w1 ⟨v', rfl, ho, hw⟩
  have HO := hid (And.intro ho hw)
  clear ho hw
  go_wp2_with fail
  go_ret
  exact ⟨_, rfl, HO.out.1, HO.out.2⟩

theorem dis_new (S : List Srv) (v : Value) (w : World) (hv : SrvAt w v S) (hl0 : S.length ≤ 9223372036854775807) (hg : Ch.Hnd w) :
    Calls Tryz.prog 13 #[v] w fun e w' => Only noB w w' ∧ (((hyperOf S).2 ≠ 0 ∧ e = .returned (.tuple #[.pointer none, .int .i64 (hyperOf S).2])) ∨
      ∃ h db, hyperOf S = (h, 0) ∧ e = .returned (.tuple #[.pointer (some ⟨db, 0, none⟩), .int .i64 0]) ∧ Dis S h w' db 0 (Fr noB w w')) := by
  by_cases he : (hyperOf S).2 = 0
  · have hh : hyperOf S = ((hyperOf S).1, 0) := by rw [← he]
    refine (new_ok S v w hv hl0 hg _ hh).mono ?_
    rintro e w' ⟨db, ps, cs, po, co, ord, rb, rfl, ho, h1, h2, K, F, h3, h4, h5⟩
    obtain ⟨d1, d2, d3, d4⟩ := h5.dj
    have hL : Dis S (hyperOf S).1 w' db 0 (fun b => w.heap.size ≤ b) := ⟨ps, cs, po, co, ord, rb, K, F, h5, h1, h2, h3, h4⟩
    exact ⟨ho, .inr ⟨_, db, hh, rfl, hL.mono fun b hb hf => .inr ⟨hf, hb⟩⟩⟩
  · exact (new_bad S v w hv hl0 hg he).mono fun e w' ⟨h1, h2⟩ => ⟨h2, .inl ⟨he, h1⟩⟩
end Go.Proofs.YtlmnojbghgnniaaGreatDoor.On
