/- The dispatcher: walk. -/
import Derived.Test.YtlmnojbghgnniaaGreatDoorArm
namespace Bulk
open Go Go.RowKit

theorem sys_ok {S : List Srv} {h : Nat} (hh : hyperOf S = (h, 0)) : okL S ∧ S.length ≤ 32 ∧ 1 ≤ h ∧ h ≤ 1048576 ∧ (sysOf S).Ok h := by
  have h0 : servErr S = 0 := by
    by_cases e : servErr S = 0
    · exact e
    · rw [hyperOf, if_pos e] at hh; exact absurd (congrArg Prod.snd hh) e
  obtain ⟨hl, ok⟩ := servErr_zero h0
  rw [hyperOf, if_neg (by simpa using h0)] at hh
  cases hR : Go.Proofs.YtlmnojbghgnniaaGreatDoor.Ch.lcmN (S.map fun s => s.p.toNat) 1 with
  | none => rw [hR] at hh; simp at hh
  | some k =>
    rw [hR] at hh
    simp only at hh
    split at hh
    · simp at hh
    · obtain rfl : k = h := congrArg Prod.fst hh
      obtain ⟨r1, r2, _, r4⟩ := Go.Proofs.YtlmnojbghgnniaaGreatDoor.Ch.lcmN_le _ 1 k (by omega) (by omega) hR (fun x hx => by
        obtain ⟨s, hs, rfl⟩ := List.mem_map.1 hx
        have := (ok.1 s hs).1.1; omega)
      refine ⟨ok, hl, r1, r2, ⟨by omega, fun i hi => ?_, fun i hi => ?_, fun i hi => ?_, fun i hi => ?_, fun i hi => ?_, fun i hi => ?_, fun i j hi hj e => ?_⟩⟩
      all_goals have hi' : i < S.length := hi
      all_goals obtain ⟨e1, e2, e3, e4⟩ := sysOf_at hi'
      all_goals obtain ⟨k1, k2, k3, k4⟩ := ok.1 S[i] (List.getElem_mem hi')
      · rw [e1]; omega
      · rw [e2]; omega
      · rw [e1, e2]; omega
      · rw [e3]; omega
      · rw [e1, e3]; omega
      · rw [e1]
        have := r4 S[i].p.toNat (List.mem_map.2 ⟨S[i], List.getElem_mem hi', rfl⟩)
        obtain ⟨c, hc⟩ := this
        have hp : S[i].p = (S[i].p.toNat : Int) := (Int.toNat_of_nonneg (by omega)).symm
        rw [hc, hp, Int.toNat_natCast, Int.natCast_mul]
        exact Int.mul_emod_right _ _
      · have hj' : j < S.length := hj
        obtain ⟨_, _, _, e5⟩ := sysOf_at hj'
        rw [e4, e5] at e
        have hnd := List.pairwise_iff_getElem.1 ok.2
        rcases Nat.lt_trichotomy i j with c | c | c
        · have := hnd i j (by simpa using hi') (by simpa using hj') c
          simp only [List.getElem_map] at this; exact absurd e this
        · exact c
        · have := hnd j i (by simpa using hj') (by simpa using hi') c
          simp only [List.getElem_map] at this; exact absurd e.symm this

theorem st_le {S : List Srv} (ok : okL S) : ∀ t i, i < S.length → (sysOf S).st t i ≤ (sysOf S).B i
  | 0, i, hi => by
    have := (ok.1 S[i] (List.getElem_mem hi)).2.1.1
    rw [← (sysOf_at hi).2.1] at this
    unfold Sys.st; split <;> omega
  | t + 1, i, hi => by
    have ih := st_le ok t i hi
    have := (ok.1 S[i] (List.getElem_mem hi)).2.1.1
    rw [← (sysOf_at hi).2.1] at this
    unfold Sys.st Sys.next
    split
    · omega
    · split <;> omega

theorem st_bd {S : List Srv} (ok : okL S) {k : Int} (okk : (sysOf S).Ok k) (t i : Nat) (hi : i < S.length) : 0 ≤ (sysOf S).st t i ∧ (sysOf S).st t i ≤ 1048576 := by
  have h1 := st_le ok t i hi
  have h2 := Sys.st_nonneg okk t i hi
  obtain ⟨e1, e2, _, _⟩ := sysOf_at hi
  obtain ⟨k1, k2, k3, k4⟩ := ok.1 S[i] (List.getElem_mem hi)
  rw [e2] at h1
  omega

theorem until_gt {S : List Srv} (ok : okL S) (now : Nat) (hn : now < 1099511627776) : (now : Int) < untilOf S now ((sysOf S).st now) (now + 1) ∧ untilOf S now ((sysOf S).st now) (now + 1) ≤ 1099511627776 := by
  have h1 := relMin_ge S (now + 1) (now + 1) (by omega) S.length fun j hj => nx_ge S j (now + 1) hj ok
  have h2 := relMin_top S (now + 1) S.length
  unfold untilOf
  split
  · omega
  · rename_i i hi
    have := (Sys.pick_some hi).2.1
    omega

theorem jump_law {S : List Srv} (ok : okL S) {k : Int} (okk : (sysOf S).Ok k) (now m : Nat) (hnm : now < m) (hm : (m : Int) ≤ untilOf S now ((sysOf S).st now) (now + 1)) :
    (∀ j, j < S.length → m ≤ nx S j (now + 1)) ∧
    (∀ x, x < m - now → (sysOf S).occ (now + x) = (sysOf S).occ now) ∧
    ∀ i, i < S.length → (sysOf S).st m i = if (sysOf S).rel i (m : Int) then (sysOf S).B i else if (sysOf S).occ now = some i then (sysOf S).st now i - (m - now : Nat) else (sysOf S).st now i := by
  have hrm : m ≤ relMin S (now + 1) S.length := by
    unfold untilOf at hm
    split at hm <;> omega
  have hnx : ∀ j, j < S.length → m ≤ nx S j (now + 1) := fun j hj => Nat.le_trans hrm (relMin_le S _ _ j hj)
  have hno : ∀ x : Nat, now < x → x < now + (m - now) → ∀ i, i < (sysOf S).n → ¬ (sysOf S).rel i x := fun x h1 h2 i hi hr => by
    have e1 := (nx_rel S i x hi ok).2 hr
    have e2 := nx_same S i x (now + 1) hi ok (by omega) (by have := hnx i hi; omega)
    have := hnx i hi
    omega
  have hoc : ∀ i, (sysOf S).occ now = some i → ((m - now : Nat) : Int) ≤ (sysOf S).st now i := fun i hi => by
    have hi' : (sysOf S).pick ((sysOf S).st now) S.length = some i := hi
    unfold untilOf at hm
    rw [hi'] at hm
    simp only at hm
    omega
  obtain ⟨j1, j2⟩ := Sys.jump okk now (m - now) hno hoc
  refine ⟨hnx, fun x hx => (j1 x hx).1, fun i hi => ?_⟩
  have := j2 (by omega) i hi
  rw [show now + (m - now) = m by omega] at this
  exact this

/-- Where walk stands. -/
structure WalkSt (S : List Srv) (H : Nat) (w wr : World) (db now to : Nat) (ps : Option Addr) (cs : Nat) (po : Option Addr) (co : Nat) (ord : List Nat) (rb wb : Nat) (K FW : Nat → Prop) (x : Nat) : Prop where
  lo : now ≤ x
  hi : x ≤ to
  only : Only (fun b => FW b ∨ b = rb ∨ b = db) w wr
  st : ∃ n R T, DW S H wr db x ps cs po co ord rb (fun i => (sysOf S).st x i) wb K (Fr FW w wr) n R T ∧ n ≤ x ∧ Tm S T (x + 1)
end Bulk

namespace Go.Proofs.YtlmnojbghgnniaaGreatDoor.On
open Go.RowKit Bulk

theorem walk_rel {S : List Srv} {H : Nat} {w wr w3 : World} {db now to x m n : Nat} {ps : Option Addr} {cs : Nat} {po : Option Addr} {co : Nat} {ord : List Nat} {rb wb : Nat} {K FW : Nat → Prop} {R : Nat → Nat → List Int} {T : List (Int × Int)} {r3 : Nat → Int}
    (hd0 : DP S H w db now ps cs po co ord rb (fun i => (sysOf S).st now i) (.iface 68 (.pointer (some ⟨wb, 0, none⟩))) K)
    (hX : WalkSt S H w wr db now to ps cs po co ord rb wb K FW x) (hdw : DW S H wr db x ps cs po co ord rb (fun i => (sysOf S).st x i) wb K (Fr FW w wr) n R T) (hT : Tm S T (x + 1)) (ok : okL S) (hl : S.length ≤ 32)
    (hn : n ≤ x) (hxm : x < m) (hmt : m ≤ to) (hto2 : to < 1099511627776)
    (hJ1 : ∀ j, j < S.length → m ≤ nx S j (x + 1)) (hJ2 : ∀ i, i < S.length → (sysOf S).st m i = if (sysOf S).rel i (m : Int) then (sysOf S).B i else r3 i)
    (ho : Only (fun b => b = rb ∨ b = db) wr w3) (hd3 : DP S H w3 db m ps cs po co ord rb r3 (.iface 68 (.pointer (some ⟨wb, 0, none⟩))) K) :
    Calls Tryz.prog 33 #[.pointer (some ⟨db, 0, none⟩)] w3 fun e w4 => e = .returned (.tuple #[]) ∧ WalkSt S H w w4 db now to ps cs po co ord rb wb K FW m := by
  have hs1 := hX.only.size
  have hs2 := ho.size
  have hrw : rb < w.heap.size := hd0.rl
  have hdw0 : db < w.heap.size := World.block_lt_of_cell? w _ hd0.c0
  have hdw3 : DW S H w3 db m ps cs po co ord rb r3 wb K (Fr FW w wr) n R T := ⟨hd3, hdw.at_.kept ho (fun b hb e => by
    have := hdw.dj b hb
    rcases e with e | e
    · exact this.2.2 e
    · exact this.2.1 e), hdw.inv, hdw.dj⟩
  refine (release_any S H w3 db m n (x + 1) ps cs po co ord rb r3 wb K _ R T hdw3 hT ok hl (by omega) (by omega) (by omega) hJ1).mono ?_
  rintro e w4 ⟨rfl, ho4, R', T', hdw4, hT4⟩
  have hs4 := ho4.size
  refine ⟨rfl, ⟨by have := hX.lo; omega, hmt, ?_, m, R', T', ⟨hdw4.dp.congr fun i hi => (hJ2 i hi).symm, hdw4.at_.mono fun b hb hf => ?_, hdw4.inv, fun b hb => ?_⟩, Nat.le_refl _, hT4⟩⟩
  · refine (hX.only.trans ho fun y _ e => .inr e).trans ho4 fun y hy e => ?_
    rcases e with e | e
    · rcases e with e | e
      · exact .inl e
      · omega
    · exact .inr (.inl e)
  · rcases hf with hf | hf
    · rcases hf with hf | hf
      · exact .inl hf
      · exact .inr ⟨hf.1, by omega⟩
    · exact .inr ⟨by have := hf.1; omega, by have := hf.2; omega⟩
  · rcases hb with hb | hb
    · exact hdw.dj b (.inl hb)
    · exact ⟨fun hk => by have := hd0.kl b hk; omega, by omega, by omega⟩

set_option maxHeartbeats 4000000 in
set_option maxRecDepth 100000 in
theorem walk_any (S : List Srv) (H : Nat) (w : World) (db now to : Nat) (ps : Option Addr) (cs : Nat) (po : Option Addr) (co : Nat) (ord : List Nat) (rb wb n : Nat) (K FW : Nat → Prop) (R : Nat → Nat → List Int) (T : List (Int × Int))
    (h : DW S H w db now ps cs po co ord rb (fun i => (sysOf S).st now i) wb K FW n R T) (hT : Tm S T (now + 1)) (hn : n ≤ now) (hto : now ≤ to) (hto2 : to < 1099511627776) (ok : okL S) (hl : S.length ≤ 32) {k : Int} (okk : (sysOf S).Ok k) :
    Calls Tryz.prog 25 #[.pointer (some ⟨db, 0, none⟩), .int .i64 to] w fun e w' => e = .returned (.tuple #[]) ∧ WalkSt S H w w' db now to ps cs po co ord rb wb K FW to := by
  have HD := hid h
  have HS := hid (show WalkSt S H w w db now to ps cs po co ord rb wb K FW now from ⟨Nat.le_refl _, hto, Only.refl _ _, n, R, T, ⟨h.dp, h.at_.mono (fun b _ hb => .inl hb), h.inv, fun b hb => by
    rcases hb with hb | hb
    · exact h.dj b hb
    · omega⟩, hn, hT⟩)
  clear h hT hn
  go_enter Tryz.func25, Tryz.ntmps25
  go_wp2_with fail
  go_loopg [] (to - now) (fun g wr => ∃ x : Nat, g = to - x ∧ Hid (WalkSt S H w wr db now to ps cs po co ord rb wb K FW x))
  case atStart => exact ⟨now, rfl, HS⟩
  case round =>
    obtain ⟨x, rfl, HX⟩ := hrel
    clear HS
    have hx1 := HX.out.lo
    have hx2 := HX.out.hi
    obtain ⟨n, R, T, hdw, hnx, hTm⟩ := HX.out.st
    have c3 := hdw.dp.c3
    by_cases hlt : x < to
    · have d1 : decide (x < to) = true := by simpa using hlt
      have HUn := hid (until_any S H wr db x (x + 1) n ps cs po co ord rb (fun i => (sysOf S).st x i) wb K _ R T hdw.dp hdw.at_ hdw.inv (by omega) hTm hl okk (fun i hi => st_bd ok okk x i hi))
      obtain ⟨hu1, hu2⟩ := until_gt ok x (by omega)
      have hU : untilOf S x (fun i => (sysOf S).st x i) (x + 1) = untilOf S x ((sysOf S).st x) (x + 1) := rfl
      rw [hU] at HUn
      obtain ⟨u, hu⟩ : ∃ u : Nat, untilOf S x ((sysOf S).st x) (x + 1) = u := ⟨_, (Int.toNat_of_nonneg (show 0 ≤ untilOf S x ((sysOf S).st x) (x + 1) by omega)).symm⟩
      obtain ⟨m, hm⟩ : ∃ m : Nat, m = min u to := ⟨_, rfl⟩
      obtain ⟨jl1, jl2, jl3⟩ := jump_law ok okk x m (by omega) (by omega)
      rw [hu] at HUn
      have emin : min (u : Int) (to : Int) = (m : Int) := by omega
      have HOcc := hid (fun q => occupant_any S H (wr.drewN q) db x ps cs po co ord rb (fun i => (sysOf S).st x i) _ K (hdw.dp.drewN q) (by omega) okk)
      have HDW := hid hdw
      have HTm := hid hTm
      have HJ := hid (And.intro jl1 jl3)
      have HM := hid (show x < m ∧ m ≤ to ∧ n ≤ x from ⟨by omega, by omega, hnx⟩)
      have HPk := hid (show ∀ i, (sysOf S).pick (fun i => (sysOf S).st x i) S.length = some i → i < S.length ∧ ((m - x : Nat) : Int) ≤ (sysOf S).st x i from fun i hi => ⟨(Sys.pick_some hi).1, by
        have hm' : (m : Int) ≤ untilOf S x ((sysOf S).st x) (x + 1) := by omega
        unfold untilOf at hm'
        rw [show (sysOf S).pick ((sysOf S).st x) S.length = some i from hi] at hm'
        simp only at hm'
        have := (Sys.pick_some hi).1
        omega⟩)
      clear hdw hTm jl1 jl2 jl3 hu hu1 hu2 hm hU hlt
      go_wp2_with fail
      refine HUn.out.mono ?_
      rintro e w1 ⟨rfl, q, rfl⟩
      clear HUn
      go_wp2_with fail
      refine (HOcc.out q).mono ?_
      rintro e w1 ⟨rfl, rfl⟩
      clear HOcc
      cases hpk : (sysOf S).pick (fun i => (sysOf S).st x i) S.length with
      | none =>
        rw [show optI none = -1 from rfl]
        have hno : ∀ i, (sysOf S).occ x ≠ some i := fun i hi => by
          have : (sysOf S).pick (fun i => (sysOf S).st x i) S.length = some i := hi
          rw [hpk] at this; cases this
        have HNo := hid hno
        have kf := HDW.out.dp.fz 3
        clear hpk hno
        go_wp2_with fail
        obtain ⟨w3, hw3⟩ : ∃ y : World, y = (wr.drewN q).setCell ⟨db, 3, none⟩ (.int .i64 m) := ⟨_, rfl⟩
        rw [← hw3]
        have hRel := walk_rel (w3 := w3) (r3 := fun i => (sysOf S).st x i) HD.out.dp HX.out HDW.out HTm.out ok hl HM.out.2.2 HM.out.1 HM.out.2.1 hto2 HJ.out.1 (fun i hi => by rw [HJ.out.2 i hi, if_neg (HNo.out i)])
          (by rw [hw3]; exact (((Only.refl (fun b => b = rb ∨ b = db) wr).drewN q).setCell (.inl (.inr rfl)) _)) (by rw [hw3]; exact (HDW.out.dp.drewN q).setNow m)
        have HRel := hid hRel
        clear hRel hw3 kf c3
        refine HRel.out.mono ?_
        rintro e w4 ⟨rfl, hS⟩
        have HSn := hid hS
        clear hS HRel
        go_wp2_with fail
        go_roundg (to - m)
        case measure => have := HM.out; omega
        case rel => exact ⟨m, rfl, HSn⟩
      | some i =>
        rw [show optI (some i) = (i : Int) from rfl]
        obtain ⟨hi, hri⟩ := HPk.out i hpk
        have hi' : (i : Int) < (S.length : Int) := by omega
        have HO := hid (show (sysOf S).occ x = some i from hpk)
        obtain ⟨wq, hwq⟩ : ∃ y : World, y = wr.drewN q := ⟨_, rfl⟩
        rw [← hwq]
        have hdq : DP S H wq db x ps cs po co ord rb (fun i => (sysOf S).st x i) (.iface 68 (.pointer (some ⟨wb, 0, none⟩))) K := by rw [hwq]; exact HDW.out.dp.drewN q
        have HOq := hid (show Only (fun b => b = rb ∨ b = db) wr wq by rw [hwq]; exact (Only.refl _ wr).drewN q)
        have HDq := hid hdq
        clear c3 hwq
        have c3 := hdq.c3
        have c4 := hdq.c4
        have r1 := hdq.rs i hi
        have rf := hdq.rf i
        have kf := hdq.fz 3
        clear hdq
        obtain ⟨z0, z1⟩ := st_bd ok okk x i hi
        have e1 : IntKind.i64.wrap ((m : Int) - x) = ((m - x : Nat) : Int) := by have := HM.out; rw [IntWalk.i64_in _ (by omega)]; omega
        have e2 : IntKind.i64.wrap ((sysOf S).st x i - ((m - x : Nat) : Int)) = (sysOf S).st x i - ((m - x : Nat) : Int) := IntWalk.i64_in _ (by omega)
        have hst : ∃ z, (sysOf S).st x i = z := ⟨_, rfl⟩
        obtain ⟨z, hz⟩ := hst
        rw [hz] at r1 e2
        obtain ⟨d, hd⟩ : ∃ d : Nat, d = m - x := ⟨_, rfl⟩
        rw [← hd] at e1 e2
        obtain ⟨zd, hzd⟩ : ∃ y : Int, y = z - d := ⟨_, rfl⟩
        replace e2 : IntKind.i64.wrap (z - (d : Int)) = zd := by rw [e2, hzd]
        have HZ := hid (And.intro hz (And.intro hd hzd))
        clear hpk z0 z1 hri hz hd hzd
        go_wp2_with fail
        go_still_tail 15, (by kernel_rfl)
        have k32 : ∀ u, (wq.setCell ⟨rb, i, none⟩ u).cell? ⟨db, 3, none⟩ = some (.int .i64 x) := fun u => (Only.setCell0 wq ⟨rb, i, none⟩ u).cell c3 (show ¬ db = rb from HDW.out.dp.ne)
        go_wp2_with fail
        obtain ⟨w3, hw3⟩ : ∃ y : World, y = ((wq.setCell ⟨rb, i, none⟩ (.int .i64 zd)).setCell ⟨db, 3, none⟩ (.int .i64 m)).drew := ⟨_, rfl⟩
        rw [← hw3]
        have hRel := walk_rel (w3 := w3) (r3 := fun j => if j = i then zd else (sysOf S).st x j) HD.out.dp HX.out HDW.out HTm.out ok hl HM.out.2.2 HM.out.1 HM.out.2.1 hto2 HJ.out.1 (fun j hj => by
            rw [HJ.out.2 j hj, HO.out]
            by_cases e : j = i
            · subst e
              rw [if_pos rfl, if_pos rfl, HZ.out.1, HZ.out.2.2, HZ.out.2.1]
            · rw [if_neg e, if_neg (fun e2 => e (Option.some.inj e2).symm)])
          (by rw [hw3]; exact ((HOq.out.setCell (.inl (.inl rfl)) _).setCell (.inl (.inr rfl)) _).drew) (by rw [hw3]; exact ((HDq.out.setRest hi zd).setNow m).drewN 1)
        have HRel := hid hRel
        clear hRel hw3 kf c3 c4 r1 rf e1 e2 k32
        refine HRel.out.mono ?_
        rintro e w4 ⟨rfl, hS⟩
        have HSn := hid hS
        clear hS HRel
        go_wp2_with fail
        go_roundg (to - m)
        case measure => have := HM.out; omega
        case rel => exact ⟨m, rfl, HSn⟩
    · obtain rfl : x = to := by omega
      have d1 : decide (x < x) = false := by simp
      clear hdw hTm hx1 hx2 hnx hlt
      go_wp2_with fail
      go_end0
      exact ⟨rfl, HX.out⟩
end Go.Proofs.YtlmnojbghgnniaaGreatDoor.On
