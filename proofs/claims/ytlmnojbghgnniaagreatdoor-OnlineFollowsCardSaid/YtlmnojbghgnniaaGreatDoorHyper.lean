/- check.hyper, face, Hyper. -/
import Derived.Test.YtlmnojbghgnniaaGreatDoorCheck
namespace Bulk
open Go Go.RowKit

/-- All releases in two hyperperiods. -/
def relSum (ps : List Nat) (h : Nat) : Nat := (ps.map fun p => 2 * h / p).sum

open Classical in
/-- The hyperperiod, and the error. -/
noncomputable def hyperOf (S : List Srv) : Nat × Int :=
  if servErr S ≠ 0 then (0, servErr S) else
    match Go.Proofs.YtlmnojbghgnniaaGreatDoor.Ch.lcmN (S.map fun s => s.p.toNat) 1 with
    | none => (0, 102)
    | some h => if 65536 < relSum (S.map fun s => s.p.toNat) h then (0, 103) else (h, 0)

theorem servErr_zero {S : List Srv} (h : servErr S = 0) : S.length ≤ 32 ∧ okL S := by
  unfold servErr at h
  split at h
  · simp at h
  · split at h
    · exact ⟨by omega, by assumption⟩
    · simp at h
end Bulk

namespace Go.Proofs.YtlmnojbghgnniaaGreatDoor.Ch
open Go.RowKit Bulk

theorem info3 : (Tryz.prog.info? 3).map (fun i => (i.zero, i.size, i.bytes)) = some (some (.int .i64 0), 1, 8) := by kernel_rfl

theorem lcmN_le : ∀ (xs : List Nat) (m h : Nat), 1 ≤ m → m ≤ 1048576 → lcmN xs m = some h → (∀ x ∈ xs, 1 ≤ x) → 1 ≤ h ∧ h ≤ 1048576 ∧ m ∣ h ∧ ∀ x ∈ xs, x ∣ h
  | [], m, h, h1, h2, e, _ => by simp only [lcmN, Option.some.injEq] at e; subst e; exact ⟨h1, h2, Nat.dvd_refl _, by simp⟩
  | x :: xs, m, h, h1, h2, e, hx => by
    rw [lcmN] at e
    split at e
    · cases e
    · rename_i hle
      have hx1 := hx x (by simp)
      have hg := Nat.gcd_pos_of_pos_left x h1
      have hd : 1 ≤ x / Nat.gcd m x := Nat.div_pos (Nat.le_of_dvd (by omega) (Nat.gcd_dvd_right _ _)) hg
      have hm : m * (x / Nat.gcd m x) ≤ 1048576 := Nat.le_trans (Nat.mul_le_mul_left m (by omega)) (Nat.mul_div_le _ _)
      obtain ⟨r1, r2, r3, r4⟩ := lcmN_le xs _ h (Nat.mul_pos h1 hd) hm e (fun y hy => hx y (by simp [hy]))
      refine ⟨r1, r2, Nat.dvd_trans ⟨_, rfl⟩ r3, fun y hy => ?_⟩
      rcases List.mem_cons.1 hy with rfl | hy
      · refine Nat.dvd_trans ?_ r3
        obtain ⟨c, hc⟩ := Nat.gcd_dvd_left m y
        have e2 : Nat.gcd m y * (y / Nat.gcd m y) = y := Nat.mul_div_cancel' (Nat.gcd_dvd_right _ _)
        refine ⟨c, ?_⟩
        calc m * (y / Nat.gcd m y) = (Nat.gcd m y * c) * (y / Nat.gcd m y) := by rw [← hc]
          _ = (Nat.gcd m y * (y / Nat.gcd m y)) * c := by rw [Nat.mul_assoc, Nat.mul_comm c, ← Nat.mul_assoc]
          _ = y * c := by rw [e2]
      · exact r4 y hy

/-- In hyper: i periods are laid. -/
structure PerSt (w wr : World) (S : List Srv) (v : Value) (i : Nat) : Prop where
  only : Only noB w wr
  own : wr.ownsRow w.heap.size 3 1 v i ((S.take i).map fun s => .int .i64 s.p)

theorem PerSt.next {w wr w1 : World} {S : List Srv} {v v1 : Value} {i : Nat} {o1 o2 : Obj} {x : Int} (h : PerSt w wr S v i) (hi : i < S.length) (hx : S[i].p = x)
    (hg : ((wr.alloc o1).alloc o2).grownBy w1 v.ownBlock) (ho : w1.ownsRow w.heap.size 3 1 v1 (i + 1) ((S.take i).map (fun s => .int .i64 s.p) ++ [.int .i64 x])) : PerSt w w1 S v1 (i + 1) :=
  ⟨((h.only.alloc _).alloc _).grown hg fun k e => .inr (h.own.lt k e).1, by rw [List.take_succ_eq_append_getElem hi, List.map_append, List.map_cons, List.map_nil, hx]; exact ho⟩

theorem PerSt.ints {w wr : World} {S : List Srv} {v : Value} (h : PerSt w wr S v S.length) (hp : ∀ s ∈ S, 1 ≤ s.p) : IntsAt wr v (List.map (Nat.cast : Nat → Int) (S.map fun s => s.p.toNat)) := by
  have ho := h.own
  have hcells := fun {g} => ho.cells (g := g)
  rcases ho.2 with ⟨h1, h2⟩ | ⟨g, cap, cur, rfl, _⟩
  · have h0 : S.length = 0 := h2
    exact ⟨none, 0, by rw [h1]; simp [h0], fun j hj => by simp [h0] at hj⟩
  · refine ⟨some ⟨g, 0, none⟩, cap, by simp, fun j hj => ⟨_, rfl, ?_⟩⟩
    have hj' : j < S.length := by simpa using hj
    rw [hcells rfl j (.int .i64 S[j].p) (by simp [hj'])]
    have := hp S[j] (List.getElem_mem _)
    simp only [List.map_map, List.getElem_map, Function.comp]
    congr 3
    omega

set_option maxHeartbeats 4000000 in
set_option maxRecDepth 100000 in
theorem hyper_any (S : List Srv) (v : Value) (w : World) (hv : SrvAt w v S) (hl : S.length ≤ 9223372036854775807) :
    Calls Tryz.prog 41 #[v] w fun e w' => ∃ r, e = .returned (.tuple #[.int .i64 (hyperOf S).1, r]) ∧ Only noB w w' ∧ ErrAt w w' (hyperOf S).2 r := by
  have HServ := hid (servers_any S v w hv hl)
  obtain ⟨p, cap, rfl, hc⟩ := hv
  have HC := hid hc
  clear hc
  go_enter Tryz.func41, Tryz.ntmps41
  go_wp2_with fail
  refine HServ.out.mono ?_
  rintro e w1 ⟨r, rfl, ho1, he1⟩
  rcases he1 with ⟨h0, rfl⟩ | ⟨b, x, hne, hbs, rfl, hbv⟩
  · have HO1 := hid ho1
    have H0 := hid (servErr_zero h0)
    have HS0 := hid h0
    clear ho1 h0 HServ
    have hl32 := H0.out.1
    obtain ⟨i0, hi, hz0, hz1, hz2⟩ := info_parts info3
    have hsz1 := HO1.out.size
    obtain ⟨w2, hmk, hown2, hg2⟩ := run_make_own (P := Tryz.prog) w1 w.heap.size 23 3 i0 _ _ Tryz.underlying23 hi hz0 hz1 .i64 .i64 S.length (by rw [hz2]; omega) (by unfold maxLen; omega) hsz1
    have HP := hid (show PerSt w w2 S (.slice (some ⟨w1.heap.size, 0, none⟩) 0 S.length) 0 from ⟨HO1.out.grown hg2 (fun k e => by cases e), by simpa using hown2⟩)
    clear hown2 hg2 hsz1
    go_wp2_with fail
    clear hmk
    go_loopg [5, 23] S.length (fun g v5 v23 wr => ∃ i : Nat, i ≤ S.length ∧ g = S.length - i ∧ v23 = .int .i64 i ∧ Hid (PerSt w wr S v5 i))
    case atStart => exact ⟨0, by omega, rfl, rfl, HP⟩
    case round =>
      obtain ⟨i, hi1, rfl, rfl, HS⟩ := hrel
      clear HP
      by_cases hi2 : i < S.length
      · obtain ⟨a, rfl, hat⟩ := HC.out i hi2
        obtain ⟨hc1, hc2, hc3, hc4⟩ := hat.kept HS.out.only id
        have d2 : decide (i < S.length) = true := by simpa using hi2
        have hown := HS.out.own
        have hsw := HS.out.only.size
        have hpx : S[i].p = S[i].p := rfl
        have HX : ∃ x, Hid (S[i].p = x) ∧ x = S[i].p := ⟨_, hid rfl, rfl⟩
        obtain ⟨x, HX, hxx⟩ := HX
        rw [← hxx] at hc1
        generalize S[i].b = x2 at *
        generalize S[i].o = x3 at *
        generalize S[i].q = x4 at *
        clear hat hpx hxx
        go_wp2_with (at_builtin; refine wpList_append_own _ rfl (.tmp 27) (.tmp 30) 23 rfl w.heap.size 3 i0 (.int .i64 0) 1 8 Tryz.underlying23 hi hz0 hz1 hz2 rfl (by decide) _ i _ rfl ((hown.alloc _).alloc _) ⟨wr.heap.size + 1, 0, none⟩ 1 1 [.int .i64 x] rfl rfl ?c1 ?c2 ?c3 ?c4 ?c5 ?_)
        case c1 =>
          intro j u hj
          match j, hj with
          | 0, hj => simp at hj; subst hj; simp [Addr.add]
        case c2 => intro u hu; simp at hu; subst hu; rfl
        case c3 => unfold maxLen; omega
        case c4 => omega
        case c5 => simp; omega
        intro v1 w1 ho1 hg1 _
        have HN := hid (HS.out.next hi2 HX.out hg1 (by simpa using ho1))
        clear ho1 hg1 hown hsw
        go_wp2_with fail
        go_roundg (S.length - (i + 1))
        case measure => omega
        case rel => exact ⟨i + 1, by omega, rfl, by go_num, HN⟩
      · obtain rfl : i = S.length := by omega
        clear hi1 hi2
        have hpos : ∀ s ∈ S, 1 ≤ s.p ∧ s.p ≤ 1048576 := fun s hs => (H0.out.2.1 s hs).1
        have hints := HS.out.ints fun s hs => (hpos s hs).1
        have hX : ∀ x ∈ (S.map fun s => s.p.toNat), 1 ≤ x ∧ x ≤ 1048576 := fun x hx => by
          obtain ⟨s, hs, rfl⟩ := List.mem_map.1 hx
          have := hpos s hs; omega
        have hlcm := lcm_any (S.map fun s => s.p.toNat) u5 wr hints hX (by simp; omega)
        have HL := hid hlcm
        have HI := hid hints
        have HX := hid hX
        have HLen := hid (show (S.map fun s => s.p.toNat).length = S.length by simp)
        have HHy := hid (show hyperOf S = match lcmN (S.map fun s => s.p.toNat) 1 with | none => (0, 102) | some h => if 65536 < relSum (S.map fun s => s.p.toNat) h then (0, 103) else (h, 0) by rw [hyperOf, if_neg (by simpa using HS0.out)])
        clear hlcm hints hX hpos
        generalize (S.map fun s => s.p.toNat) = xs at *
        go_wp2_with fail
        refine HL.out.mono ?_
        rintro e w4 ⟨rfl, q, rfl⟩
        clear HL
        cases hR : lcmN xs 1 with
        | none =>
          have HH := hid (show hyperOf S = (0, 102) by rw [HHy.out, hR])
          clear hR
          go_wp2_with fail
          go_ret2
          rw [HH.out]
          refine ⟨_, rfl, (HS.out.only.drewN q).alloc _, .inr ⟨_, _, by decide, ?_, rfl, heap_alloc_at0 (wr.drewN q) _⟩⟩
          exact HS.out.only.size
        | some h =>
          have HH := hid (show hyperOf S = if 65536 < relSum xs h then (0, 103) else (h, 0) by rw [HHy.out, hR])
          obtain ⟨hh1, hh2, _, _⟩ := lcmN_le xs 1 h (by omega) (by omega) hR (fun x hx => (HX.out x hx).1)
          obtain ⟨pp, c5, he5, hc5⟩ := HI.out
          rw [List.length_map] at he5
          have HC5 := hid hc5
          have hxl : xs.length ≤ 32 := by rw [HLen.out]; exact hl32
          clear hR hc5
          have HWr := hid (show Only noB w (wr.drewN q) from HS.out.only.drewN q)
          have HC6 := hid (show ∀ j (hj : j < xs.length), ∃ a, pp = some a ∧ (wr.drewN q).cell? (a.add j) = some (.int .i64 xs[j]) from fun j hj => by
            obtain ⟨a, h1, h2⟩ := HC5.out j (by simpa using hj)
            exact ⟨a, h1, by rw [List.getElem_map] at h2; exact h2⟩)
          clear HC5 HI HS
          subst he5
          generalize wr.drewN q = w3 at *
          go_wp2_with fail
          go_loopg [10, 45] xs.length (fun g v10 v45 wx => ∃ i s : Nat, i ≤ xs.length ∧ g = xs.length - i ∧ v45 = .int .i64 i ∧ v10 = .int .i64 s ∧ Hid (s = relSum (xs.take i) h ∧ s ≤ i * 2097152) ∧ wx = w3)
          case atStart => exact ⟨0, 0, by omega, rfl, rfl, rfl, hid ⟨rfl, by omega⟩, rfl⟩
          case round =>
            obtain ⟨i, s, hi1, rfl, rfl, rfl, HSum, rfl⟩ := hrel
            by_cases hi2 : i < xs.length
            · obtain ⟨a, rfl, hcx⟩ := HC6.out i hi2
              have hx := HX.out xs[i] (List.getElem_mem _)
              have hsum := HSum.out
              have htk : relSum (xs.take (i + 1)) h = relSum (xs.take i) h + 2 * h / xs[i] := by
                rw [relSum, List.take_succ_eq_append_getElem hi2, List.map_append, List.sum_append]; simp [relSum]
              generalize xs[i] = x at *
              have e1 : IntKind.i64.wrap ((2 : Int) * h) = ((2 * h : Nat) : Int) := by rw [IntWalk.i64_in _ (by omega)]; omega
              have e2 : Int.tdiv ((2 * h : Nat) : Int) (x : Int) = ((2 * h / x : Nat) : Int) := (Int.ofNat_tdiv _ _).symm
              have e3 : ¬ (x : Int) = 0 := by omega
              have hle : 2 * h / x ≤ 2 * h := Nat.div_le_self _ _
              have hb2 : 2 * h ≤ 2097152 := by omega
              generalize 2 * h / x = y at *
              generalize 2 * h = h2 at *
              have e4 : IntKind.i64.wrap ((s : Int) + y) = ((s + y : Nat) : Int) := by rw [IntWalk.i64_in _ (by omega)]; omega
              have d2 : decide (i < xs.length) = true := by simpa using hi2
              have HSY := hid (show s + y = relSum (xs.take (i + 1)) h ∧ s + y ≤ (i + 1) * 2097152 from ⟨by rw [htk, ← hsum.1], by omega⟩)
              have hyb : (y : Int) ≤ 2097152 := by omega
              generalize s + y = sy at *
              clear hsum htk
              go_wp2_with fail
              go_roundg (xs.length - (i + 1))
              case measure => omega
              case rel => exact ⟨i + 1, sy, by omega, rfl, by go_num, by go_num, HSY, rfl⟩
            · obtain rfl : i = xs.length := by omega
              obtain ⟨hs1, hs2⟩ := HSum.out
              rw [List.take_length] at hs1
              clear hi1 hi2
              by_cases h6 : 65536 < s
              · have d1 : decide ((65536 : Int) < s) = true := by simp; omega
                have HH2 := hid (show hyperOf S = (0, 103) by rw [HH.out, if_pos (by omega)])
                clear h6 hs1 hs2
                go_wp2_with fail
                go_ret2
                rw [HH2.out]
                exact ⟨_, rfl, HWr.out.alloc _, .inr ⟨_, _, by decide, HWr.out.size, rfl, heap_alloc_at0 _ _⟩⟩
              · have d1 : decide ((65536 : Int) < s) = false := by simp; omega
                have HH2 := hid (show hyperOf S = (h, 0) by rw [HH.out, if_neg (by omega)])
                clear h6 hs1 hs2
                go_wp2_with fail
                go_ret2
                rw [HH2.out]
                exact ⟨_, rfl, HWr.out, .inl ⟨rfl, rfl⟩⟩
  · have hH : hyperOf S = (0, servErr S) := by rw [hyperOf, if_pos hne]
    have HB := hid (And.intro hH (And.intro hne (And.intro hbs (And.intro hbv ho1))))
    clear hH hne hbs hbv ho1 HServ
    go_wp2_with fail
    go_ret2
    obtain ⟨hH, hne, hbs, hbv, ho1⟩ := HB.out
    rw [hH]
    exact ⟨_, rfl, ho1, .inr ⟨b, x, hne, hbs, rfl, hbv⟩⟩

/-- The handle of 'error'. -/
def Hnd (w : World) : Prop := w.cell? ⟨0, 0, none⟩ = some (.iface 140 (.agg #[.pointer (some ⟨1, 74, none⟩)]))

theorem Hnd.kept {F : Nat → Prop} {w w' : World} (h : Hnd w) (ho : Only F w w') (hn : ¬ F 0) : Hnd w' := ho.cell h hn

set_option maxHeartbeats 4000000 in
set_option maxRecDepth 100000 in
theorem face_nil (w : World) : Calls Tryz.prog 42 #[.nilIface] w fun e w' => e = .returned (.tuple #[.int .i64 0, .int .i64 0]) ∧ Only noB w w' := by
  go_enter Tryz.func42, Tryz.ntmps42
  go_wp2_with (go_at_call 49; refine (as_nil _ _).mono ?_; rintro e w' ⟨rfl, rfl⟩)
  go_ret2
  exact ⟨rfl, (Only.refl _ _).alloc _⟩

set_option maxHeartbeats 4000000 in
set_option maxRecDepth 100000 in
theorem face_hit (w : World) (b : Nat) (k x : Int) (hb : w.heap[b]? = some (.cells #[.int .i64 k, .int .i64 x] 100)) (hg : Hnd w) :
    Calls Tryz.prog 42 #[.iface 98 (.pointer (some ⟨b, 0, none⟩))] w fun e w' => e = .returned (.tuple #[.int .i64 k, .int .i64 x]) ∧ Only noB w w' := by
  have hlt : b < w.heap.size := (Array.getElem?_eq_some_iff.1 hb).1
  have h0 : 0 < w.heap.size := World.block_lt_of_cell? w _ hg
  have hh := as_hit ⟨b, 0, none⟩ ⟨w.heap.size, 0, none⟩ (.pointer none) (w.alloc (.cells #[.pointer none] 98)) (by rw [World.cell?_alloc_lt _ _ _ h0]; exact hg) (by simp) (by simp)
  have HA := hid hh
  have HB := hid hb
  clear hh hg h0 hb
  go_enter Tryz.func42, Tryz.ntmps42
  go_wp2_with fail
  refine HA.out.mono ?_
  rintro e w1 ⟨rfl, hw⟩
  have ho : Only noB w w1 := by
    rw [hw]
    exact (((((Only.refl _ _).alloc _).alloc _).alloc _).alloc _).alloc _ |>.setCell (.inr (Nat.le_refl _)) _
  have hc0 : w1.cell? ⟨w.heap.size, 0, none⟩ = some (.pointer (some ⟨b, 0, none⟩)) := by
    rw [hw]
    exact World.cell?_setCell_same _ _ _ (by rw [World.cell?_alloc_lt _ _ _ (by simp; omega), World.cell?_alloc_lt _ _ _ (by simp; omega), World.cell?_alloc_lt _ _ _ (by simp; omega), World.cell?_alloc_lt _ _ _ (by simp)]; exact World.cell?_alloc_at _ _ _ _ rfl)
  have hbb : w1.heap[b]? = w.heap[b]? := ho.block b hlt id
  have hc1 : w1.cell? ⟨b, 0, none⟩ = some (.int .i64 k) := by simp [World.cell?, hbb, HB.out]
  have hc2 : w1.cell? ⟨b, 1, none⟩ = some (.int .i64 x) := by simp [World.cell?, hbb, HB.out]
  have HO := hid ho
  clear hw ho hbb HA
  go_wp2_with fail
  go_quiet (fail)
  go_wp2
  go_ret2
  exact ⟨rfl, HO.out.drewN _⟩

set_option maxHeartbeats 4000000 in
set_option maxRecDepth 100000 in
theorem Hyper_any (S : List Srv) (v : Value) (w : World) (hv : SrvAt w v S) (hl : S.length ≤ 9223372036854775807) (hg : Hnd w) :
    Calls Tryz.prog 29 #[v] w fun e w' => e = .returned (.tuple #[.int .i64 (hyperOf S).1, .int .i64 (hyperOf S).2]) ∧ Only noB w w' := by
  have HH := hid (hyper_any S v w hv hl)
  have HG := hid hg
  clear hg hv
  generalize hyperOf S = r at *
  obtain ⟨r1, r2⟩ := r
  go_enter Tryz.func29, Tryz.ntmps29
  go_wp2_with fail
  refine HH.out.mono ?_
  rintro e w1 ⟨r, rfl, ho1, he1⟩
  have HO := hid ho1
  have HG1 := hid (HG.out.kept ho1 id)
  clear ho1 HH
  rcases he1 with ⟨h0, rfl⟩ | ⟨b, x, hne, hbs, rfl, hbv⟩
  · have H0 := hid h0
    clear h0
    go_wp2_with fail
    refine (face_nil _).mono ?_
    rintro e w2 ⟨rfl, ho2⟩
    have HO2 := hid ho2
    clear ho2
    go_wp2_with fail
    go_ret2
    have := H0.out
    subst this
    exact ⟨rfl, HO.out.trans HO2.out (fun _ _ h => h)⟩
  · have HF := hid (face_hit w1 b r2 x hbv HG1.out)
    clear hne hbs hbv
    go_wp2_with fail
    refine HF.out.mono ?_
    rintro e w2 ⟨rfl, ho2⟩
    have HO2 := hid ho2
    clear ho2
    go_wp2_with fail
    go_ret2
    exact ⟨rfl, HO.out.trans HO2.out (fun _ _ h => h)⟩
end Go.Proofs.YtlmnojbghgnniaaGreatDoor.Ch
