/- The wheel's walks: the least tick at which a timer runs out. -/
import Derived.Test.YtlmnojbghgnniaaGreatDoorWheel
import Derived.Deep.LoopGhost
namespace Go.Proofs.YtlmnojbghgnniaaGreatDoor.Wh
open Go.RowKit Bulk

/-- The tick of a timer (0, if there is none). -/
def tk (T : List (Int × Int)) (i : Int) : Int := (aget T i).getD 0

def Least (T : List (Int × Int)) (ids : List Int) (j : Nat) (m : Int) : Prop := (∃ i ∈ ids, m = tk T i) ∧ ∀ i ∈ ids.take j, m ≤ tk T i

theorem Least.lower {T : List (Int × Int)} {ids : List Int} {j : Nat} {m : Int} (h : Least T ids j m) (hj : j < ids.length) (hlt : tk T ids[j] < m) : Least T ids (j + 1) (tk T ids[j]) := by
  refine ⟨⟨ids[j], List.getElem_mem hj, rfl⟩, fun i hi => ?_⟩
  rw [List.take_succ_eq_append_getElem hj] at hi
  rcases List.mem_append.1 hi with hi | hi
  · have := h.2 i hi; omega
  · rw [List.mem_singleton.1 hi]; omega

theorem Least.keep {T : List (Int × Int)} {ids : List Int} {j : Nat} {m : Int} (h : Least T ids j m) (hj : j < ids.length) (hge : m ≤ tk T ids[j]) : Least T ids (j + 1) m := by
  refine ⟨h.1, fun i hi => ?_⟩
  rw [List.take_succ_eq_append_getElem hj] at hi
  rcases List.mem_append.1 hi with hi | hi
  · exact h.2 i hi
  · rw [List.mem_singleton.1 hi]; exact hge

theorem Least.least {T : List (Int × Int)} {ids : List Int} {j : Nat} {m : Int} (h : Least T ids j m) (hj : j < ids.length) : Least T ids (j + 1) (min m (tk T ids[j])) := by
  by_cases e : m ≤ tk T ids[j]
  · rw [Int.min_eq_left e]; exact h.keep hj e
  · rw [Int.min_eq_right (by omega)]; exact h.lower hj (by omega)

set_option maxHeartbeats 2000000 in
set_option maxRecDepth 100000 in
theorem next_any (wb n : Nat) (R : Nat → Nat → List Int) (T : List (Int × Int)) (F : Nat → Prop) (w : World) (h : At w wb n R T F) (hI : WInv n R T) (hT : T.length ≤ 1000000) :
    Calls Tryz.prog 100 #[.pointer (some ⟨wb, 0, none⟩)] w fun e w' => (∃ q, w' = w.drewN q) ∧
      ((T = [] ∧ e = .returned (.tuple #[.int .i64 0, .bool false])) ∨
       ∃ (i : Int) (t : Nat), aget T i = some (t : Int) ∧ (∀ j z, aget T j = some z → (t : Int) ≤ z) ∧ e = .returned (.tuple #[.int .i64 t, .bool true])) := by
  obtain ⟨mb, V, hr, hf⟩ := h
  have hn0 := hI.n0
  have hc0 := hr.c0
  have hc1 := hr.c1
  have HR := hid hr
  have HI := hid hI
  clear hr hf hI
  go_enter Tryz.func100, Tryz.ntmps100
  go_wp2_with fail
  go_loopg [10] 7 (fun g v wr => ∃ l : Nat, l ≤ 7 ∧ g = 7 - l ∧ v = .int .i64 l ∧ (∃ q, wr = w.drewN q) ∧ Hid (∀ a b, a < l → b < 64 → dg n a ≤ b → R a b = []))
  case atStart => exact ⟨0, by omega, rfl, rfl, ⟨0, rfl⟩, hid fun a b h => by omega⟩
  case round =>
    obtain ⟨l, hl7, rfl, rfl, ⟨q, hwq⟩, HLow⟩ := hrel
    have e0 : wr.cell? ⟨wb, 0, none⟩ = some (.int .i64 n) := by rw [hwq]; exact hc0
    have HW := hid hwq
    clear hwq
    by_cases hl : l < 7
    · have hq := fun W => digit_any n l W hl (by omega)
      have hd := dg_lt n l
      have hlz : (l : Int) < 7 := by omega
      go_wp2_with (go_at_call 106; refine (hq _).mono ?_; rintro e wr ⟨rfl, rfl⟩)
      clear e0
      obtain ⟨wo, rfl⟩ : ∃ wo : World, wo = wr := ⟨_, rfl⟩
      go_loopg [20] (64 - dg n l) (fun g v wi => ∃ k : Nat, k ≤ 64 - dg n l ∧ g = 64 - dg n l - k ∧ v = .int .i64 k ∧ (∃ q, wi = w.drewN q) ∧ Hid (∀ b, dg n l ≤ b → b < dg n l + k → R l b = []))
      case atStart => exact ⟨0, by omega, rfl, rfl, ⟨q, HW.out⟩, hid fun b h1 h2 => by omega⟩
      case round =>
        obtain ⟨k, hk, rfl, rfl, ⟨q2, hwq2⟩, HSame⟩ := hrel
        by_cases hk2 : k < 64 - dg n l
        · have hkz : (k : Int) < 64 - (dg n l : Int) := by omega
          have hrc := HR.out.rc l (dg n l + k) hl (by omega)
          have hrv := HR.out.rv l (dg n l + k) hl (by omega)
          unfold so at hrc
          have e0 : wr.cell? ⟨wb, 0, none⟩ = some (.int .i64 n) := by rw [hwq2]; exact hc0
          by_cases hemp : R l (dg n l + k) = []
          · obtain ⟨ao, c, hV⟩ : ∃ ao c, V l (dg n l + k) = .slice ao 0 c := by
              rw [hemp] at hrv
              rcases hrv.2 with ⟨e, _⟩ | ⟨g, cap, _, e, _⟩
              · exact ⟨_, _, e⟩
              · exact ⟨_, _, e⟩
            rw [hV] at hrc
            have e1 : wr.cell? ⟨wb, 2 + l * 64 + (dg n l + k), none⟩ = some (.slice ao 0 c) := by rw [hwq2]; exact hrc
            clear hrv hV hrc
            have HE := hid hemp
            have HW2 := hid hwq2
            clear hemp hwq2
            go_wp2_with fail
            go_quiet ((go_at_call 106; exact Calls.quiet_of_same (hq _)))
            go_wp2
            go_roundg (64 - dg n l - (k + 1))
            case measure => omega
            case rel => exact ⟨k + 1, by omega, rfl, by go_num, ⟨q2 + nq, by rw [HW2.out]; simp⟩, hid fun b h1 h2 => by
              by_cases e : b < dg n l + k
              · exact HSame.out b h1 e
              · obtain rfl : b = dg n l + k := by omega
                exact HE.out⟩
          · obtain ⟨g, cap, hV, hcells⟩ : ∃ g cap, V l (dg n l + k) = .slice (some ⟨g, 0, none⟩) (R l (dg n l + k)).length cap ∧ ∀ j, j < (R l (dg n l + k)).length → w.cell? ⟨g, j, none⟩ = some (.int .i64 ((R l (dg n l + k)).getD j 0)) := by
              rcases hrv.2 with ⟨_, e⟩ | ⟨g, cap, cur, e, rest⟩
              · exact absurd (List.length_eq_zero_iff.1 e) hemp
              · refine ⟨g, cap, e, fun j hj => ?_⟩
                have := hrv.cells (g := g) (by rw [e]; rfl) j (.int .i64 ((R l (dg n l + k)).getD j 0)) (by simp [List.getD, hj])
                rwa [Addr.add_lit, Nat.zero_add] at this
            rw [hV] at hrc
            have hslot := HI.out.slot l (dg n l + k) hl (by omega)
            have hfirst : ∀ i (t : Nat), i ∈ R l (dg n l + k) → aget T i = some (t : Int) → ∀ j (z : Nat), aget T j = some (z : Int) → j ∈ R l (dg n l + k) ∨ t < z := fun i t hi ht =>
              HI.out.first hl (by omega) HLow.out (fun b h1 h2 => HSame.out b h2 h1) hi ht
            have hll : (R l (dg n l + k)).length ≤ 1000000 := Nat.le_trans (HI.out.len hl (by omega)) hT
            generalize hids : R l (dg n l + k) = ids at *
            have hpos : 0 < ids.length := List.length_pos_iff.2 hemp
            have e1 : wr.cell? ⟨wb, 2 + l * 64 + (dg n l + k), none⟩ = some (.slice (some ⟨g, 0, none⟩) ids.length cap) := by rw [hwq2]; exact hrc
            have e2 : ∀ j, j < ids.length → wr.cell? ⟨g, j, none⟩ = some (.int .i64 (ids.getD j 0)) := fun j hj => by rw [hwq2]; exact hcells j hj
            have e3 : wr.cell? ⟨g, 0, none⟩ = some (.int .i64 (ids.getD 0 0)) := e2 0 hpos
            have e4 : wr.cell? ⟨wb, 1, none⟩ = some (.map (some mb)) := by rw [hwq2]; exact hc1
            have hrun : ∀ (q : Nat) (i : Int), (Instr.lookup 91 (.map (some mb)) (.int .i64 i) false).run Tryz.prog (wr.drewN q) = .ok (.int .i64 (tk T i)) (wr.drewN q) := fun q i => by
              have hm : IntMap (wr.drewN q) mb T := HR.out.mp.of_block (by rw [hwq2]; rfl)
              exact run_lookup Tryz.underlying91 Tryz.underlying3 (zero3 _) hm i
            clear hrv hV hrc hcells
            have HE := hid hemp
            have HW2 := hid hwq2
            have HD := hid hids
            have HS := hid hslot
            have HF := hid hfirst
            have E2 := hid e2
            have hne : ((ids.length : Int) == 0) = false := by simp; omega
            clear hemp hwq2 hids hslot hfirst e2
            go_wp2_with fail
            go_quiet ((go_at_call 106; exact Calls.quiet_of_same (hq _)))
            go_wp2_with fail
            go_quiet (fail)
            go_wp2_with fail
            obtain ⟨wo2, hwo2⟩ : ∃ wo2 : World, wo2 = wr := ⟨_, rfl⟩
            go_loopg [7, 51] ids.length (fun g v7 v51 wx => ∃ (j : Nat) (m : Int), j ≤ ids.length ∧ g = ids.length - j ∧ v51 = .int .i64 j ∧ v7 = .int .i64 m ∧ (∃ q, wx = wo2.drewN q) ∧ Hid (Least T ids j m))
            case atStart => exact ⟨0, tk T ids[0], by omega, rfl, rfl, rfl, ⟨_, by rw [hwo2]⟩, hid ⟨⟨ids[0], List.getElem_mem hpos, rfl⟩, by simp⟩⟩
            case round =>
              obtain ⟨j, m, hj, rfl, rfl, rfl, ⟨q3, hwq3⟩, HM⟩ := hrel
              by_cases hj2 : j < ids.length
              · have f1 : wr.cell? ⟨g, j, none⟩ = some (.int .i64 (ids.getD j 0)) := by rw [hwq3, hwo2]; exact E2.out j hj2
                have f2 : wr.cell? ⟨wb, 1, none⟩ = some (.map (some mb)) := by rw [hwq3, hwo2]; exact e4
                have f3 : ∀ (i : Int), (Instr.lookup 91 (.map (some mb)) (.int .i64 i) false).run Tryz.prog wr = .ok (.int .i64 (tk T i)) wr := fun i => by rw [hwq3, hwo2]; exact hrun _ i
                have HW3 := hid hwq3
                have HO2 := hid hwo2
                clear hwq3 hwo2 hrun e0 e1 e3 e4
                go_wp2
                go_roundg (ids.length - (j + 1))
                case measure => omega
                case rel => exact ⟨j + 1, _, by omega, rfl, by go_num, rfl, ⟨q3, HW3.out⟩, hid (HM.out.least hj2)⟩
              · have HW3 := hid hwq3
                have HO2 := hid hwo2
                clear hwq3 hwo2 hrun e0 e1 e3 e4
                go_wp2
                go_ret2
                refine ⟨⟨q2 + q3, by rw [HW3.out, HO2.out, HW2.out]; simp⟩, .inr ?_⟩
                obtain ⟨⟨i0, hi0, hm0⟩, hall⟩ := HM.out
                obtain ⟨t, ht, _⟩ := HS.out i0 hi0
                have hmt : m = (t : Int) := by rw [hm0]; unfold tk; rw [ht]; rfl
                refine ⟨i0, t, ht, fun z y hz => ?_, by rw [hmt]; rfl⟩
                obtain ⟨z', hz', _⟩ := HI.out.tick z y hz
                subst hz'
                rcases HF.out i0 t hi0 ht z z' hz with h1 | h1
                · rw [List.take_of_length_le (by omega)] at hall
                  have h2 := hall z h1
                  unfold tk at h2
                  rw [hz] at h2
                  rw [← hmt]; exact h2
                · omega
        · have HW2 := hid hwq2
          clear hwq2
          go_wp2
          go_roundg (7 - (l + 1))
          case measure => omega
          case rel => exact ⟨l + 1, by omega, rfl, by go_num, ⟨q2, HW2.out⟩, hid fun a b h1 h2 h3 => by
            by_cases e : a < l
            · exact HLow.out a b e h2 h3
            · obtain rfl : a = l := by omega
              exact HSame.out b h3 (by omega)⟩
    · go_wp2
      go_ret2
      exact ⟨⟨q, HW.out⟩, .inl ⟨HI.out.empty fun a b h1 h2 h3 => HLow.out a b (by omega) h2 h3, rfl⟩⟩
end Go.Proofs.YtlmnojbghgnniaaGreatDoor.Wh
