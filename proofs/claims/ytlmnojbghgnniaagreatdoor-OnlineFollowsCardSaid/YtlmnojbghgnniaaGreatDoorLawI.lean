/- The laws' small functions: sameInts. -/
import Derived.Test.YtlmnojbghgnniaaGreatDoorDis
namespace Go.Proofs.YtlmnojbghgnniaaGreatDoor.On
open Go.RowKit Bulk Ch

theorem intsAt_own {w : World} {base : Nat} {v : Value} {xs : List Int} {n : Nat} {e : TypeId} (hn : xs.length = n) (h : w.ownsRow base e 1 v n (xs.map (Value.int .i64))) : IntsAt w v xs := by
  have hcells := fun {g} => h.cells (g := g)
  rcases h.2 with ⟨h1, h2⟩ | ⟨g, cap, cur, rfl, _⟩
  · exact ⟨none, 0, by rw [h1, hn, h2], fun j hj => by omega⟩
  · refine ⟨some ⟨g, 0, none⟩, cap, by rw [hn], fun j hj => ⟨_, rfl, ?_⟩⟩
    exact hcells rfl j _ (by simp [hj])

theorem IntsAt.kept {w w' : World} {v : Value} {xs : List Int} (h : IntsAt w v xs) (ho : Only noB w w') : IntsAt w' v xs := by
  obtain ⟨p, c, h1, h2⟩ := h
  exact ⟨p, c, h1, fun j hj => by obtain ⟨a, e1, e2⟩ := h2 j hj; exact ⟨a, e1, ho.cell e2 id⟩⟩

set_option maxHeartbeats 1000000 in
set_option maxRecDepth 100000 in
theorem sameInts_any (xs ys : List Int) (va vb : Value) (w : World) (ha : IntsAt w va xs) (hb : IntsAt w vb ys) (hl : xs.length ≤ 1000000) (_ : ys.length ≤ 1000000) :
    Calls Tryz.prog 19 #[va, vb] w fun e w' => e = .returned (.bool (decide (xs = ys))) ∧ ∃ q, w' = w.drewN q := by
  obtain ⟨pa, ca, rfl, ka⟩ := ha
  obtain ⟨pb, cb, rfl, kb⟩ := hb
  have HA := hid ka
  have HB := hid kb
  clear ka kb
  by_cases hne : xs.length = ys.length
  · have HNe := hid hne
    rw [← hne]
    clear hne
    go_enter Tryz.func19, Tryz.ntmps19
    go_wp2_with fail
    go_loopg [5] xs.length (fun g v5 wr => ∃ i q : Nat, i ≤ xs.length ∧ g = xs.length - i ∧ v5 = .int .i64 i ∧ Hid (xs.take i = ys.take i) ∧ wr = w.drewN q)
    case atStart => exact ⟨0, 0, by omega, rfl, rfl, hid rfl, rfl⟩
    case round =>
      obtain ⟨i, q, hi, rfl, rfl, HT, rfl⟩ := hrel
      by_cases hi2 : i < xs.length
      · have hy : i < ys.length := by rw [← HNe.out]; exact hi2
        obtain ⟨a, rfl, k1⟩ := HA.out i hi2
        obtain ⟨b, rfl, k2⟩ := HB.out i hy
        have d2 : decide (i < xs.length) = true := by simpa using hi2
        have hi3 : (i : Int) < (xs.length : Int) := by omega
        by_cases he : xs[i] = ys[i]
        · have HE := hid (show xs.take (i + 1) = ys.take (i + 1) by rw [List.take_succ_eq_append_getElem hi2, List.take_succ_eq_append_getElem hy, HT.out, he])
          rw [← he] at k2
          generalize xs[i] = x at *
          have d1 : (x != x) = false := by simp
          clear he hy
          go_wp2_with fail
          go_quiet (fail)
          go_wp2_with fail
          go_roundg (xs.length - (i + 1))
          case measure => omega
          case rel => exact ⟨i + 1, _, by omega, rfl, by go_num, HE, by first | rfl | exact World.drewN_drewN _ _ _⟩
        · have HE := hid (show ¬ xs = ys from fun e => he (by subst e; rfl))
          have d1 : (xs[i] != ys[i]) = true := by simpa using he
          generalize xs[i] = x at *
          generalize ys[i] = y at *
          clear he hy
          go_wp2_with fail
          go_quiet (fail)
          go_wp2_with fail
          go_ret
          rw [decide_eq_false HE.out]
          exact ⟨rfl, _, by first | rfl | exact World.drewN_drewN _ _ _⟩
      · obtain rfl : i = xs.length := by omega
        clear hi hi2
        go_wp2_with fail
        go_ret
        have he : xs = ys := by
          have := HT.out
          rw [List.take_length] at this
          rw [this, List.take_of_length_le (by rw [HNe.out]; exact Nat.le_refl _)]
        rw [decide_eq_true he]
        exact ⟨rfl, q, rfl⟩
  · have d1 : ((xs.length : Int) != (ys.length : Int)) = true := by simp; omega
    have HE := hid (show ¬ xs = ys from fun e => hne (by rw [e]))
    clear hne
    go_enter Tryz.func19, Tryz.ntmps19
    go_wp2_with fail
    go_ret
    rw [decide_eq_false HE.out]
    exact ⟨rfl, 0, rfl⟩

theorem SrvAt.kept {w w' : World} {v : Value} {S : List Srv} (h : SrvAt w v S) (ho : Only noB w w') : SrvAt w' v S := by
  obtain ⟨p, c, e, hs⟩ := h
  exact ⟨p, c, e, fun j hj => by obtain ⟨a, h1, h2⟩ := hs j hj; exact ⟨a, h1, h2.kept ho id⟩⟩

theorem hyper_zero {S : List Srv} (h : (hyperOf S).2 ≠ 0) : hyperOf S = (0, (hyperOf S).2) := by
  unfold hyperOf at h ⊢
  split
  · rfl
  · rename_i h0
    rw [if_neg h0] at h
    split at h
    · rfl
    · split
      · rfl
      · rename_i h1; rw [if_neg h1] at h; exact absurd rfl h

end Go.Proofs.YtlmnojbghgnniaaGreatDoor.On
