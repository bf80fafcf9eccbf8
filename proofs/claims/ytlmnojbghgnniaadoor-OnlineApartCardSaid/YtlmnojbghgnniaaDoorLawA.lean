/- The laws' small functions: sameInts, able, known. -/
import Derived.Test.YtlmnojbghgnniaaDoorDis
namespace Go.Proofs.YtlmnojbghgnniaaDoor.On
open Go.RowKit Bulk Ch

theorem intsAt_own {w : World} {base : Nat} {v : Value} {xs : List Int} {n : Nat} {e : TypeId} (hn : xs.length = n) (h : w.ownsRow base e 1 v n (xs.map (Value.int .i64))) : IntsAt w v xs := by
  have hcells := fun {g} => h.cells (g := g)
  rcases h.2 with ⟨h1, h2⟩ | ⟨g, cap, cur, rfl, _⟩
  · exact ⟨none, 0, by rw [h1, hn, h2], fun j hj => by omega⟩
  · refine ⟨some ⟨g, 0, none⟩, cap, by rw [hn], fun j hj => ⟨_, rfl, ?_⟩⟩
    exact hcells rfl j _ (by simp [hj])

theorem IntsAt.kept {w w' : World} {v : Value} {xs : List Int} (h : IntsAt w v xs) (ho : Only noB w w') : IntsAt w' v xs := by
  obtain ⟨p, c, h1, h2⟩ := h
  exact ⟨p, c, h1, fun j hj => by obtain ⟨a, e1, e2⟩ := h2 j hj; exact ⟨a, e1, ho.cell e2 id⟩⟩

set_option maxHeartbeats 1000000 in
set_option maxRecDepth 100000 in
theorem sameInts_any (xs ys : List Int) (va vb : Value) (w : World) (ha : IntsAt w va xs) (hb : IntsAt w vb ys) (hl : xs.length ≤ 1000000) (_ : ys.length ≤ 1000000) :
    Calls Tryd.prog 13 #[va, vb] w fun e w' => e = .returned (.bool (decide (xs = ys))) ∧ ∃ q, w' = w.drewN q := by
  obtain ⟨pa, ca, rfl, ka⟩ := ha
  obtain ⟨pb, cb, rfl, kb⟩ := hb
  have HA := hid ka
  have HB := hid kb
  clear ka kb
  by_cases hne : xs.length = ys.length
  · have HNe := hid hne
    rw [← hne]
    clear hne
    go_enter Tryd.func13, Tryd.ntmps13
    go_wp2_with fail
    go_loopg [5] xs.length (fun g v5 wr => ∃ i q : Nat, i ≤ xs.length ∧ g = xs.length - i ∧ v5 = .int .i64 i ∧ Hid (xs.take i = ys.take i) ∧ wr = w.drewN q)
    case atStart => exact ⟨0, 0, by omega, rfl, rfl, hid rfl, rfl⟩
    case round =>
      obtain ⟨i, q, hi, rfl, rfl, HT, rfl⟩ := hrel
      by_cases hi2 : i < xs.length
      · have hy : i < ys.length := by rw [← HNe.out]; exact hi2
        obtain ⟨a, rfl, k1⟩ := HA.out i hi2
        obtain ⟨b, rfl, k2⟩ := HB.out i hy
        have d2 : decide (i < xs.length) = true := by simpa using hi2
        have hi3 : (i : Int) < (xs.length : Int) := by omega
        by_cases he : xs[i] = ys[i]
        · have HE := hid (show xs.take (i + 1) = ys.take (i + 1) by rw [List.take_succ_eq_append_getElem hi2, List.take_succ_eq_append_getElem hy, HT.out, he])
          rw [← he] at k2
          generalize xs[i] = x at *
          have d1 : (x != x) = false := by simp
          clear he hy
          go_wp2_with fail
          go_quiet (fail)
          go_wp2_with fail
          go_roundg (xs.length - (i + 1))
          case measure => omega
          case rel => exact ⟨i + 1, _, by omega, rfl, by go_num, HE, by first | rfl | exact World.drewN_drewN _ _ _⟩
        · have HE := hid (show ¬ xs = ys from fun e => he (by subst e; rfl))
          have d1 : (xs[i] != ys[i]) = true := by simpa using he
          generalize xs[i] = x at *
          generalize ys[i] = y at *
          clear he hy
          go_wp2_with fail
          go_quiet (fail)
          go_wp2_with fail
          go_ret
          rw [decide_eq_false HE.out]
          exact ⟨rfl, _, by first | rfl | exact World.drewN_drewN _ _ _⟩
      · obtain rfl : i = xs.length := by omega
        clear hi hi2
        go_wp2_with fail
        go_ret
        have he : xs = ys := by
          have := HT.out
          rw [List.take_length] at this
          rw [this, List.take_of_length_le (by rw [HNe.out]; exact Nat.le_refl _)]
        rw [decide_eq_true he]
        exact ⟨rfl, q, rfl⟩
  · have d1 : ((xs.length : Int) != (ys.length : Int)) = true := by simp; omega
    have HE := hid (show ¬ xs = ys from fun e => hne (by rw [e]))
    clear hne
    go_enter Tryd.func13, Tryd.ntmps13
    go_wp2_with fail
    go_ret
    rw [decide_eq_false HE.out]
    exact ⟨rfl, 0, rfl⟩

theorem SrvAt.kept {w w' : World} {v : Value} {S : List Srv} (h : SrvAt w v S) (ho : Only noB w w') : SrvAt w' v S := by
  obtain ⟨p, c, e, hs⟩ := h
  exact ⟨p, c, e, fun j hj => by obtain ⟨a, h1, h2⟩ := hs j hj; exact ⟨a, h1, h2.kept ho id⟩⟩

theorem hyper_zero {S : List Srv} (h : (hyperOf S).2 ≠ 0) : hyperOf S = (0, (hyperOf S).2) := by
  unfold hyperOf at h ⊢
  split
  · rfl
  · rename_i h0
    rw [if_neg h0] at h
    split at h
    · rfl
    · split
      · rfl
      · rename_i h1; rw [if_neg h1] at h; exact absurd rfl h

set_option maxHeartbeats 1000000 in
set_option maxRecDepth 100000 in
theorem able_any (S : List Srv) (v : Value) (w : World) (hv : SrvAt w v S) (hl0 : S.length ≤ 9223372036854775807) (hg : Ch.Hnd w) :
    Calls Tryd.prog 8 #[v] w fun e w' => Only noB w w' ∧ (((hyperOf S).2 ≠ 0 ∧ e = .returned (.tuple #[.pointer none, .int .i64 0, .bool true])) ∨
      ∃ h db, hyperOf S = (h, 0) ∧ e = .returned (.tuple #[.pointer (some ⟨db, 0, none⟩), .int .i64 h, .bool true]) ∧ Dis S h w' db 0 (Fr noB w w')) := by
  have HH := hid (Hyper_any S v w hv hl0 hg)
  have HV := hid hv
  have HG := hid hg
  clear hv hg
  go_enter Tryd.func8, Tryd.ntmps8
  go_wp2_with fail
  refine HH.out.mono ?_
  rintro e w1 ⟨rfl, ho1⟩
  have HO1 := hid ho1
  have HN := hid (dis_new S v w1 (SrvAt.kept HV.out ho1) hl0 (HG.out.kept ho1 id))
  clear ho1 HH
  go_wp2_with fail
  refine HN.out.mono ?_
  rintro e w2 ⟨ho2, hcase⟩
  clear HN
  have HO2 := hid ho2
  clear ho2
  rcases hcase with ⟨hne, rfl⟩ | ⟨h, db, hh, rfl, hD⟩
  · have HE := hid hne
    have hz := hyper_zero hne
    generalize hger : (hyperOf S).2 = er at *
    have HGe := hid hger
    rw [hz]
    clear hger
    have d1 : (er != er) = false := by simp
    have d2 : (er != 0) = true := by simpa using hne
    clear hne hz
    go_wp2_with fail
    go_ret3
    exact ⟨HO1.out.trans HO2.out (fun _ _ h => h), .inl ⟨by rw [HGe.out]; exact HE.out, rfl⟩⟩
  · rw [hh]
    have HD := hid (And.intro hh hD)
    clear hh hD
    go_wp2_with fail
    go_ret3
    have hs := HO1.out.size
    exact ⟨HO1.out.trans HO2.out (fun _ _ h => h), .inr ⟨h, db, HD.out.1, rfl, HD.out.2.mono fun b _ hb => .inr ⟨by have := (hb.resolve_left id).1; omega, (hb.resolve_left id).2⟩⟩⟩

def knownS : List Srv := [⟨5, 2, 4, 9⟩, ⟨10, 6, 0, 1⟩]

theorem knownS_hyper : hyperOf knownS = (10, 0) := by
  have ok : okL knownS := by
    refine ⟨fun s hs => ?_, by decide⟩
    simp only [knownS, List.mem_cons, List.not_mem_nil, or_false] at hs
    rcases hs with rfl | rfl <;> simp [Srv.ok]
  have h0 : servErr knownS = 0 := by
    rw [servErr, if_neg (by simp [knownS]), if_pos ok]
  have hl : lcmN (knownS.map fun s => s.p.toNat) 1 = some 10 := by decide
  rw [hyperOf, if_neg (by rw [h0]; simp), hl]
  simp only
  rw [if_neg (by decide)]

theorem known0 : (sysOf knownS).occ 0 = some 1 := by decide
theorem known4 : (sysOf knownS).occ 4 = some 0 := by decide
theorem knownU : untilOf knownS 0 ((sysOf knownS).st 0) (0 + 1) = 4 := by decide
theorem knownR : stList knownS 4 = [2, 2] := by decide

set_option maxHeartbeats 1000000 in
set_option maxRecDepth 100000 in
theorem known_any (w : World) (hg : Ch.Hnd w) :
    Calls Tryd.prog 7 #[] w fun e w' => e = .returned (.bool true) ∧ Only noB w w' := by
  obtain ⟨w0, hw0⟩ : ∃ y : World, y = w.alloc (.cells #[.int .i64 5, .int .i64 2, .int .i64 4, .int .i64 9, .int .i64 10, .int .i64 6, .int .i64 0, .int .i64 1] 39) := ⟨_, rfl⟩
  have ho : Only noB w w0 := by rw [hw0]; exact (Only.refl _ _).alloc _
  have hv : SrvAt w0 (.slice (some ⟨w.heap.size, 0, none⟩) 2 2) knownS := by
    refine ⟨_, 2, rfl, fun j hj => ⟨_, rfl, ?_⟩⟩
    match j, hj with
    | 0, _ => rw [hw0]; refine ⟨?_, ?_, ?_, ?_⟩ <;> simp [knownS, Addr.add]
    | 1, _ => rw [hw0]; refine ⟨?_, ?_, ?_, ?_⟩ <;> simp [knownS, Addr.add]
  have HN := hid (dis_new knownS _ w0 hv (by simp [knownS]) (hg.kept ho id))
  have HO := hid ho
  have HW := hid hw0
  clear ho hv hg
  go_enter Tryd.func7, Tryd.ntmps7
  go_wp2_with fail
  rw [← HW.out]
  clear hw0
  refine HN.out.mono ?_
  rintro e w1 ⟨ho1, hcase⟩
  rcases hcase with ⟨hne, _⟩ | ⟨h, db, hh, rfl, hD⟩
  · rw [knownS_hyper] at hne; exact absurd rfl hne
  · have hD1 := hid hD
    have HO1 := hid (HO.out.trans ho1 (fun _ _ h => h))
    have HH := hid hh
    have HOc := hid (dis_occ hD hh)
    rw [known0, show optI (some 1) + 1 = 2 from rfl] at HOc
    have HUn := hid (dis_until hD (by omega) hh)
    rw [knownU] at HUn
    clear ho1 hD hh HN
    go_wp2_with fail
    refine HOc.out.mono ?_
    rintro e w' ⟨rfl, rfl⟩
    clear HOc
    go_wp2_with fail
    refine HUn.out.mono ?_
    rintro e w2 ⟨rfl, q, rfl⟩
    clear HUn
    have hD2 := hD1.out.kept ((Only.refl noB _).drewN q) (fun _ _ _ e => e)
    have hAd := dis_adv (tt := 4) hD2 (by omega) (by omega) HH.out
    rw [show ((4 : Nat) : Int) = 4 from rfl] at hAd
    have HAd := hid hAd
    clear hD2 hAd
    go_wp2_with fail
    refine HAd.out.mono ?_
    rintro e w3 ⟨rfl, ho3, hD3⟩
    have HO3 := hid ho3
    have HD3 := hid hD3
    have HOc := hid (dis_occ hD3 HH.out)
    rw [known4, show optI (some 0) + 1 = 1 from rfl] at HOc
    clear ho3 HAd hD3
    go_wp2_with fail
    refine HOc.out.mono ?_
    rintro e w' ⟨rfl, rfl⟩
    clear HOc
    have hNow := dis_now HD3.out
    rw [show ((4 : Nat) : Int) = 4 from rfl] at hNow
    have HNow := hid hNow
    clear hNow
    go_wp2_with fail
    refine HNow.out.mono ?_
    rintro e w' ⟨rfl, rfl⟩
    clear HNow
    have hRs := dis_rests HD3.out (by simp [knownS])
    rw [knownR] at hRs
    have HRs := hid hRs
    clear hRs
    go_wp2_with fail
    refine HRs.out.mono ?_
    rintro e w4 ⟨v4, rfl, ho4, hw4⟩
    have hI4 := intsAt_own (by rfl) hw4
    have HO4 := hid ho4
    have HI4 := hid hI4
    clear ho4 hw4 hI4 HRs
    obtain ⟨w5, hw5⟩ : ∃ y : World, y = w4.alloc (.cells #[.int .i64 2, .int .i64 2] 3) := ⟨_, rfl⟩
    have ho5 : Only noB w4 w5 := by rw [hw5]; exact (Only.refl _ _).alloc _
    have hI5 : IntsAt w5 (.slice (some ⟨w4.heap.size, 0, none⟩) 2 2) [2, 2] := by
      refine ⟨_, 2, rfl, fun j hj => ⟨_, rfl, ?_⟩⟩
      match j, hj with
      | 0, _ => rw [hw5]; simp [Addr.add]
      | 1, _ => rw [hw5]; simp [Addr.add]
    have HSm := hid (sameInts_any [2, 2] [2, 2] v4 _ w5 (IntsAt.kept HI4.out ho5) hI5 (by simp) (by simp))
    have HO5 := hid ho5
    have HW5 := hid hw5
    rw [show decide (([2, 2] : List Int) = [2, 2]) = true by decide] at HSm
    clear ho5 hI5 hw5
    go_wp2_with fail
    rw [← HW5.out]
    refine HSm.out.mono ?_
    rintro e w6 ⟨rfl, q6, rfl⟩
    go_wp2_with fail
    go_ret
    refine ⟨rfl, (((HO1.out.drewN q).trans HO3.out fun x hx e => ?_).trans (HO4.out.trans HO5.out (fun _ _ h => h)) (fun _ _ h => h)).drewN q6⟩
    have := HO.out.size
    have := (e.resolve_left id).1
    omega
end Go.Proofs.YtlmnojbghgnniaaDoor.On
