/- The document's rule: Released, Chosen. -/
import Derived.Test.YtlmnojbghgnniaaGreatDoorRefE
import Derived.Test.YtlmnojbghgnniaaGreatDoorSpoiltI
namespace Bulk
open Go Go.RowKit

/-- The rests at a tick, from those that the tick ahead has left. -/
def relF (S : List Srv) (r : Nat → Int) (t : Nat) (i : Nat) : Int := if (sysOf S).rel i (t : Int) then (sysOf S).B i else r i

def rList (S : List Srv) (r : Nat → Int) : List Int := (List.range S.length).map r

theorem rList_len (S : List Srv) (r : Nat → Int) : (rList S r).length = S.length := by simp [rList]
theorem rList_at (S : List Srv) (r : Nat → Int) (i : Nat) (hi : i < (rList S r).length) : (rList S r)[i] = r i := by simp [rList]
end Bulk

namespace Go.Proofs.YtlmnojbghgnniaaGreatDoor.Ref
open Go.RowKit Bulk Ch On

set_option maxHeartbeats 2000000 in
set_option maxRecDepth 100000 in
theorem released_any (S : List Srv) (r : Nat → Int) (t : Nat) (v v1 : Value) (w : World) (hv : SrvAt w v S) (hr : IntsAt w v1 (rList S r)) (ok : okL S) (hl : S.length ≤ 32) (ht : t < 1099511627776) :
    Calls Tryz.prog 36 #[v, v1, .int .i64 t] w fun e w' => ∃ v', e = .returned v' ∧ Only noB w w' ∧ w'.ownsRow w.heap.size 3 1 v' S.length ((rList S (relF S r t)).map (Value.int .i64)) := by
  obtain ⟨pv, cv, rfl, hsv⟩ := hv
  obtain ⟨pr, cr, rfl, hsr⟩ := hr
  rw [rList_len]
  have HV := hid hsv
  have HI := hid hsr
  have HT := hid ht
  clear hsv hsr ht
  obtain ⟨i0, hii, hz0, hz1, hz2⟩ := info_parts Ch.info3
  go_enter Tryz.func36, Tryz.ntmps36
  go_wp2_with fail
  go_loopg [7, 8] S.length (fun g v7 v8 wr => ∃ i : Nat, i ≤ S.length ∧ g = S.length - i ∧ v8 = .int .i64 i ∧ Hid (Only noB w wr ∧ wr.ownsRow w.heap.size 3 1 v7 i (((List.range i).map (relF S r t)).map (Value.int .i64))))
  case atStart => exact ⟨0, by omega, rfl, rfl, hid ⟨Only.refl _ _, by simpa using World.ownsRow_nil _ _ _ _⟩⟩
  case round =>
    obtain ⟨i, hi, rfl, rfl, HR⟩ := hrel
    by_cases hi2 : i < S.length
    · have d1 : decide (i < S.length) = true := by simpa using hi2
      have hin : (i : Int) < (S.length : Int) := by omega
      obtain ⟨a, rfl, hat⟩ := HV.out i hi2
      obtain ⟨s1, s2, s3, s4⟩ := hat.kept HR.out.1 id
      obtain ⟨b, rfl, hbc⟩ := HI.out i (by rw [rList_len]; exact hi2)
      rw [rList_at] at hbc
      have hbr := HR.out.1.cell hbc id
      have hsrv := ok.1 S[i] (List.getElem_mem hi2)
      obtain ⟨e1, e2, e3, e4⟩ := sysOf_at hi2
      obtain ⟨⟨p1, p2⟩, _, ⟨o1, o2⟩, _⟩ := hsrv
      obtain ⟨pn, hp⟩ : ∃ pn : Nat, S[i].p = pn := ⟨_, (Int.toNat_of_nonneg (show 0 ≤ S[i].p by omega)).symm⟩
      obtain ⟨ofs, ho⟩ : ∃ ofs : Nat, S[i].o = ofs := ⟨_, (Int.toNat_of_nonneg o1).symm⟩
      rw [hp] at s1 p1 p2 o2 e1
      rw [ho] at s3 o2 e3
      have hown := HR.out.2
      have hsz := HR.out.1.size
      generalize hBi : S[i].b = bi at *
      generalize S[i].q = qi at *
      generalize hri : r i = ri at *
      have hbA : ∀ o, (wr.alloc o).cell? (b.add i) = some (.int .i64 ri) := fun o => cell_alloc_keep hbr o
      by_cases h1 : ofs ≤ t
      · have d3 : decide (ofs ≤ t) = true := by simpa using h1
        have e5 : IntKind.i64.wrap ((t : Int) - ofs) = ((t - ofs : Nat) : Int) := by have := HT.out; rw [IntWalk.i64_in _ (by omega)]; omega
        have e6 : Int.tmod ((t - ofs : Nat) : Int) (pn : Int) = (((t - ofs) % pn : Nat) : Int) := (Int.ofNat_tmod _ _).symm
        have e7 : ¬ (pn : Int) = 0 := by omega
        have hrel : (sysOf S).rel i (t : Int) ↔ (t - ofs) % pn = 0 := by
          unfold Sys.rel
          rw [e1, e3, show ((t : Int) - (ofs : Int)) = ((t - ofs : Nat) : Int) by omega, ← Int.natCast_emod]
          constructor
          · rintro ⟨_, h⟩; omega
          · intro h; exact ⟨by omega, by omega⟩
        by_cases h2 : (t - ofs) % pn = 0
        · have HX := hid (show relF S r t i = bi by rw [relF, if_pos (hrel.2 h2), e2])
          rw [h2] at e6
          generalize t - ofs = df at *
          clear hrel h1 h2 hbc hbr e1 e2 e3 e4 p1 p2 o1 o2 hp ho hBi hri
          go_wp2_with (at_builtin; refine wpList_append_own _ rfl (.tmp 34) (.tmp 37) 23 rfl w.heap.size 3 i0 (.int .i64 0) 1 8 Tryz.underlying23 hii hz0 hz1 hz2 rfl (by decide) _ i _ rfl ((hown.alloc _).alloc _) ⟨wr.heap.size + 1, 0, none⟩ 1 1 [.int .i64 bi] rfl rfl ?c1 ?c2 ?c3 ?c4 ?c5 ?_)
          case c1 =>
            intro k u hk
            match k, hk with
            | 0, hk => simp at hk; subst hk; simp [Addr.add]
          case c2 => intro u hu; simp at hu; subst hu; rfl
          case c3 => unfold maxLen; omega
          case c4 => omega
          case c5 => simp; omega
          intro v1 w2 ho1 hg1 _
          have HN := hid (show Only noB w w2 ∧ w2.ownsRow w.heap.size 3 1 v1 (i + 1) (((List.range (i + 1)).map (relF S r t)).map (Value.int .i64)) from
            ⟨((HR.out.1.alloc _).alloc _).grown hg1 fun k e => .inr (hown.lt k e).1, by
              rw [List.range_succ, List.map_append, List.map_append]
              simp only [List.map_cons, List.map_nil]
              rw [show relF S r t i = bi from HX.out]
              rw [List.map_map]
              exact ho1⟩)
          clear ho1 hg1 hown
          go_wp2_with fail
          go_roundg (S.length - (i + 1))
          case measure => omega
          case rel => exact ⟨i + 1, by omega, rfl, by go_num, HN⟩
        · have HX := hid (show relF S r t i = ri by rw [relF, if_neg (fun h => h2 (hrel.1 h)), hri])
          have d4 : ((((t - ofs) % pn : Nat) : Int) == 0) = false := by simp; omega
          generalize (t - ofs) % pn = md at *
          generalize t - ofs = df at *
          clear hrel h1 h2 hbc hbr e1 e2 e3 e4 p1 p2 o1 o2 hp ho hBi hri
          go_wp2_with (at_builtin; refine wpList_append_own _ rfl (.tmp 39) (.tmp 44) 23 rfl w.heap.size 3 i0 (.int .i64 0) 1 8 Tryz.underlying23 hii hz0 hz1 hz2 rfl (by decide) _ i _ rfl ((hown.alloc _).alloc _) ⟨wr.heap.size + 1, 0, none⟩ 1 1 [.int .i64 ri] rfl rfl ?c1 ?c2 ?c3 ?c4 ?c5 ?_)
          case c1 =>
            intro k u hk
            match k, hk with
            | 0, hk => simp at hk; subst hk; simp [Addr.add]
          case c2 => intro u hu; simp at hu; subst hu; rfl
          case c3 => unfold maxLen; omega
          case c4 => omega
          case c5 => simp; omega
          intro v1 w2 ho1 hg1 _
          have HN := hid (show Only noB w w2 ∧ w2.ownsRow w.heap.size 3 1 v1 (i + 1) (((List.range (i + 1)).map (relF S r t)).map (Value.int .i64)) from
            ⟨((HR.out.1.alloc _).alloc _).grown hg1 fun k e => .inr (hown.lt k e).1, by
              rw [List.range_succ, List.map_append, List.map_append]
              simp only [List.map_cons, List.map_nil]
              rw [show relF S r t i = ri from HX.out]
              rw [List.map_map]
              exact ho1⟩)
          clear ho1 hg1 hown
          go_wp2_with fail
          go_roundg (S.length - (i + 1))
          case measure => omega
          case rel => exact ⟨i + 1, by omega, rfl, by go_num, HN⟩
      · have d3 : decide (ofs ≤ t) = false := by simpa using h1
        have HX := hid (show relF S r t i = ri by rw [relF, if_neg (fun h => by have := h.1; rw [e3] at this; omega), hri])
        clear h1 hbc hbr e1 e2 e3 e4 p1 p2 o1 o2 hp ho hBi hri
        go_wp2_with (at_builtin; refine wpList_append_own _ rfl (.tmp 39) (.tmp 44) 23 rfl w.heap.size 3 i0 (.int .i64 0) 1 8 Tryz.underlying23 hii hz0 hz1 hz2 rfl (by decide) _ i _ rfl ((hown.alloc _).alloc _) ⟨wr.heap.size + 1, 0, none⟩ 1 1 [.int .i64 ri] rfl rfl ?c1 ?c2 ?c3 ?c4 ?c5 ?_)
        case c1 =>
          intro k u hk
          match k, hk with
          | 0, hk => simp at hk; subst hk; simp [Addr.add]
        case c2 => intro u hu; simp at hu; subst hu; rfl
        case c3 => unfold maxLen; omega
        case c4 => omega
        case c5 => simp; omega
        intro v1 w2 ho1 hg1 _
        have HN := hid (show Only noB w w2 ∧ w2.ownsRow w.heap.size 3 1 v1 (i + 1) (((List.range (i + 1)).map (relF S r t)).map (Value.int .i64)) from
          ⟨((HR.out.1.alloc _).alloc _).grown hg1 fun k e => .inr (hown.lt k e).1, by
            rw [List.range_succ, List.map_append, List.map_append]
            simp only [List.map_cons, List.map_nil]
            rw [show relF S r t i = ri from HX.out]
            rw [List.map_map]
            exact ho1⟩)
        clear ho1 hg1 hown
        go_wp2_with fail
        go_roundg (S.length - (i + 1))
        case measure => omega
        case rel => exact ⟨i + 1, by omega, rfl, by go_num, HN⟩
    · obtain rfl : i = S.length := by omega
      have d1 : decide (S.length < S.length) = false := by simp
      clear hi hi2
      go_wp2_with fail
      go_ret
      exact ⟨_, rfl, HR.out.1, HR.out.2⟩

set_option maxHeartbeats 2000000 in
set_option maxRecDepth 100000 in
theorem chosen_any (S : List Srv) (r : Nat → Int) (v v1 : Value) (w : World) (hv : SrvAt w v S) (hr : IntsAt w v1 (rList S r)) (hl : S.length ≤ 32) :
    Calls Tryz.prog 38 #[v, v1] w fun e w' => e = .returned (.int .i64 (optI ((sysOf S).pick r S.length) + 1)) ∧ ∃ q, w' = w.drewN q := by
  obtain ⟨pv, cv, rfl, hsv⟩ := hv
  obtain ⟨pr, cr, rfl, hsr⟩ := hr
  rw [rList_len]
  have HV := hid hsv
  have HI := hid hsr
  clear hsv hsr
  go_enter Tryz.func38, Tryz.ntmps38
  go_wp2_with fail
  go_loopg [5, 6] S.length (fun g v5 v6 wr => ∃ (i q : Nat), i ≤ S.length ∧ g = S.length - i ∧ v6 = .int .i64 i ∧ v5 = .int .i64 (optI ((sysOf S).pick r i) + 1) ∧ wr = w.drewN q)
  case atStart => exact ⟨0, 0, by omega, rfl, rfl, rfl, rfl⟩
  case round =>
    obtain ⟨i, q, hi, rfl, rfl, rfl, rfl⟩ := hrel
    by_cases hi2 : i < S.length
    · have d1 : decide (i < S.length) = true := by simpa using hi2
      have hin : (i : Int) < (S.length : Int) := by omega
      obtain ⟨a, rfl, hat⟩ := HV.out i hi2
      have s4 := hat.2.2.2
      have eq4 := (sysOf_at hi2).2.2.2
      rw [← eq4] at s4
      obtain ⟨b, rfl, hbc⟩ := HI.out i (by rw [rList_len]; exact hi2)
      rw [rList_at] at hbc
      have hstep : (sysOf S).pick r (i + 1) = match (sysOf S).pick r i with
        | none => if 0 < r i then some i else none
        | some j => if 0 < r i ∧ (sysOf S).Q j < (sysOf S).Q i then some i else some j := rfl
      by_cases hp : 0 < r i
      · have d2 : decide (0 < r i) = true := by simpa using hp
        cases hpk : (sysOf S).pick r i with
        | none =>
          rw [hpk] at hstep
          have HN := hid (show (sysOf S).pick r (i + 1) = some i by rw [hstep]; simp [hp])
          rw [show optI none + 1 = (0 : Int) from rfl]
          have d3 : ((0 : Int) == 0) = true := by decide
          generalize hri : r i = ri at *
          clear hpk hstep eq4 hp hri hat
          go_wp2_with fail
          go_quiet (fail)
          go_wp2_with fail
          go_roundg (S.length - (i + 1))
          case measure => omega
          case rel => exact ⟨i + 1, _, by omega, rfl, by go_num, by rw [HN.out]; rfl, by first | rfl | exact World.drewN_drewN _ _ _⟩
        | some j =>
          rw [hpk] at hstep
          have hj := (Sys.pick_some hpk).1
          have hj2 : j < S.length := by omega
          obtain ⟨a', hae, hat'⟩ := HV.out j hj2
          obtain rfl := Option.some.inj hae
          have t4 := hat'.2.2.2
          have eq5 := (sysOf_at hj2).2.2.2
          rw [← eq5] at t4
          have hjn : (j : Int) < (S.length : Int) := by omega
          rw [show optI (some j) + 1 = (j : Int) + 1 from rfl]
          have d3 : ((j : Int) + 1 == 0) = false := by simp; omega
          have e7 : IntKind.i64.wrap ((j : Int) + 1 - 1) = (j : Int) := by rw [IntWalk.i64_in _ (by omega)]; omega
          by_cases hq : (sysOf S).Q j < (sysOf S).Q i
          · have HN := hid (show (sysOf S).pick r (i + 1) = some i by rw [hstep]; simp [hp, hq])
            have d4 : decide ((sysOf S).Q j < (sysOf S).Q i) = true := by simpa using hq
            generalize r i = ri at *
            generalize (sysOf S).Q j = qj at *
            generalize (sysOf S).Q i = qi at *
            clear hpk hstep eq4 eq5 hp hq hat hat' hae hj hj2
            go_wp2_with fail
            go_quiet (fail)
            go_wp2_with fail
            go_roundg (S.length - (i + 1))
            case measure => omega
            case rel => exact ⟨i + 1, _, by omega, rfl, by go_num, by rw [HN.out]; rfl, by first | rfl | exact World.drewN_drewN _ _ _⟩
          · have HN := hid (show (sysOf S).pick r (i + 1) = some j by rw [hstep]; simp [hp, hq])
            have d4 : decide ((sysOf S).Q j < (sysOf S).Q i) = false := by simpa using hq
            generalize r i = ri at *
            generalize (sysOf S).Q j = qj at *
            generalize (sysOf S).Q i = qi at *
            clear hpk hstep eq4 eq5 hp hq hat hat' hae hj hj2
            go_wp2_with fail
            go_quiet (fail)
            go_wp2_with fail
            go_roundg (S.length - (i + 1))
            case measure => omega
            case rel => exact ⟨i + 1, _, by omega, rfl, by go_num, by rw [HN.out]; rfl, by first | rfl | exact World.drewN_drewN _ _ _⟩
      · have d2 : decide (0 < r i) = false := by simpa using hp
        have HN := hid (show (sysOf S).pick r (i + 1) = (sysOf S).pick r i by
          rw [hstep]
          cases (sysOf S).pick r i with
          | none => simp [hp]
          | some j => simp [hp])
        rw [← HN.out]
        generalize r i = ri at *
        clear hstep eq4 hp hat
        go_wp2_with fail
        go_quiet (fail)
        go_wp2_with fail
        go_roundg (S.length - (i + 1))
        case measure => omega
        case rel => exact ⟨i + 1, _, by omega, rfl, by go_num, rfl, by first | rfl | exact World.drewN_drewN _ _ _⟩
    · obtain rfl : i = S.length := by omega
      have d1 : decide (S.length < S.length) = false := by simp
      clear hi hi2
      go_wp2_with fail
      go_ret
      exact ⟨rfl, q, rfl⟩
end Go.Proofs.YtlmnojbghgnniaaGreatDoor.Ref
