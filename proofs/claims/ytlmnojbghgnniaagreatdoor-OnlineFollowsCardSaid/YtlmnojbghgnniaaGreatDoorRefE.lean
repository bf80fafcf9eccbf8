/- The document's Servers, hyper, Hyper. -/
import Derived.Test.YtlmnojbghgnniaaGreatDoorRefB
namespace Go.Proofs.YtlmnojbghgnniaaGreatDoor.Ref
open Go.RowKit Bulk Ch On

set_option maxHeartbeats 2000000 in
set_option maxRecDepth 100000 in
theorem rservers_any (S : List Srv) (v : Value) (w : World) (hv : SrvAt w v S) (hl : S.length ≤ 9223372036854775807) :
    Calls Tryz.prog 34 #[v] w fun e w' => ∃ k : Int, e = .returned (.tuple #[.int .i64 (servErr S), .int .i64 k]) ∧ Only noB w w' := by
  have HV := hid hv
  obtain ⟨p, cap, rfl, hc⟩ := hv
  clear hc
  by_cases h32 : 32 < S.length
  · have d1 : decide ((32 : Int) < S.length) = true := by simp; omega
    have HE := hid (show servErr S = 100 by simp [servErr, h32])
    clear h32
    go_enter Tryz.func34, Tryz.ntmps34
    go_wp2_with fail
    go_ret2
    rw [HE.out]
    exact ⟨0, rfl, Only.refl _ _⟩
  · have d1 : decide ((32 : Int) < S.length) = false := by simp; omega
    have H32 := hid h32
    clear h32
    go_enter Tryz.func34, Tryz.ntmps34
    go_wp2_with fail
    go_loopg [4] S.length (fun g v4 wr => ∃ i : Nat, i ≤ S.length ∧ g = S.length - i ∧ v4 = .int .i64 i ∧ Hid (okL (S.take i) ∧ Only noB w wr))
    case atStart => exact ⟨0, by omega, rfl, rfl, hid ⟨⟨by simp, by simp⟩, Only.refl _ _⟩⟩
    case round =>
      obtain ⟨i, hi, rfl, rfl, HS⟩ := hrel
      by_cases hi2 : i < S.length
      · have d2 : decide (i < S.length) = true := by simpa using hi2
        have HSv := hid (server_any S _ wr (SrvAt.kept HV.out HS.out.2) (by have := H32.out; omega) i hi2)
        have hib : (i : Int) ≤ 32 := by have := H32.out; omega
        go_wp2_with fail
        refine HSv.out.mono ?_
        rintro e w1 ⟨b, rfl, ho1, hb⟩
        have HO1 := hid (HS.out.2.trans ho1 (fun _ _ h => h))
        clear ho1 HSv
        cases b with
        | false =>
          have HE := hid (show servErr S = 101 by
            rw [servErr, if_neg H32.out, if_neg]
            intro hok
            have hn : ¬ srvOk S i hi2 := fun h => by have := hb.2 h; cases this
            by_cases h1 : S[i].ok
            · by_cases h2 : S[i].q ∈ (S.take i).map Srv.q
              · exact not_okL_seen hi2 h2 hok
              · exact hn ⟨h1, h2⟩
            · exact not_okL_mem hi2 h1 hok)
          clear hb
          go_wp2_with fail
          go_ret2
          rw [HE.out]
          exact ⟨_, rfl, HO1.out⟩
        | true =>
          have HN := hid (show okL (S.take (i + 1)) ∧ Only noB w w1 from ⟨okL_take hi2 HS.out.1 (hb.1 rfl).1 (hb.1 rfl).2, HO1.out⟩)
          clear hb
          go_wp2_with fail
          go_roundg (S.length - (i + 1))
          case measure => omega
          case rel => exact ⟨i + 1, by omega, rfl, by go_num, HN⟩
      · obtain rfl : i = S.length := by omega
        have d2 : decide (S.length < S.length) = false := by simp
        have hok := HS.out.1
        rw [List.take_length] at hok
        have HE := hid (show servErr S = 0 by rw [servErr, if_neg H32.out, if_pos hok])
        clear hi hi2 hok
        go_wp2_with fail
        go_ret2
        rw [HE.out]
        exact ⟨0, rfl, HS.out.2⟩

theorem info2 : (Tryz.prog.info? 2).map (fun i => (i.zero, i.size, i.bytes)) = some (some (.int .i64 0), 1, 8) := by kernel_rfl

set_option maxHeartbeats 2000000 in
set_option maxRecDepth 100000 in
theorem rhyper_any (S : List Srv) (v : Value) (w : World) (hv : SrvAt w v S) (hl : S.length ≤ 32) (ok : okL S) :
    Calls Tryz.prog 35 #[v] w fun e w' => e = .returned (.tuple #[.int .i64 ((lcmN (S.map fun s => s.p.toNat) 1).getD 0 : Nat), .bool (lcmN (S.map fun s => s.p.toNat) 1).isSome]) ∧ Only noB w w' := by
  obtain ⟨p, cap, rfl, hc⟩ := hv
  have HC := hid hc
  have HOk := hid ok
  clear hc ok
  obtain ⟨i0, hi, hz0, hz1, hz2⟩ := info_parts info2
  go_enter Tryz.func35, Tryz.ntmps35
  go_wp2_with fail
  go_loopg [4, 5] S.length (fun g v4 v5 wr => ∃ i : Nat, i ≤ S.length ∧ g = S.length - i ∧ v5 = .int .i64 i ∧ Hid (Only noB w wr ∧ wr.ownsRow w.heap.size 2 1 v4 i (((S.take i).map Srv.p).map (Value.int .i64))))
  case atStart => exact ⟨0, by omega, rfl, rfl, hid ⟨Only.refl _ _, by simpa using World.ownsRow_nil _ _ _ _⟩⟩
  case round =>
    obtain ⟨i, hi1, rfl, rfl, HS⟩ := hrel
    by_cases hi2 : i < S.length
    · obtain ⟨a, rfl, hat⟩ := HC.out i hi2
      obtain ⟨hc1, hc2, hc3, hc4⟩ := hat.kept HS.out.1 id
      have d2 : decide (i < S.length) = true := by simpa using hi2
      have hin : (i : Int) < (S.length : Int) := by omega
      have hown := HS.out.2
      have hsw := HS.out.1.size
      have HTk := hid (show ((S.take (i + 1)).map Srv.p).map (Value.int .i64) = ((S.take i).map Srv.p).map (Value.int .i64) ++ [.int .i64 S[i].p] by rw [List.take_succ_eq_append_getElem hi2, List.map_append, List.map_append]; rfl)
      generalize S[i].p = x at *
      clear hat hc2 hc3 hc4
      go_wp2_with (at_builtin; refine wpList_append_own _ rfl (.tmp 14) (.tmp 20) 88 rfl w.heap.size 2 i0 (.int .i64 0) 1 8 Tryz.underlying88 hi hz0 hz1 hz2 rfl (by decide) _ i _ rfl (hown.alloc _) ⟨wr.heap.size, 0, none⟩ 1 1 [.int .i64 x] rfl rfl ?c1 ?c2 ?c3 ?c4 ?c5 ?_)
      case c1 =>
        intro j u hj
        match j, hj with
        | 0, hj => simp at hj; subst hj; simp [Addr.add]
      case c2 => intro u hu; simp at hu; subst hu; rfl
      case c3 => unfold maxLen; omega
      case c4 => omega
      case c5 => simp; omega
      intro v1 w1 ho1 hg1 _
      have HN := hid (show Only noB w w1 ∧ w1.ownsRow w.heap.size 2 1 v1 (i + 1) (((S.take (i + 1)).map Srv.p).map (Value.int .i64)) from ⟨(HS.out.1.alloc _).grown hg1 fun k e => .inr (hown.lt k e).1, by rw [HTk.out]; simpa using ho1⟩)
      clear ho1 hg1 hown hsw
      go_wp2_with fail
      go_roundg (S.length - (i + 1))
      case measure => omega
      case rel => exact ⟨i + 1, by omega, rfl, by go_num, HN⟩
    · obtain rfl : i = S.length := by omega
      have d2 : decide (S.length < S.length) = false := by simp
      have HL := hid (rlcm_any (S.map fun s => s.p.toNat) u4 wr (by
        have h := intsAt_own (xs := S.map Srv.p) (by simp) (show wr.ownsRow w.heap.size 2 1 u4 S.length ((S.map Srv.p).map (Value.int .i64)) by have := HS.out.2; rw [List.take_length] at this; exact this)
        have e : List.map (Nat.cast : Nat → Int) (S.map fun s => s.p.toNat) = S.map Srv.p := by
          rw [List.map_map]
          exact List.map_congr_left fun s hs => by have := (HOk.out.1 s hs).1.1; simp only [Function.comp]; omega
        rw [e]; exact h) (fun x hx => by
          obtain ⟨s, hs, rfl⟩ := List.mem_map.1 hx
          have := (HOk.out.1 s hs).1; omega) (by simp; omega))
      clear hi1 hi2
      obtain ⟨R, hRe⟩ : ∃ R, R = lcmN (S.map fun s => s.p.toNat) 1 := ⟨_, rfl⟩
      rw [← hRe] at HL
      have HRe := hid hRe
      clear hRe
      go_wp2_with fail
      refine HL.out.mono ?_
      rintro e w1 ⟨rfl, q, rfl⟩
      clear HL
      go_wp2_with fail
      go_ret2
      exact ⟨by rw [← HRe.out]; rfl, HS.out.1.drewN q⟩

set_option maxHeartbeats 4000000 in
set_option maxRecDepth 100000 in
theorem rHyper_any (S : List Srv) (v : Value) (w : World) (hv : SrvAt w v S) (hl : S.length ≤ 9223372036854775807) :
    Calls Tryz.prog 15 #[v] w fun e w' => e = .returned (.tuple #[.int .i64 (hyperOf S).1, .int .i64 (hyperOf S).2]) ∧ Only noB w w' := by
  have HS := hid (rservers_any S v w hv hl)
  have HV := hid hv
  obtain ⟨p, cap, rfl, hc⟩ := hv
  have HC := hid hc
  clear hc
  go_enter Tryz.func15, Tryz.ntmps15
  go_wp2_with fail
  refine HS.out.mono ?_
  rintro e w1 ⟨kk, rfl, ho1⟩
  have HO1 := hid ho1
  clear ho1 HS
  by_cases hz : servErr S = 0
  · rw [hz]
    obtain ⟨hl32, hok⟩ := servErr_zero hz
    have HHy := hid (show hyperOf S = match lcmN (S.map fun s => s.p.toNat) 1 with | none => (0, 102) | some h => if 65536 < relSum (S.map fun s => s.p.toNat) h then (0, 103) else (h, 0) by rw [hyperOf, if_neg (by simpa using hz)]; rfl)
    have HOk := hid hok
    have HR := hid (rhyper_any S _ w1 (SrvAt.kept HV.out HO1.out) hl32 hok)
    clear hz hok
    go_wp2_with fail
    refine HR.out.mono ?_
    rintro e w2 ⟨rfl, ho2⟩
    have HO2 := hid (HO1.out.trans ho2 (fun _ _ h => h))
    clear ho2 HR
    cases hR : lcmN (S.map fun s => s.p.toNat) 1 with
    | none =>
      have HH := hid (show hyperOf S = (0, 102) by rw [HHy.out, hR])
      clear hR
      go_wp2_with fail
      go_ret2
      rw [HH.out]
      exact ⟨rfl, HO2.out⟩
    | some h =>
      have HH := hid (show hyperOf S = if 65536 < relSum (S.map fun s => s.p.toNat) h then (0, 103) else (h, 0) by rw [HHy.out, hR])
      obtain ⟨hh1, hh2, _, _⟩ := lcmN_le _ 1 h (by omega) (by omega) hR (fun x hx => by obtain ⟨s, hs, rfl⟩ := List.mem_map.1 hx; have := (HOk.out.1 s hs).1; omega)
      clear hR
      rw [show (some h).getD 0 = h from rfl, show (some h).isSome = true from rfl]
      go_wp2_with fail
      go_loopg [8, 9] S.length (fun g v8 v9 wr => ∃ i s : Nat, i ≤ S.length ∧ g = S.length - i ∧ v9 = .int .i64 i ∧ v8 = .int .i64 s ∧ Hid (s = relSum ((S.map fun s => s.p.toNat).take i) h ∧ s ≤ i * 2097152) ∧ wr = w2)
      case atStart => exact ⟨0, 0, by omega, rfl, rfl, rfl, hid ⟨rfl, by omega⟩, rfl⟩
      case round =>
        obtain ⟨i, s, hi1, rfl, rfl, rfl, HSum, rfl⟩ := hrel
        by_cases hi2 : i < S.length
        · obtain ⟨a, rfl, hat⟩ := HC.out i hi2
          obtain ⟨hc1, hc2, hc3, hc4⟩ := hat.kept HO2.out id
          have hx := (HOk.out.1 S[i] (List.getElem_mem _)).1
          have hsum := HSum.out
          have htk : relSum ((S.map fun s => s.p.toNat).take (i + 1)) h = relSum ((S.map fun s => s.p.toNat).take i) h + 2 * h / S[i].p.toNat := by
            rw [relSum, List.take_succ_eq_append_getElem (by simpa using hi2), List.map_append, List.sum_append]; simp [relSum]
          obtain ⟨x, hxe⟩ : ∃ x : Nat, S[i].p = x := ⟨S[i].p.toNat, by omega⟩
          rw [hxe] at hc1 hx htk
          rw [Int.toNat_natCast] at htk
          have e1 : IntKind.i64.wrap ((2 : Int) * h) = ((2 * h : Nat) : Int) := by rw [IntWalk.i64_in _ (by omega)]; omega
          have e2 : Int.tdiv ((2 * h : Nat) : Int) (x : Int) = ((2 * h / x : Nat) : Int) := (Int.ofNat_tdiv _ _).symm
          have e3 : ¬ (x : Int) = 0 := by omega
          have hle : 2 * h / x ≤ 2 * h := Nat.div_le_self _ _
          have hb2 : 2 * h ≤ 2097152 := by omega
          generalize 2 * h / x = y at *
          generalize 2 * h = h2 at *
          have e4 : IntKind.i64.wrap ((s : Int) + y) = ((s + y : Nat) : Int) := by rw [IntWalk.i64_in _ (by omega)]; omega
          have d2 : decide (i < S.length) = true := by simpa using hi2
          have hin : (i : Int) < (S.length : Int) := by omega
          have HSY := hid (show s + y = relSum ((S.map fun s => s.p.toNat).take (i + 1)) h ∧ s + y ≤ (i + 1) * 2097152 from ⟨by rw [htk, ← hsum.1], by omega⟩)
          have hyb : (y : Int) ≤ 2097152 := by omega
          generalize s + y = sy at *
          clear hsum htk hat hxe hc2 hc3 hc4
          go_wp2_with fail
          go_roundg (S.length - (i + 1))
          case measure => omega
          case rel => exact ⟨i + 1, sy, by omega, rfl, by go_num, by go_num, HSY, rfl⟩
        · obtain rfl : i = S.length := by omega
          obtain ⟨hs1, hs2⟩ := HSum.out
          rw [List.take_of_length_le (by simp)] at hs1
          have d2 : decide (S.length < S.length) = false := by simp
          clear hi1 hi2
          by_cases h6 : 65536 < s
          · have d1 : decide ((65536 : Int) < s) = true := by simp; omega
            have HH2 := hid (show hyperOf S = (0, 103) by rw [HH.out, if_pos (by omega)])
            clear h6 hs1 hs2
            go_wp2_with fail
            go_ret2
            rw [HH2.out]
            exact ⟨rfl, HO2.out⟩
          · have d1 : decide ((65536 : Int) < s) = false := by simp; omega
            have HH2 := hid (show hyperOf S = (h, 0) by rw [HH.out, if_neg (by omega)])
            clear h6 hs1 hs2
            go_wp2_with fail
            go_ret2
            rw [HH2.out]
            exact ⟨rfl, HO2.out⟩
  · have HH := hid (show hyperOf S = (0, servErr S) by rw [hyperOf, if_pos hz])
    have d1 : (servErr S != 0) = true := by simpa using hz
    generalize servErr S = er at *
    clear hz
    go_wp2_with fail
    go_ret2
    rw [HH.out]
    exact ⟨rfl, HO1.out⟩
end Go.Proofs.YtlmnojbghgnniaaGreatDoor.Ref
