/- OnlineExact's begun. -/
import Derived.Test.YtlmnojbghgnniaaGreatDoorExC
namespace Go.Proofs.YtlmnojbghgnniaaGreatDoor.Ref
open Go.RowKit Bulk Ch On

set_option maxHeartbeats 4000000 in
set_option maxRecDepth 100000 in
theorem begun_any (S : List Srv) (v : Value) (w : World) (hv : SrvF w v S) (hl : S.length * 32 ≤ 140737488351232) (hg : Ch.Hnd w) :
    Calls Tryz.prog 5 #[v] w fun e w' => ∃ pa h, e = .returned (.tuple #[.pointer pa, .int .i64 (hyperOf S).2, .bool true]) ∧ Only noB w w' ∧ AbleIs S w w' pa h := by
  have HV := hid hv
  have HG := hid hg
  obtain ⟨pv, cv, rfl, _⟩ := hv.sat
  have hnI : (S.length : Int) * 32 ≤ 140737488351232 := by omega
  clear hv hg
  go_enter Tryz.func5, Tryz.ntmps5
  go_wp2_with fail
  refine (roomy_any S _ w HV.out hl).mono ?_
  rintro e w1 ⟨vr, rfl, ho1, hr1⟩
  obtain ⟨pr, cr, rfl⟩ : ∃ p c, vr = .slice p (S.length + 64) c := by
    rcases hr1.2 with ⟨_, h2⟩ | ⟨g, cap, cur, h1, _⟩
    · omega
    · exact ⟨_, _, h1⟩
  have HO1 := hid ho1
  have HR1 := hid hr1
  have hcap : S.length + 64 ≤ cr := by
    rcases hr1.2 with ⟨_, h2⟩ | ⟨g, cap, cur, h1, h2, h3, h4, _⟩
    · omega
    · injection h1 with e1 e2 e3; omega
  have HF1 := hid (srvF_take hr1 (by simp))
  have HN1 := hid (new_is S _ w1 HF1.out.sat (by omega) (HG.out.kept ho1 id))
  clear ho1 hr1
  go_wp2_with fail
  refine HN1.out.mono ?_
  rintro e w2 ⟨pa, ha, rfl, ho2, hA⟩
  have HI2 := hid ho2
  have HO2 := hid (HO1.out.trans ho2 (fun _ _ h => h))
  have HAb := hid hA
  clear ho2 hA HN1
  go_wp2_with fail
  refine (roomy_any S _ w2 (HV.out.kept HO2.out) hl).mono ?_
  rintro e w3 ⟨vs, rfl, ho3, hr3⟩
  have HI3 := hid ho3
  have HSm := hid (sameServers_same (S ++ List.replicate 64 mark77) (.slice pr (S.length + 64) cr) vs w3 (by
    have h := own_of_blocks (w' := w3) HR1.out fun b hb => ((HI2.out.trans ho3 (fun _ _ h => h)).block b (HR1.out.lt b hb).2 id)
    exact (SrvF.own (S := S ++ List.replicate 64 mark77) (by simpa using h)).sat) (SrvF.own (S := S ++ List.replicate 64 mark77) (by simpa using hr3)).sat (by simp; omega))
  clear ho3 hr3
  go_wp2_with fail
  refine HSm.out.mono ?_
  rintro e w4 ⟨rfl, q, rfl⟩
  have HI4 := hid (show Only noB w2 (w3.drewN q) from HI3.out.drewN q)
  have HR4 := hid (show (w3.drewN q).ownsRow w.heap.size 44 4 (.slice pr (S.length + 64) cr) (S.length + 64) (flatS (turnL S 0)) from by
    rw [turnL_zero]
    exact own_of_blocks (w' := w3.drewN q) HR1.out fun b hb => ((HI2.out.trans HI4.out (fun _ _ h => h)).block b (HR1.out.lt b hb).2 id))
  generalize w3.drewN q = w4 at *
  clear HSm
  have e1 : Int.tdiv (S.length : Int) 2 = ((S.length / 2 : Nat) : Int) := (Int.ofNat_tdiv _ 2).symm
  have e2 : (S.length : Int) / 2 = ((S.length / 2 : Nat) : Int) := by omega
  obtain ⟨hf, hhf⟩ : ∃ m, m = S.length / 2 := ⟨_, rfl⟩
  rw [← hhf] at e1 e2
  have HHf := hid hhf
  have hhf2 : 2 * hf ≤ S.length := by omega
  clear hhf
  go_wp2_with fail
  go_loopg [10] hf (fun g v10 wr => ∃ i : Nat, i ≤ hf ∧ g = hf - i ∧ v10 = .int .i64 i ∧ Hid (Only (fun b => w.heap.size ≤ b ∧ b < w1.heap.size) w4 wr ∧ wr.ownsRow w.heap.size 44 4 (.slice pr (S.length + 64) cr) (S.length + 64) (flatS (turnL S i))))
  case atStart => exact ⟨0, by omega, rfl, rfl, hid ⟨Only.refl _ _, HR4.out⟩⟩
  case round =>
    obtain ⟨i, hi, rfl, rfl, HR⟩ := hrel
    clear HR4
    by_cases hi2 : i < hf
    · have d1 : decide (i < hf) = true := by simpa using hi2
      obtain ⟨k, hk⟩ : ∃ k : Nat, (S.length : Int) - 1 - i = k := ⟨S.length - 1 - i, by omega⟩
      have hin : (i : Int) < (S.length : Int) := by omega
      have hkn : (k : Int) < (S.length : Int) := by omega
      have hi64 : (i : Int) < (S.length : Int) + 64 := by omega
      have hk64 : (k : Int) < (S.length : Int) + 64 := by omega
      obtain ⟨g, rfl, hg1, hg2, hAt, hfz⟩ := own_srv HR.out.2 (j := i) (by rw [turnL_len]; omega)
      rw [turnL_at (by omega), if_neg (by omega)] at hAt
      obtain ⟨g', hge, _, _, hAk, _⟩ := own_srv HR.out.2 (j := k) (by rw [turnL_len]; omega)
      obtain rfl : g = g' := by simpa using hge
      rw [turnL_at (by omega), if_neg (by omega)] at hAk
      obtain ⟨a0, a1, a2, a3⟩ := hAt
      obtain ⟨b0, b1, b2, b3⟩ := hAk
      clear hge
      generalize hsi : S[i]'(by omega) = si at *
      generalize hsk : S[k]'(by omega) = sk at *
      go_upto_region 9 with (fail)
      obtain ⟨wa, hwa⟩ : ∃ y : World, y = wr.alloc (.cells #[.int .i64 si.p, .int .i64 si.b, .int .i64 si.o, .int .i64 si.q] 44) := ⟨_, rfl⟩
      have HRa := hid (show wa.ownsRow w.heap.size 44 4 (.slice (some ⟨g, 0, none⟩) (S.length + 64) cr) (S.length + 64) (flatS (turnL S i)) from by rw [hwa]; exact HR.out.2.alloc _)
      have HOa := hid (show Only (fun b => w.heap.size ≤ b ∧ b < w1.heap.size) w4 wa from by rw [hwa]; exact HR.out.1.alloc _)
      have hm : si.At wa ⟨wr.heap.size, 0, none⟩ := by rw [hwa]; refine ⟨?_, ?_, ?_, ?_⟩ <;> simp
      rw [← hwa]
      have hgl : g < w1.heap.size := (HR1.out.lt g rfl).2
      have HG3 := hid (And.intro hg1 (And.intro hgl (And.intro hg2 hm)))
      clear hwa a0 a1 a2 a3 b0 b1 b2 b3 hfz hm
      obtain ⟨g', hge, _, _, hAt, hfz⟩ := own_srv HRa.out (j := i) (by rw [turnL_len]; omega)
      obtain rfl : g = g' := by simpa using hge
      rw [turnL_at (by omega), if_neg (by omega), hsi] at hAt
      obtain ⟨g', hge', _, _, hAk, _⟩ := own_srv HRa.out (j := k) (by rw [turnL_len]; omega)
      obtain rfl : g = g' := by simpa using hge'
      rw [turnL_at (by omega), if_neg (by omega), hsk] at hAk
      obtain ⟨a0, a1, a2, a3⟩ := hAt
      obtain ⟨b0, b1, b2, b3⟩ := hAk
      have HSe := hid (And.intro hsi hsk)
      have HKe := hid hk
      clear hge hge' hsi hsk hg1 hg2 hgl
      go_upto_region 10 with (fail)
      obtain ⟨wb, hwb⟩ : ∃ y : World, y = ((((wa.setCell ⟨g, i * 4, none⟩ (.int .i64 sk.p)).setCell ⟨g, i * 4 + 1, none⟩ (.int .i64 sk.b)).setCell ⟨g, i * 4 + 2, none⟩ (.int .i64 sk.o)).setCell ⟨g, i * 4 + 3, none⟩ (.int .i64 sk.q)) := ⟨_, rfl⟩
      have HRb := hid (show wb.ownsRow w.heap.size 44 4 (.slice (some ⟨g, 0, none⟩) (S.length + 64) cr) (S.length + 64) (flatS ((turnL S i).set i sk)) from by rw [hwb]; exact own_srv_set HRa.out rfl sk)
      have HOb := hid (show Only (fun b => w.heap.size ≤ b ∧ b < w1.heap.size) w4 wb from by rw [hwb]; exact HOa.out.trans four_only' fun x hx e => by obtain rfl : x = g := e; exact ⟨HG3.out.1, HG3.out.2.1⟩)
      have hm : si.At wb ⟨wr.heap.size, 0, none⟩ := by rw [hwb]; exact HG3.out.2.2.2.kept four_only' fun e => by have e' : wr.heap.size = g := e; have := HG3.out.2.2.1; omega
      rw [← hwb]
      clear hwb a0 a1 a2 a3 b0 b1 b2 b3 hfz
      obtain ⟨g', hge, _, _, hAk, hfz⟩ := own_srv HRb.out (j := k) (by rw [List.length_set, turnL_len]; omega)
      obtain rfl : g = g' := by simpa using hge
      obtain ⟨b0, b1, b2, b3⟩ := hAk
      obtain ⟨m0, m1, m2, m3⟩ := hm
      generalize ((turnL S i).set i sk)[k]'(by rw [List.length_set, turnL_len]; omega) = sx at *
      clear hge
      go_wp2_with fail
      have HN := hid (show Only (fun b => w.heap.size ≤ b ∧ b < w1.heap.size) w4 ((((wb.setCell ⟨g, k * 4, none⟩ (.int .i64 si.p)).setCell ⟨g, k * 4 + 1, none⟩ (.int .i64 si.b)).setCell ⟨g, k * 4 + 2, none⟩ (.int .i64 si.o)).setCell ⟨g, k * 4 + 3, none⟩ (.int .i64 si.q)) ∧ ((((wb.setCell ⟨g, k * 4, none⟩ (.int .i64 si.p)).setCell ⟨g, k * 4 + 1, none⟩ (.int .i64 si.b)).setCell ⟨g, k * 4 + 2, none⟩ (.int .i64 si.o)).setCell ⟨g, k * 4 + 3, none⟩ (.int .i64 si.q)).ownsRow w.heap.size 44 4 (.slice (some ⟨g, 0, none⟩) (S.length + 64) cr) (S.length + 64) (flatS (turnL S (i + 1))) from by
        refine ⟨HOb.out.trans four_only' fun x hx e => (by obtain rfl : x = g := e; exact ⟨HG3.out.1, HG3.out.2.1⟩), ?_⟩
        have hkk : k = S.length - 1 - i := by have := HKe.out; omega
        subst hkk
        rw [← turnL_step (by have := HHf.out; omega), HSe.out.1, HSe.out.2]
        exact own_srv_set HRb.out rfl si)
      go_roundg (hf - (i + 1))
      case measure => omega
      case rel => exact ⟨i + 1, by omega, rfl, by go_num, HN⟩
    · obtain rfl : i = hf := by omega
      have d1 : decide (i < i) = false := by simp
      have HT := hid (show wr.ownsRow w.heap.size 44 4 (.slice pr (S.length + 64) cr) (S.length + 64) (flatS (S.reverse ++ List.replicate 64 mark77)) from by
        have h := HR.out.2
        rw [HHf.out, turnL_end] at h
        exact h)
      have HRv := hid (show SrvF wr (.slice pr S.length cr) S.reverse from by have := srvF_take HT.out (by simp); rw [List.length_reverse] at this; exact this)
      clear hi hi2
      obtain ⟨i0, hii, hz0, hz1, hz2⟩ := info_parts info39
      have HSrc := hid HRv.out.src
      rw [List.length_reverse] at HSrc
      go_wp2_with (at_builtin; refine wpList_append_src rfl _ _ 22 rfl wr.heap.size 44 i0 _ 4 32 Tryz.underlying22 hii hz0 hz1 hz2 rfl (by decide) _ _ _ rfl (World.ownsRow_made wr #[] 0 (Nat.le_refl _) (Nat.zero_le _) rfl) _ _ _ rfl (HSrc.out.kept (F := noB) ((Only.refl noB wr).alloc _) (fun _ _ _ _ _ => id)) (flatS_one _) ?c3 ?c4 ?c5 ?_)
      case c3 => unfold maxLen; omega
      case c4 => omega
      case c5 => simp
      intro vx w5 ho5 hg5
      obtain ⟨px, cx, rfl⟩ : ∃ p c, vx = .slice p S.length c := by
        rcases ho5.2 with ⟨h1, h2⟩ | ⟨g, cap, cur, h1, _⟩
        · exact ⟨none, 0, by rw [h1, show S.length = 0 by simpa using h2]⟩
        · exact ⟨_, _, h1⟩
      have HI5 := hid (show Only noB wr w5 from ((Only.refl _ wr).alloc _).grown hg5 fun k e => .inr (by simp [Value.ownBlock] at e; omega))
      have HX5 := hid (show SrvF w5 (.slice px S.length cx) S.reverse from by
        have h := SrvF.own (S := S.reverse) (e := 44) (base := wr.heap.size) (w := w5) (v := .slice px S.length cx) (by rw [List.length_reverse]; simpa using ho5)
        exact h)
      clear ho5 hg5
      go_wp2_with fail
      refine (new_ref S.reverse _ w5 HX5.out (by simp; omega)).mono ?_
      rintro e w6 ⟨x', rfl, ho6, hdoc, xp, xn, xc, xk, xm, xq, xr, xd, rfl, _, _⟩
      have HI6 := hid (HI5.out.trans ho6 (fun _ _ h => h))
      have HDoc := hid hdoc
      obtain ⟨w7, hw7⟩ : ∃ y : World, y = w6.alloc (.cells #[.slice xp xn xc, .int .i64 xk, .int .i64 xm, .slice xq xr xd] 28) := ⟨_, rfl⟩
      have ho7 : Only noB w6 w7 := by rw [hw7]; exact (Only.refl _ _).alloc _
      have hbx : Box4 w7 w6.heap.size (.slice xp xn xc) (.int .i64 xk) (.int .i64 xm) (.slice xq xr xd) := by rw [hw7]; refine ⟨?_, ?_, ?_, ?_⟩ <;> simp
      have HI7 := hid (HI6.out.trans ho7 (fun _ _ h => h))
      have HO67 := hid ho7
      have HBx := hid hbx
      have HW7 := hid hw7
      clear ho6 hdoc hw7 ho7 hbx
      go_wp2_with fail
      rw [← HW7.out]
      have HO7 := hid (show Only noB w w7 from ((HO2.out.trans HI4.out (fun _ _ h => h)).trans HR.out.1 fun x hx e => by omega).trans HI7.out (fun _ _ h => h))
      refine (new_is S.reverse _ w7 (HRv.out.kept HI7.out).sat (by simp; omega) (HG.out.kept HO7.out id)).mono ?_
      rintro e w8 ⟨pz, hz, rfl, ho8, hZ⟩
      have HI8 := hid (HI7.out.trans ho8 (fun _ _ h => h))
      have HO78 := hid ho8
      have HZ := hid hZ
      obtain ⟨c0, c1, c2, c3⟩ := HBx.out.kept ho8 (E := noB) id
      obtain ⟨er, her⟩ : ∃ er, er = (hyperOf S.reverse).2 := ⟨_, rfl⟩
      rw [← her]
      have HEr := hid her
      have d2 : (er != er) = false := by simp
      clear ho8 hZ her
      rcases HZ.out with ⟨rfl, hne⟩ | ⟨dz, rfl, hhz, hDz⟩
      case' inl =>
        have d3 : (er != 0) = true := by rw [HEr.out]; simpa using hne
        have d4 : (er == 0) = false := by rw [HEr.out]; simpa using hne
        obtain ⟨w9, hw9⟩ : ∃ y : World, y = w8 := ⟨_, rfl⟩
        have HI9 := hid (show Only noB wr w9 from by rw [hw9]; exact HI8.out)
        rw [← hw9]
        rw [← hw9] at c0 c1 c2 c3
        clear hne hw9
        go_wp2_with fail
      case' inr =>
        have e0 : er = 0 := by rw [HEr.out, hhz]
        subst e0
        have HTo := hid (told_any S.reverse hz 0 (.agg #[.slice xp xn xc, .int .i64 xk, .int .i64 xm, .slice xq xr xd]) w8 dz _ hDz (((HDoc.out hz hhz).kept HO67.out).kept HO78.out) hhz (by omega))
        clear hhz hDz
        go_wp2_with fail
        refine HTo.out.mono ?_
        rintro e w9 ⟨rfl, ho9⟩
        have HI9 := hid (HI8.out.trans ho9 (fun _ _ h => h))
        clear ho9 HTo
        go_wp2_with fail
      all_goals
        have HBk := hid (show ∃ g, pr = some ⟨g, 0, none⟩ ∧ w.heap.size ≤ g ∧ g < w1.heap.size ∧ BlkAt w9 g (S.length + 64) from by
          rcases HT.out.2 with ⟨h1, h2⟩ | ⟨g, cap, cur, h1, h2, h3, h4, _, h5, _⟩
          · omega
          · injection h1 with e1 e2 e3
            subst e1
            exact ⟨g, rfl, h2, (HR1.out.lt g rfl).2, BlkAt.kept ⟨cur, h3, by rw [h5]; exact Nat.mul_le_mul_right 4 h4⟩ HI9.out⟩)
        obtain ⟨g, rfl, hg1, hg2, _⟩ := HBk.out
        go_loopg [16] (S.length + 64) (fun gg v16 wx => ∃ j : Nat, j ≤ S.length + 64 ∧ gg = S.length + 64 - j ∧ v16 = .int .i64 j ∧ Hid (Only (fun b => w.heap.size ≤ b ∧ b < w1.heap.size) w9 wx ∧ BlkAt wx g (S.length + 64)))
        case atStart =>
          obtain ⟨g', hge, _, _, hb⟩ := HBk.out
          obtain rfl : g = g' := by simpa using hge
          exact ⟨0, by omega, rfl, rfl, hid ⟨Only.refl _ _, hb⟩⟩
        case round =>
          obtain ⟨j, hj, rfl, rfl, HW⟩ := hrel
          by_cases hj2 : j < S.length + 64
          · have d5 : decide ((j : Int) < (S.length : Int) + 64) = true := by simp; omega
            have d6 : decide (j < S.length + 64) = true := by simp; omega
            have hjn : (j : Int) < (S.length : Int) + 64 := by omega
            obtain ⟨⟨u0, hu0⟩, hf0⟩ := HW.out.2.cell (i := j * 4) (by omega)
            obtain ⟨⟨u1, hu1⟩, hf1⟩ := HW.out.2.cell (i := j * 4 + 1) (by omega)
            obtain ⟨⟨u2, hu2⟩, hf2⟩ := HW.out.2.cell (i := j * 4 + 2) (by omega)
            obtain ⟨⟨u3, hu3⟩, hf3⟩ := HW.out.2.cell (i := j * 4 + 3) (by omega)
            have HN := hid (show Only (fun b => w.heap.size ≤ b ∧ b < w1.heap.size) w9 ((((wr.setCell ⟨g, j * 4, none⟩ (.int .i64 0)).setCell ⟨g, j * 4 + 1, none⟩ (.int .i64 5)).setCell ⟨g, j * 4 + 2, none⟩ (.int .i64 0)).setCell ⟨g, j * 4 + 3, none⟩ (.int .i64 0)) ∧ BlkAt ((((wr.setCell ⟨g, j * 4, none⟩ (.int .i64 0)).setCell ⟨g, j * 4 + 1, none⟩ (.int .i64 5)).setCell ⟨g, j * 4 + 2, none⟩ (.int .i64 0)).setCell ⟨g, j * 4 + 3, none⟩ (.int .i64 0)) g (S.length + 64) from
              ⟨HW.out.1.trans four_only' fun x hx e => (by obtain rfl : x = g := e; exact ⟨hg1, hg2⟩), (((HW.out.2.set _ _).set _ _).set _ _).set _ _⟩)
            go_wp2_with fail
            go_roundg (S.length + 64 - (j + 1))
            case measure => omega
            case rel => exact ⟨j + 1, by omega, rfl, by go_num, HN⟩
          · obtain rfl : j = S.length + 64 := by omega
            have d5 : decide ((S.length : Int) + 64 < (S.length : Int) + 64) = false := by simp
            have d6 : decide (S.length + 64 < S.length + 64) = false := by simp
            clear hj hj2
            go_wp2_with fail
            go_ret3
            have hfin : Only (fun b => w.heap.size ≤ b ∧ b < w1.heap.size) w2 wr := ((HI4.out.mono fun b _ h => absurd h id).trans HR.out.1 fun _ _ h => h).trans ((HI9.out.mono (G := fun b => w.heap.size ≤ b ∧ b < w1.heap.size) fun b _ h => absurd h id).trans HW.out.1 fun _ _ h => h) fun _ _ h => h
            exact ⟨pa, ha, rfl, HO2.out.trans hfin (fun x hx e => by omega), able_final HAb.out HO1.out hfin⟩
end Go.Proofs.YtlmnojbghgnniaaGreatDoor.Ref
