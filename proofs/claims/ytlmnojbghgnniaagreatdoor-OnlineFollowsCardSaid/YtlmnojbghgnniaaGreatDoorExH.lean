/- OnlineFollows: the walk. -/
import Derived.Test.YtlmnojbghgnniaaGreatDoorExG
namespace Go.Proofs.YtlmnojbghgnniaaGreatDoor.Ref
open Go.RowKit Bulk Ch On

set_option maxHeartbeats 4000000 in
set_option maxRecDepth 100000 in
theorem follows_any (S : List Srv) (v : Value) (fr tm : Int) (w : World) (hv : SrvF w v S) (hl : S.length * 32 ≤ 140737488351232) (htm : tm ≤ 9223372036854775807) (hg : Ch.Hnd w) :
    Calls Tryz.prog 4 #[v, .int .i64 fr, .int .i64 tm] w fun e w' => e = .returned (.bool true) ∧ Only noB w w' := by
  have HV := hid hv
  have HG := hid hg
  obtain ⟨pv, cv, rfl, _⟩ := hv.sat
  have HBe := hid (begun_any S _ w hv hl hg)
  clear hv hg
  go_enter Tryz.func4, Tryz.ntmps4
  go_wp2_with fail
  refine HBe.out.mono ?_
  rintro e w1 ⟨pa, H, rfl, ho1, hA⟩
  have HO1 := hid ho1
  have HAb := hid hA
  clear ho1 hA HBe
  go_wp2_with fail
  refine (new_ref S _ w1 (HV.out.kept HO1.out) (by omega)).mono ?_
  rintro e w2 ⟨x', rfl, ho2, hdoc, xp, xn, xc, xk, xm, xq, xr, xd, rfl, hxp, hxq⟩
  have HI2 := hid ho2
  have HDoc := hid (And.intro hdoc (And.intro hxp hxq))
  obtain ⟨w3, hw3⟩ : ∃ y : World, y = w2.alloc (.cells #[.slice xp xn xc, .int .i64 xk, .int .i64 xm, .slice xq xr xd] 28) := ⟨_, rfl⟩
  have HW3 := hid hw3
  have HO3 := hid (show Only noB w w3 from (HO1.out.trans ho2 (fun _ _ h => h)).trans (by rw [hw3]; exact (Only.refl _ _).alloc _) fun _ _ h => h)
  obtain ⟨er, her⟩ : ∃ er, er = (hyperOf S).2 := ⟨_, rfl⟩
  rw [← her]
  have HEr := hid her
  have d2 : (er != er) = false := by simp
  clear ho2 hdoc hxp hxq hw3 her
  rcases HAb.out with ⟨rfl, hne⟩ | ⟨db, rfl, hh, hD⟩
  · have d3 : (er != 0) = true := by rw [HEr.out]; simpa using hne
    clear hne
    go_wp2_with fail
    go_ret
    have h3 := HO3.out
    rw [HW3.out] at h3
    exact ⟨rfl, h3⟩
  · obtain rfl : er = 0 := by rw [HEr.out, hh]
    obtain ⟨ok, hlS, hH1, hH2, okk⟩ := sys_ok hh
    have HH := hid hh
    have HT := hid (show TwoSt S H w w3 db w2.heap.size 0 (Fr noB w w1) from by
      have hk : Only noB w1 w3 := HI2.out.trans (by rw [HW3.out]; exact (Only.refl _ _).alloc _) fun _ _ h => h
      have hs := hk.size
      exact ⟨HO3.out, hD.kept hk fun _ _ _ e => e, fun b hb => by have := hb.resolve_left id; omega, DocSt.first (HDoc.out.1 H HH.out) HO1.out.size HI2.out HDoc.out.2.1 HDoc.out.2.2 (fun b hb => (hb.resolve_left id).2) HW3.out⟩)
    generalize Fr noB w w1 = G0 at *
    clear hh hD HAb
    obtain ⟨bx, hbx⟩ : ∃ b, b = w2.heap.size := ⟨_, rfl⟩
    rw [← hbx] at HT
    have HBx := hid hbx
    have HAd := hid (dis_step HT.out.dis fr HH.out)
    clear hbx
    go_wp2_with fail
    rw [← HW3.out, ← HBx.out]
    refine HAd.out.mono ?_
    rintro e w6 ⟨rfl, ho6, hd6⟩
    have HO6 := hid ho6
    have HDi := hid hd6
    have HDo := hid (HT.out.doc.adv ho6)
    clear ho6 hd6 HAd
    obtain ⟨vp, vc, lp, lc, hb4, hda, hov, hol⟩ := HDo.out.doc
    have HOff := hid (And.intro hov hol)
    have HB4 := hid hb4
    have HAr := hid (adv_keep fr hda (Only.refl _ _) HH.out (by omega))
    obtain ⟨c0, c1, c2, c3⟩ := hb4
    clear hov hol hda
    go_wp2_with fail
    refine HAr.out.mono ?_
    rintro e w7 ⟨lp', lc', rfl, h0, h1, h2, h3⟩
    have HK := hid (And.intro h1 (And.intro h2 h3))
    obtain ⟨y, hy⟩ : ∃ b, b = w7.heap.size := ⟨_, rfl⟩
    obtain ⟨w8, hw8⟩ : ∃ y : World, y = w7.alloc (.cells #[.slice vp S.length vc, .int .i64 H, .int .i64 (advN 0 fr : Nat), .slice lp' S.length lc'] 28) := ⟨_, rfl⟩
    have h78 : Only noB w7 w8 := by rw [hw8]; exact (Only.refl _ _).alloc _
    have HO78 := hid h78
    have hsz8 : w8.heap.size = y + 1 := by rw [hw8, hy]; simp
    have hyb : w8.heap[y]? = some (.cells #[.slice vp S.length vc, .int .i64 H, .int .i64 (advN 0 fr : Nat), .slice lp' S.length lc'] 28 (0, 0)) := by rw [hw8, hy]; exact heap_alloc_at0 _ _
    have HYb := hid hyb
    have HY := hid (show y = w7.heap.size ∧ w8.heap.size = y + 1 ∧ w6.heap.size ≤ y ∧ bx < w6.heap.size from ⟨hy, hsz8, by rw [hy]; exact h1.size, HDo.out.hi⟩)
    obtain ⟨y0, y1, y2, y3⟩ := HB4.out.kept h1 (E := noB) id
    have fz7 := (HDo.out.kept h1).fz
    have HW8 := hid hw8
    have d5 : (advE 0 fr != advE 0 fr) = false := by simp
    have hn' := advN_lt fr (show 0 < 1099511627776 by omega)
    generalize advE 0 fr = er2 at *
    obtain ⟨n', hn2⟩ : ∃ n', n' = advN 0 fr := ⟨_, rfl⟩
    rw [← hn2] at HK HDi HYb HW8 hn' ⊢
    clear h0 h1 h2 h3 hy h78 hsz8 hyb hw8 hn2 c0 c1 c2 c3 HAr
    go_upto_region 9 with (fail)
    rw [← HW8.out, ← HY.out.1]
    have hb8 : Box4 w8 bx (.slice vp S.length vc) (.int .i64 H) (.int .i64 (0 : Nat)) (.slice lp S.length lc) := Box4.kept ⟨y0, y1, y2, y3⟩ HO78.out (E := noB) id
    have hy8 : Box4 w8 y (.slice vp S.length vc) (.int .i64 H) (.int .i64 n') (.slice lp' S.length lc') := by refine ⟨?_, ?_, ?_, ?_⟩ <;> simp [World.cell?, HYb.out]
    have fz : ∀ o, w8.frozen? ⟨bx, o, none⟩ = false := fun o => (World.frozen?_of_block (a := ⟨bx, o, none⟩) (HO78.out.block bx (by have := HY.out; have := HO78.out.size; omega) id)).trans (fz7 o)
    have hnb : ¬ y = bx := by have := HY.out; omega
    have hnb2 : ¬ bx = y := by have := HY.out; omega
    clear y0 y1 y2 y3 fz7
    have HSt := hid (show ∀ w9, w9 = ((((w8.setCell ⟨bx, 0, none⟩ (.slice vp S.length vc)).setCell ⟨bx, 1, none⟩ (.int .i64 H)).setCell ⟨bx, 2, none⟩ (.int .i64 n')).setCell ⟨bx, 3, none⟩ (.slice lp' S.length lc')) → FolSt S H w w9 db bx y n' (Fr G0 w3 w6) ∧ DocAt w9 (.agg #[.slice vp S.length vc, .int .i64 H, .int .i64 n', .slice lp' S.length lc']) S H n' from fun w9 hw9 => by
      have hyf := HY.out
      have s67 := HK.out.1.size
      have s36 := HO6.out.size
      have hd7 : DocSt S H w w7 bx 0 (Plus (Fr G0 w3 w6) y) := (HDo.out.kept HK.out.1).avoid (by omega)
      have hG0 : ∀ b, Fr G0 w3 w6 b → b < w6.heap.size := fun b e => by
        rcases e with e | e
        · have := (HT.out.gb b e).2; omega
        · exact e.2
      have ov : OffG w7 bx (Plus (Fr G0 w3 w6) y) vp := fun a e => by
        obtain ⟨e1, e2, e3⟩ := HOff.out.1 a e
        exact ⟨by omega, fun e4 => by rcases e4 with e4 | e4; exact e2 e4; omega, e3⟩
      have ol : OffG w7 bx (Plus (Fr G0 w3 w6) y) lp' := fun a e => by
        rcases HK.out.2.2 with h | h
        · obtain ⟨e1, e2, e3⟩ := HOff.out.2 a (h ▸ e)
          exact ⟨by omega, fun e4 => by rcases e4 with e4 | e4; exact e2 e4; omega, e3⟩
        · obtain ⟨e1, e2⟩ := h a e
          exact ⟨e2, fun e4 => by rcases e4 with e4 | e4; (have := hG0 _ e4; omega); omega, by omega⟩
      obtain ⟨h1, h2⟩ := hd7.step2 ov (Only.refl _ _) HK.out.2.1 ol (HO78.out.mono fun b _ e => absurd e id) hw9
      have h89 : Only (fun b => b = bx) w8 w9 := by rw [hw9]; exact four_only
      have s89 := h89.size
      have hyg : ¬ Fr G0 w3 w6 y := fun e => by have := hG0 _ e; omega
      have hwy : w.heap.size ≤ y := by have := HT.out.only.size; omega
      have hb9 := hy8.kept h89 (by intro e; exact hnb e)
      exact ⟨FolSt.step HT.out.only HT.out.gb HO6.out HDi.out (HK.out.1.trans HO78.out fun _ _ e => e) (Only.refl _ _) h89 h1 ⟨hwy, by omega, hyg⟩ hb9 (fun o => (World.frozen?_of_block (a := ⟨y, o, none⟩) (h89.block y (by omega) hnb)).trans (by simp [World.frozen?, HYb.out])), h2⟩)
    obtain ⟨p0, p1, p2, p3⟩ := hb8
    obtain ⟨t0, t1, t2, t3⟩ := hy8
    obtain ⟨w9, hw9⟩ : ∃ y : World, y = ((((w8.setCell ⟨bx, 0, none⟩ (.slice vp S.length vc)).setCell ⟨bx, 1, none⟩ (.int .i64 H)).setCell ⟨bx, 2, none⟩ (.int .i64 n')).setCell ⟨bx, 3, none⟩ (.slice lp' S.length lc')) := ⟨_, rfl⟩
    have HF9 := hid (HSt.out w9 hw9)
    have HTo := hid (told_any S H n' _ w9 db _ HF9.out.1.dis HF9.out.2 HH.out hn')
    have HW9 := hid hw9
    clear hw9 HSt
    go_wp2_with fail
    rw [← HW9.out]
    refine HTo.out.mono ?_
    rintro e w10 ⟨rfl, ho10⟩
    have HF10 := hid (HF9.out.1.kept ho10)
    clear ho10 HTo
    generalize Fr G0 w3 w6 = G1 at *
    go_wp2_with fail
    go_loopg [15] tm.toNat (fun g v15 wr => ∃ (i n : Nat) (G : Nat → Prop), i ≤ tm.toNat ∧ g = tm.toNat - i ∧ v15 = .int .i64 i ∧ n < 1099511627776 ∧ Hid (FolSt S H w wr db bx y n G))
    case atStart => exact ⟨0, n', G1, by omega, rfl, rfl, hn', HF10⟩
    case round =>
      obtain ⟨i, n, G, hi, rfl, rfl, hn, HR⟩ := hrel
      clear HF10 HF9 HYb HY HK HW8 HO78 HDi HDo HO6 HB4 HOff HT
      by_cases hi2 : (i : Int) < tm
      · have d1 : decide ((i : Int) < tm) = true := by simpa using hi2
        obtain ⟨vp, vc, lp, lc, hb4, hda, hov, hol⟩ := HR.out.doc.doc
        have HMo := hid (most_any S H n _ wr hda hlS hH2)
        obtain ⟨c0, c1, c2, c3⟩ := hb4
        clear hda hov hol
        go_wp2_with fail
        refine HMo.out.mono ?_
        rintro e w5 ⟨k, rfl, ho5⟩
        have HR5 := hid (HR.out.kept ho5)
        clear ho5 HMo c0 c1 c2 c3
        by_cases hk : (i : Int) < k
        · have d3 : decide ((i : Int) < k) = true := by simpa using hk
          have HUn := hid (dis_until HR5.out.dis hn HH.out)
          obtain ⟨un, hun⟩ : ∃ un, un = untilOf S n ((sysOf S).st n) (n + 1) := ⟨_, rfl⟩
          rw [← hun] at HUn
          clear hk hun
          go_wp2_with fail
          refine HUn.out.mono ?_
          rintro e w5' ⟨rfl, q, rfl⟩
          have HRq := hid (HR5.out.kept ((Only.refl _ w5).drewN q))
          generalize w5.drewN q = wu at *
          have HAd := hid (dis_step HRq.out.dis un HH.out)
          clear HUn
          go_wp2_with fail
          refine HAd.out.mono ?_
          rintro e w6 ⟨rfl, ho6, hd6⟩
          have HO6 := hid ho6
          have HDi := hid hd6
          have HDo := hid (HRq.out.adv ho6)
          clear ho6 hd6 HAd
          obtain ⟨vp, vc, lp, lc, hb4, hda, hov, hol⟩ := HDo.out.1.doc
          have HOff := hid (And.intro hov hol)
          have HB4 := hid hb4
          have HAr := hid (adv_keep un hda (Only.refl _ _) HH.out hn)
          obtain ⟨c0, c1, c2, c3⟩ := hb4
          clear hov hol hda
          go_wp2_with fail
          refine HAr.out.mono ?_
          rintro e w7 ⟨lp', lc', rfl, h0, h1, h2, h3⟩
          have HK := hid (And.intro h1 (And.intro h2 h3))
          have hn' := advN_lt un hn
          have d5 : (advE n un != advE n un) = false := by simp
          have hb7 := HB4.out.kept h1 (E := noB) id
          have fz7 := (HDo.out.1.kept h1).fz
          obtain ⟨v0, v1, v2, v3, hy6⟩ := HDo.out.2.1
          obtain ⟨y0, y1, y2, y3⟩ := hy6.kept h1 (E := noB) id
          have fy7 : ∀ o, w7.frozen? ⟨y, o, none⟩ = false := fun o => (World.frozen?_of_block (a := ⟨y, o, none⟩) (h1.block y (by have := HRq.out.yl; have := HO6.out.size; omega) id)).trans (HDo.out.2.2.1 o)
          have hnb : ¬ y = bx := fun e => HDo.out.1.ng (.inr e.symm)
          have hnb2 : ¬ bx = y := fun e => hnb e.symm
          obtain ⟨w8, hw8⟩ : ∃ z : World, z = ((((w7.setCell ⟨y, 0, none⟩ (.slice vp S.length vc)).setCell ⟨y, 1, none⟩ (.int .i64 H)).setCell ⟨y, 2, none⟩ (.int .i64 (advN n un : Nat))).setCell ⟨y, 3, none⟩ (.slice lp' S.length lc')) := ⟨_, rfl⟩
          have h78 : Only (fun b => b = y) w7 w8 := by rw [hw8]; exact four_only
          have hy8 : Box4 w8 y (.slice vp S.length vc) (.int .i64 H) (.int .i64 (advN n un : Nat)) (.slice lp' S.length lc') := by
            rw [hw8]
            exact ⟨cell_set_off (cell_set_off (cell_set_off (cell_set_same y0) (by decide)) (by decide)) (by decide), cell_set_off (cell_set_off (cell_set_same (cell_set_off y1 (by decide))) (by decide)) (by decide), cell_set_off (cell_set_same (cell_set_off (cell_set_off y2 (by decide)) (by decide))) (by decide), cell_set_same (cell_set_off (cell_set_off (cell_set_off y3 (by decide)) (by decide)) (by decide))⟩
          have HY8 := hid (And.intro h78 (And.intro hy8 (And.intro (hb7.kept h78 hnb2) (And.intro (show ∀ o, w8.frozen? ⟨bx, o, none⟩ = false from fun o => (World.frozen?_of_block (a := ⟨bx, o, none⟩) (h78.block bx (by have := HDo.out.1.hi; have := h1.size; omega) hnb2)).trans (fz7 o)) (show ∀ o, w8.frozen? ⟨y, o, none⟩ = false from fun o => by rw [hw8]; simpa using fy7 o)))))
          have HW8 := hid hw8
          generalize advE n un = er3 at *
          obtain ⟨n2, hn2⟩ : ∃ n2, n2 = advN n un := ⟨_, rfl⟩
          rw [← hn2] at HK HDi HW8 HY8 hn' ⊢
          clear h0 h1 h2 h3 hw8 hn2 c0 c1 c2 c3 HAr h78 hy8 hb7 fz7
          go_upto_region 18 with (fail)
          rw [← HW8.out]
          obtain ⟨h78, ⟨t0, t1, t2, t3⟩, ⟨p0, p1, p2, p3⟩, fz, _⟩ := HY8.out
          obtain ⟨w9, hw9⟩ : ∃ y : World, y = ((((w8.setCell ⟨bx, 0, none⟩ (.slice vp S.length vc)).setCell ⟨bx, 1, none⟩ (.int .i64 H)).setCell ⟨bx, 2, none⟩ (.int .i64 n2)).setCell ⟨bx, 3, none⟩ (.slice lp' S.length lc')) := ⟨_, rfl⟩
          have HF9 := hid (show FolSt S H w w9 db bx y n2 (Fr G wu w6) ∧ DocAt w9 (.agg #[.slice vp S.length vc, .int .i64 H, .int .i64 n2, .slice lp' S.length lc']) S H n2 from by
            have s67 := HK.out.1.size
            have s36 := HO6.out.size
            have hG0 : ∀ b, Fr G wu w6 b → b < w6.heap.size := fun b e => by
              rcases e with e | e
              · have := (HRq.out.gb b e).2; omega
              · exact e.2
            have ol : OffG w7 bx (Plus (Fr G wu w6) y) lp' := fun a e => by
              rcases HK.out.2.2 with h | h
              · obtain ⟨e1, e2, e3⟩ := HOff.out.2 a (h ▸ e)
                exact ⟨by omega, e2, e3⟩
              · obtain ⟨e1, e2⟩ := h a e
                have := HRq.out.yl
                have := HDo.out.1.hi
                exact ⟨e2, fun e4 => by rcases e4 with e4 | e4; (have := hG0 _ e4; omega); omega, by omega⟩
            obtain ⟨h1, h2⟩ := HDo.out.1.step2 HOff.out.1 HK.out.1 HK.out.2.1 ol (h78.mono fun b _ e => .inr e) hw9
            have h89 : Only (fun b => b = bx) w8 w9 := by rw [hw9]; exact four_only
            have s89 := h89.size
            have s78 := h78.size
            have hyl := HRq.out.yl
            have hb9 := Box4.kept (w := w8) (b := y) ⟨t0, t1, t2, t3⟩ h89 (by intro e; exact hnb e)
            exact ⟨FolSt.step HRq.out.only HRq.out.gb HO6.out HDi.out HK.out.1 h78 h89 h1 ⟨hyl.1, by omega, HDo.out.2.2.2⟩ hb9 (fun o => (World.frozen?_of_block (a := ⟨y, o, none⟩) (h89.block y (by omega) hnb)).trans (HY8.out.2.2.2.2 o)), h2⟩)
          have HTo := hid (told_any S H n2 _ w9 db _ HF9.out.1.dis HF9.out.2 HH.out hn')
          have HW9 := hid hw9
          clear hw9 h78 y0 y1 y2 y3 fy7
          go_wp2_with fail
          rw [← HW9.out]
          refine HTo.out.mono ?_
          rintro e w10 ⟨rfl, ho10⟩
          have HF10 := hid (HF9.out.1.kept ho10)
          clear ho10 HTo
          go_wp2_with fail
          go_roundg (tm.toNat - (i + 1))
          case measure => omega
          case rel => exact ⟨i + 1, n2, _, by omega, rfl, by go_num, hn', HF10⟩
        · have d3 : decide ((i : Int) < k) = false := by simpa using hk
          clear hk
          go_wp2_with fail
          go_ret
          exact ⟨rfl, HR5.out.only⟩
      · have d1 : decide ((i : Int) < tm) = false := by simpa using hi2
        clear hi hi2
        go_wp2_with fail
        go_ret
        exact ⟨rfl, HR.out.only⟩
end Go.Proofs.YtlmnojbghgnniaaGreatDoor.Ref
