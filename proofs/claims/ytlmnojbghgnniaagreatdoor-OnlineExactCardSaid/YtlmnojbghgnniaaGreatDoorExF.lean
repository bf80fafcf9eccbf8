/- OnlineExact: the walk. -/
import Derived.Test.YtlmnojbghgnniaaGreatDoorExE
namespace Bulk
open Go Go.RowKit

/-- The program's dispatcher and the document's, side by side. -/
structure TwoSt (S : List Srv) (H : Nat) (w wr : World) (db bx n : Nat) (G : Nat → Prop) : Prop where
  only : Only noB w wr
  dis : Dis S H wr db n G
  gb : ∀ b, G b → w.heap.size ≤ b ∧ b < wr.heap.size
  doc : DocSt S H w wr bx n G

theorem new_cells4 {W w7 : World} {b : Nat} {v0 v1 v2 v3 : Value} {t : TypeId} (h : Only noB W w7) (hb : W.heap[b]? = some (.cells #[v0, v1, v2, v3] t (0, 0))) :
    w7.cell? ⟨b, 0, none⟩ = some v0 ∧ w7.cell? ⟨b, 1, none⟩ = some v1 ∧ w7.cell? ⟨b, 2, none⟩ = some v2 ∧ w7.cell? ⟨b, 3, none⟩ = some v3 ∧ ∀ o, w7.frozen? ⟨b, o, none⟩ = false := by
  have k := (h.block b (Array.getElem?_eq_some_iff.1 hb).1 id).trans hb
  refine ⟨?_, ?_, ?_, ?_, fun o => ?_⟩ <;> simp [World.cell?, World.frozen?, k]

theorem TwoSt.step {S : List Srv} {H : Nat} {w w5 w6 w9 : World} {db bx n n' : Nat} {G : Nat → Prop} (h : TwoSt S H w w5 db bx n G) (ho : Only G w5 w6) (hd : Dis S H w6 db n' (Fr G w5 w6)) (h9 : DocSt S H w w9 bx n' (Fr G w5 w6)) (hb : Only (fun b => b = bx) w6 w9) :
    TwoSt S H w w9 db bx n' (Fr G w5 w6) := by
  have s1 := ho.size
  have s2 := hb.size
  have s3 := h.only.size
  have hlo := h9.lo
  refine ⟨(h.only.trans ho fun b hb2 e => by have := (h.gb b e).1; omega).trans hb fun b hb2 e => (by have e' : b = bx := e; omega), hd.kept hb fun b _ e1 e2 => (by obtain rfl : b = bx := e2; exact h9.ng e1), fun b e => ?_, h9⟩
  rcases e with e | e
  · have := h.gb b e; omega
  · omega

theorem TwoSt.kept {S : List Srv} {H : Nat} {w wr w' : World} {db bx n : Nat} {G : Nat → Prop} (h : TwoSt S H w wr db bx n G) (ho : Only noB wr w') : TwoSt S H w w' db bx n G :=
  ⟨h.only.trans ho fun _ _ h => h, h.dis.kept ho fun _ _ _ e => e, fun b hb => ⟨(h.gb b hb).1, by have := (h.gb b hb).2; have := ho.size; omega⟩, h.doc.kept ho⟩
end Bulk

namespace Go.Proofs.YtlmnojbghgnniaaGreatDoor.Ref
open Go.RowKit Bulk Ch On

/-- What the document's Advance has told, kept in sight. -/
theorem adv_keep {S : List Srv} {H n : Nat} {w6 W : World} {vp lp : Option Addr} {vc lc : Nat} (xi : Int) (hd : DocAt w6 (.agg #[.slice vp S.length vc, .int .i64 H, .int .i64 n, .slice lp S.length lc]) S H n) (hW : Only noB w6 W) (hh : hyperOf S = (H, 0)) (hn : n < 1099511627776) :
    Calls Tryz.prog 10 #[.agg #[.slice vp S.length vc, .int .i64 H, .int .i64 n, .slice lp S.length lc], .int .i64 xi] W fun e w' => ∃ lp' lc', e = .returned (.tuple #[.agg #[.slice vp S.length vc, .int .i64 H, .int .i64 (advN n xi : Nat), .slice lp' S.length lc'], .int .i64 (advE n xi)]) ∧ Only noB W w' ∧ Only noB w6 w' ∧
      DocAt w' (.agg #[.slice vp S.length vc, .int .i64 H, .int .i64 (advN n xi : Nat), .slice lp' S.length lc']) S H (advN n xi) ∧ (lp' = lp ∨ ∀ a, lp' = some a → W.heap.size ≤ a.block ∧ a.block < w'.heap.size) := by
  refine (adv_ref S H n _ xi W (hd.kept hW) hh hn).mono ?_
  rintro e w' ⟨x', rfl, ho, hdoc, hst⟩
  obtain ⟨vs, vl, rfl, h1, h2⟩ := id hdoc
  obtain ⟨pl, cl, rfl, _⟩ := h2.iat
  obtain ⟨vs0, k, m, vl0, k', m', vl', e1, e2, e3⟩ := hst
  rw [rList_len] at e2 hdoc ⊢
  simp only [Value.agg.injEq, Array.mk.injEq, List.cons.injEq, and_true] at e1 e2
  obtain ⟨rfl, _, _, rfl⟩ := e1
  obtain ⟨rfl, _, _, rfl⟩ := e2
  refine ⟨pl, cl, rfl, ho, hW.trans ho (fun _ _ h => h), hdoc, ?_⟩
  rcases e3 with e3 | e3
  · left; injection e3
  · right
    intro a ha
    obtain ⟨l1, l2⟩ := e3 a S.length cl (by rw [ha])
    exact ⟨l1, l2⟩

theorem dis_step {S : List Srv} {H : Nat} {w : World} {db now : Nat} {G : Nat → Prop} (h : Dis S H w db now G) (x : Int) (hh : hyperOf S = (H, 0)) :
    Calls Tryz.prog 9 #[.pointer (some ⟨db, 0, none⟩), .int .i64 x] w fun e w' => e = .returned (.int .i64 (advE now x)) ∧ Only G w w' ∧ Dis S H w' db (advN now x) (Fr G w w') := by
  by_cases hg : (now : Int) ≤ x ∧ x < 1099511627776
  · obtain ⟨k, rfl⟩ : ∃ k : Nat, x = k := ⟨x.toNat, by omega⟩
    have e1 : advE now k = 0 := by unfold advE; rw [if_pos hg]
    have e2 : advN now k = k := by unfold advN; rw [if_pos hg]; omega
    rw [e1, e2]
    exact dis_adv h (by omega) (by omega) hh
  · have e1 : advE now x = 2 := by unfold advE; rw [if_neg hg]
    have e2 : advN now x = now := by unfold advN; rw [if_neg hg]
    rw [e1, e2]
    refine (dis_bad h (by omega)).mono ?_
    rintro e w' ⟨he, rfl⟩
    exact ⟨he, Only.refl _ _, h.mono fun b _ hb => .inl hb⟩

set_option maxHeartbeats 4000000 in
set_option maxRecDepth 100000 in
theorem exact_any (S : List Srv) (v v1 : Value) (xs : List Int) (w : World) (hv : SrvF w v S) (hl : S.length * 32 ≤ 140737488351232) (hx : IntsAt w v1 xs) (hxl : xs.length ≤ 9223372036854775807) (hg : Ch.Hnd w) :
    Calls Tryz.prog 3 #[v, v1] w fun e w' => e = .returned (.bool true) ∧ Only noB w w' := by
  have HV := hid hv
  have HG := hid hg
  obtain ⟨pv, cv, rfl, _⟩ := hv.sat
  obtain ⟨px, cx, rfl, hcx⟩ := hx
  have HX := hid hcx
  have HBe := hid (begun_any S _ w hv hl hg)
  clear hv hg hcx
  go_enter Tryz.func3, Tryz.ntmps3
  go_wp2_with fail
  refine HBe.out.mono ?_
  rintro e w1 ⟨pa, H, rfl, ho1, hA⟩
  have HO1 := hid ho1
  have HAb := hid hA
  clear ho1 hA HBe
  go_wp2_with fail
  refine (new_ref S _ w1 (HV.out.kept HO1.out) (by omega)).mono ?_
  rintro e w2 ⟨x', rfl, ho2, hdoc, xp, xn, xc, xk, xm, xq, xr, xd, rfl, hxp, hxq⟩
  have HI2 := hid ho2
  have HDoc := hid (And.intro hdoc (And.intro hxp hxq))
  obtain ⟨w3, hw3⟩ : ∃ y : World, y = w2.alloc (.cells #[.slice xp xn xc, .int .i64 xk, .int .i64 xm, .slice xq xr xd] 28) := ⟨_, rfl⟩
  have HW3 := hid hw3
  have HO3 := hid (show Only noB w w3 from (HO1.out.trans ho2 (fun _ _ h => h)).trans (by rw [hw3]; exact (Only.refl _ _).alloc _) fun _ _ h => h)
  obtain ⟨er, her⟩ : ∃ er, er = (hyperOf S).2 := ⟨_, rfl⟩
  rw [← her]
  have HEr := hid her
  have d2 : (er != er) = false := by simp
  clear ho2 hdoc hxp hxq hw3 her
  rcases HAb.out with ⟨rfl, hne⟩ | ⟨db, rfl, hh, hD⟩
  · have d3 : (er != 0) = true := by rw [HEr.out]; simpa using hne
    clear hne
    go_wp2_with fail
    go_ret
    have h3 := HO3.out
    rw [HW3.out] at h3
    exact ⟨rfl, h3⟩
  · obtain rfl : er = 0 := by rw [HEr.out, hh]
    obtain ⟨ok, hlS, hH1, hH2, okk⟩ := sys_ok hh
    have HH := hid hh
    have HT := hid (show TwoSt S H w w3 db w2.heap.size 0 (Fr noB w w1) from by
      have hk : Only noB w1 w3 := HI2.out.trans (by rw [HW3.out]; exact (Only.refl _ _).alloc _) fun _ _ h => h
      have hs := hk.size
      exact ⟨HO3.out, hD.kept hk fun _ _ _ e => e, fun b hb => by have := hb.resolve_left id; omega, DocSt.first (HDoc.out.1 H HH.out) HO1.out.size HI2.out HDoc.out.2.1 HDoc.out.2.2 (fun b hb => (hb.resolve_left id).2) HW3.out⟩)
    generalize Fr noB w w1 = G0 at *
    clear hh hD HAb
    have HTo := hid (told_any S H 0 (.agg #[.slice xp xn xc, .int .i64 xk, .int .i64 xm, .slice xq xr xd]) w3 db G0 HT.out.dis ((HDoc.out.1 H HH.out).kept (by rw [HW3.out]; exact (Only.refl _ _).alloc _)) HH.out (by omega))
    obtain ⟨bx, hbx⟩ : ∃ b, b = w2.heap.size := ⟨_, rfl⟩
    rw [← hbx] at HT
    have HBx := hid hbx
    clear hbx
    go_wp2_with fail
    rw [← HW3.out, ← HBx.out]
    refine HTo.out.mono ?_
    rintro e w4 ⟨rfl, ho4⟩
    have HT4 := hid (HT.out.kept ho4)
    clear ho4 HTo
    go_wp2_with fail
    go_loopg [10] xs.length (fun g v10 wr => ∃ (i n : Nat) (G : Nat → Prop), i ≤ xs.length ∧ g = xs.length - i ∧ v10 = .int .i64 i ∧ n < 1099511627776 ∧ Hid (TwoSt S H w wr db bx n G))
    case atStart => exact ⟨0, 0, G0, by omega, rfl, rfl, by omega, HT4⟩
    case round =>
      obtain ⟨i, n, G, hi, rfl, rfl, hn, HR⟩ := hrel
      clear HT4 HT
      by_cases hi2 : i < xs.length
      · have d1 : decide (i < xs.length) = true := by simpa using hi2
        obtain ⟨a, rfl, hcx⟩ := HX.out i hi2
        have hin : (i : Int) < (xs.length : Int) := by omega
        generalize xs[i] = xi at *
        have HCx := hid hcx
        obtain ⟨vp, vc, lp, lc, hb4, hda, hov, hol⟩ := HR.out.doc.doc
        have HOff := hid (And.intro hov hol)
        have HB4 := hid hb4
        have HDa := hid hda
        have HMo := hid (most_any S H n _ wr hda hlS hH2)
        obtain ⟨c0, c1, c2, c3⟩ := hb4
        clear hda hov hol hcx
        go_wp2_with fail
        refine HMo.out.mono ?_
        rintro e w5 ⟨k, rfl, ho5⟩
        have HO5 := hid ho5
        have HR5 := hid (HR.out.kept ho5)
        clear ho5 HMo c0 c1 c2 c3
        by_cases hk : (i : Int) < k
        · have d3 : decide ((i : Int) < k) = true := by simpa using hk
          have hx5 := HR5.out.only.cell HCx.out id
          have HAd := hid (dis_step HR5.out.dis xi HH.out)
          clear hk
          go_wp2_with fail
          refine HAd.out.mono ?_
          rintro e w6 ⟨rfl, ho6, hd6⟩
          have HO6 := hid ho6
          have HDi := hid hd6
          have HDo := hid (HR5.out.doc.adv ho6)
          clear ho6 hd6 hx5 HAd
          obtain ⟨vp, vc, lp, lc, hb4, hda, hov, hol⟩ := HDo.out.doc
          have HOff := hid (And.intro hov hol)
          have HB4 := hid hb4
          have hx6 : w6.cell? (a.add i) = some (.int .i64 xi) := by
            have hlt := World.block_lt_of_cell? _ _ HCx.out
            exact HO6.out.cell (HR5.out.only.cell HCx.out id) fun e => by have := (HR5.out.gb _ e).1; omega
          have HX6 := hid hx6
          have HAr := hid (show ∀ W, Only noB w6 W → Calls Tryz.prog 10 #[.agg #[.slice vp S.length vc, .int .i64 H, .int .i64 n, .slice lp S.length lc], .int .i64 xi] W fun e w' => ∃ lp' lc', e = .returned (.tuple #[.agg #[.slice vp S.length vc, .int .i64 H, .int .i64 (advN n xi : Nat), .slice lp' S.length lc'], .int .i64 (advE n xi)]) ∧
              (w'.cell? ⟨bx, 0, none⟩ = some (.slice vp S.length vc) ∧ w'.cell? ⟨bx, 1, none⟩ = some (.int .i64 H) ∧ w'.cell? ⟨bx, 2, none⟩ = some (.int .i64 n) ∧ w'.cell? ⟨bx, 3, none⟩ = some (.slice lp S.length lc) ∧ w'.cell? (a.add i) = some (.int .i64 xi)) ∧ Hid (Only noB W w') ∧
              Hid (Only noB w6 w' ∧ DocAt w' (.agg #[.slice vp S.length vc, .int .i64 H, .int .i64 (advN n xi : Nat), .slice lp' S.length lc']) S H (advN n xi) ∧ (lp' = lp ∨ ∀ a, lp' = some a → W.heap.size ≤ a.block ∧ a.block < w'.heap.size)) from fun W hW => by
            refine (adv_keep xi hda hW HH.out hn).mono ?_
            rintro e w' ⟨lp', lc', rfl, h0, h1, h2, h3⟩
            obtain ⟨b0, b1, b2, b3⟩ := HB4.out.kept h1 (E := noB) id
            exact ⟨lp', lc', rfl, ⟨b0, b1, b2, b3, h1.cell HX6.out id⟩, hid h0, hid ⟨h1, h2, h3⟩⟩)
          have HNe := hid (show ¬ (bx = w6.heap.size) ∧ ¬ ((a.add i).block = w6.heap.size) from ⟨by have := HDo.out.hi; omega, by have := World.block_lt_of_cell? _ _ hx6; omega⟩)
          obtain ⟨c0, c1, c2, c3⟩ := hb4
          clear hov hol hda
          go_wp2_with fail
          go_region_held3 (fun w' => w'.cell? ⟨bx, 0, none⟩ = some (.slice vp S.length vc) ∧ w'.cell? ⟨bx, 1, none⟩ = some (.int .i64 H) ∧ w'.cell? ⟨bx, 2, none⟩ = some (.int .i64 n) ∧ w'.cell? ⟨bx, 3, none⟩ = some (.slice lp S.length lc) ∧ w'.cell? (a.add i) = some (.int .i64 xi)) (first | go_keep | exact ⟨four_only.cell k1.1 HNe.out.1, four_only.cell k1.2.1 HNe.out.1, four_only.cell k1.2.2.1 HNe.out.1, four_only.cell k1.2.2.2.1 HNe.out.1, four_only.cell k1.2.2.2.2 HNe.out.2⟩ | exact ⟨cell_alloc_keep k1.1 _, cell_alloc_keep k1.2.1 _, cell_alloc_keep k1.2.2.1 _, cell_alloc_keep k1.2.2.2.1 _, cell_alloc_keep k1.2.2.2.2 _⟩)
            (first | (go_at_call 10; refine (HAr.out _ (by first | exact (Only.refl _ _).drew | exact Only.refl _ _ | exact (Only.refl _ _).drew.alloc _ | exact (Only.refl _ _).alloc _)).mono ?_; rintro e w7 ⟨lp', lc', rfl, k1, HO, HK⟩; (first | (have hz4 := new_cells4 (b := w6.heap.size) HO.out (heap_alloc_at0 w6.drew _); obtain ⟨z0, z1, z2, z3, zf⟩ := hz4) | (have hz4 := new_cells4 (b := w6.heap.size) HO.out (heap_alloc_at0 w6 _); obtain ⟨z0, z1, z2, z3, zf⟩ := hz4) | skip)))
          case' refine_2.refine_3.refine_3.refine_3.refine_3.refine_3.refine_1.refine_2.refine_3.refine_3.refine_3.refine_1.refine_2.refine_1.refine_2.refine_3 =>
            obtain ⟨bt, hbt⟩ : ∃ b, b = w7.heap.size := ⟨_, rfl⟩
            obtain ⟨w8, hw8⟩ : ∃ y : World, y = w7.alloc (.cells #[.slice vp S.length vc, .int .i64 H, .int .i64 (advN n xi : Nat), .slice lp' S.length lc'] 28) := ⟨_, rfl⟩
            have h78 : Only noB w7 w8 := by rw [hw8]; exact (Only.refl _ _).alloc _
            have HS8 := hid (show Only noB w6 w8 ∧ DocAt w8 (.agg #[.slice vp S.length vc, .int .i64 H, .int .i64 (advN n xi : Nat), .slice lp' S.length lc']) S H (advN n xi) ∧ (lp' = lp ∨ ∀ a, lp' = some a → w6.heap.size ≤ a.block ∧ a.block < w8.heap.size) ∧ ¬ bt = bx from by
              refine ⟨HK.out.1.trans h78 (fun _ _ h => h), HK.out.2.1.kept h78, HK.out.2.2.imp id fun h a e => ?_, ?_⟩
              · have h1 := h a e
                have h2 := h78.size
                exact ⟨h1.1, by omega⟩
              · have h1 := HK.out.1.size
                have h2 := HDo.out.hi
                omega)
            have hbt4 : Box4 w8 bt (.slice vp S.length vc) (.int .i64 H) (.int .i64 (advN n xi : Nat)) (.slice lp' S.length lc') := by rw [hw8, hbt]; refine ⟨?_, ?_, ?_, ?_⟩ <;> simp
            rw [← hbt, ← hw8]
            clear hw8 hbt h78
          case' refine_2.refine_3.refine_3.refine_3.refine_3.refine_3.refine_2.refine_1.refine_2.refine_1.refine_2.refine_3.refine_3.refine_3.refine_1.refine_2.refine_3 =>
            obtain ⟨bt, hbt⟩ : ∃ b, b = w6.heap.size := ⟨_, rfl⟩
            obtain ⟨w8, hw8⟩ : ∃ y : World, y = ((((w7.setCell ⟨w6.heap.size, 0, none⟩ (.slice vp S.length vc)).setCell ⟨w6.heap.size, 1, none⟩ (.int .i64 H)).setCell ⟨w6.heap.size, 2, none⟩ (.int .i64 (advN n xi : Nat))).setCell ⟨w6.heap.size, 3, none⟩ (.slice lp' S.length lc')) := ⟨_, rfl⟩
            have h78 : Only (fun b => b = w6.heap.size) w7 w8 := by rw [hw8]; exact four_only
            have HS8 := hid (show Only noB w6 w8 ∧ DocAt w8 (.agg #[.slice vp S.length vc, .int .i64 H, .int .i64 (advN n xi : Nat), .slice lp' S.length lc']) S H (advN n xi) ∧ (lp' = lp ∨ ∀ a, lp' = some a → w6.heap.size ≤ a.block ∧ a.block < w8.heap.size) ∧ ¬ bt = bx from by
              have h2 := h78.size
              have h3 : ∀ a, lp' = some a → ¬ a.block = w6.heap.size := fun a e => by
                rcases HK.out.2.2 with h | h
                · have := (HOff.out.2 a (h ▸ e)).1; omega
                · have := (h a e).1; simp at this; omega
              obtain ⟨vs0, vl0, e0, d1, d2⟩ := HK.out.2.1
              simp only [Value.agg.injEq, Array.mk.injEq, List.cons.injEq, and_true, true_and] at e0
              obtain ⟨rfl, rfl⟩ := e0
              refine ⟨HK.out.1.trans h78 (fun b hb e => (by have e' : b = w6.heap.size := e; omega)), ⟨_, _, rfl, d1.keptE h78 fun a e => ?_, d2.keptE h78 h3⟩, HK.out.2.2.imp id fun h a e => ?_, ?_⟩
              · have := (HOff.out.1 a e).1
                exact fun e2 => by have e' : a.block = w6.heap.size := e2; omega
              · have h1 := h a e
                simp at h1
                exact ⟨by omega, by omega⟩
              · exact fun e => HNe.out.1 (by rw [← e, hbt]))
            have hbt4 : Box4 w8 bt (.slice vp S.length vc) (.int .i64 H) (.int .i64 (advN n xi : Nat)) (.slice lp' S.length lc') := by
              rw [hw8, hbt]
              exact ⟨cell_set_off (cell_set_off (cell_set_off (cell_set_same z0) (by decide)) (by decide)) (by decide), cell_set_off (cell_set_off (cell_set_same (cell_set_off z1 (by decide))) (by decide)) (by decide), cell_set_off (cell_set_same (cell_set_off (cell_set_off z2 (by decide)) (by decide))) (by decide), cell_set_same (cell_set_off (cell_set_off (cell_set_off z3 (by decide)) (by decide)) (by decide))⟩
            rw [← hw8, ← hbt]
            clear hw8 hbt h78
          all_goals
            obtain ⟨y0, y1, y2, y3⟩ := HB4.out.kept HS8.out.1 (E := noB) id
            have fz := (HDo.out.kept HS8.out.1).fz
            have hne := HS8.out.2.2.2
            have hne2 : ¬ bx = bt := fun e => hne e.symm
            obtain ⟨t0, t1, t2, t3⟩ := hbt4
            obtain ⟨w9, hw9⟩ : ∃ y : World, y = ((((w8.setCell ⟨bx, 0, none⟩ (.slice vp S.length vc)).setCell ⟨bx, 1, none⟩ (.int .i64 H)).setCell ⟨bx, 2, none⟩ (.int .i64 (advN n xi : Nat))).setCell ⟨bx, 3, none⟩ (.slice lp' S.length lc')) := ⟨_, rfl⟩
            have hgG : ∀ b, Fr G w5 w6 b → b < w6.heap.size := fun b e => by
              have := HO6.out.size
              rcases e with e | e
              · have := (HR5.out.gb b e).2; omega
              · exact e.2
            have HSt := hid (HDo.out.step (w4 := w9) HOff.out.1 HOff.out.2 hgG HS8.out.1 HS8.out.2.1 HS8.out.2.2.1 (Only.refl _ _) hw9)
            have HT9 := hid (HR5.out.step HO6.out HDi.out HSt.out.1 HSt.out.2.1)
            have hn' := advN_lt xi hn
            have HTo := hid (told_any S H (advN n xi) _ w9 db _ HT9.out.dis HSt.out.2.2 HH.out hn')
            have HW9 := hid hw9
            have d5 : (advE n xi != advE n xi) = false := by simp
            clear hw9 hgG HAr
            generalize advE n xi = er2 at *
            generalize advN n xi = n' at *
            go_wp2_with fail
            rw [← HW9.out]
            refine HTo.out.mono ?_
            rintro e w10 ⟨rfl, ho10⟩
            have HT10 := hid (HT9.out.kept ho10)
            clear ho10 HTo
            go_wp2_with fail
            go_roundg (xs.length - (i + 1))
            case measure => omega
            case rel => exact ⟨i + 1, n', _, by omega, rfl, by go_num, hn', HT10⟩
        · have d3 : decide ((i : Int) < k) = false := by simpa using hk
          clear hk
          go_wp2_with fail
          go_ret
          exact ⟨rfl, HR5.out.only⟩
      · have d1 : decide (i < xs.length) = false := by simpa using hi2
        clear hi hi2
        go_wp2_with fail
        go_ret
        exact ⟨rfl, HR.out.only⟩
end Go.Proofs.YtlmnojbghgnniaaGreatDoor.Ref
