/- The document's begin, Advance. -/
import Derived.Test.YtlmnojbghgnniaaGreatDoorRefG
namespace Bulk
open Go Go.RowKit

/-- Where a dispatcher stands behind a call of Advance, and what it answers. -/
def advN (now : Nat) (x : Int) : Nat := if (now : Int) ≤ x ∧ x < 1099511627776 then x.toNat else now
def advE (now : Nat) (x : Int) : Int := if (now : Int) ≤ x ∧ x < 1099511627776 then 0 else 2

theorem advN_lt {now : Nat} (x : Int) (h : now < 1099511627776) : advN now x < 1099511627776 := by
  unfold advN; split <;> omega

theorem own_keptE {w w' : World} {v : Value} {base e sz n : Nat} {xs : List Value} {E : Nat → Prop} (h : w.ownsRow base e sz v n xs) (ho : Only E w w') (hE : ∀ b, base ≤ b → ¬ E b) : w'.ownsRow base e sz v n xs :=
  own_of_blocks h fun b hb => ho.block b (h.lt b hb).2 (hE b (h.lt b hb).1)

theorem adv_end {S : List Srv} {w wb w2 w' : World} {vs v' : Value} {H t1 : Nat} (ho : Only noB w wb) (h2 : RestSt S wb.heap.size wb w2 v' ((sysOf S).st t1)) (hE : Only (fun b => w.heap.size ≤ b ∧ b < wb.heap.size) w2 w') (hs : SrvF w vs S) :
    Only noB w w' ∧ DocAt w' (.agg #[vs, .int .i64 H, .int .i64 t1, v']) S H t1 := by
  have h1 : Only noB w w' := (ho.trans h2.only (fun _ _ h => h)).trans hE fun x hx e => by omega
  exact ⟨h1, vs, v', rfl, hs.kept h1, IntsF.own (rList_len S _) (own_keptE h2.own hE fun b hb e => by omega)⟩

theorem box_facts {w wb w2 : World} {v0 v1 v2 v3 : Value} {t : TypeId} (h : wb = (w.alloc (.cells #[v0, v1, v2, v3] t)).alloc (.cells #[.slice none 0 0, .int .i64 0, .int .i64 0, .slice none 0 0] t)) (ho : Only noB wb w2) :
    (w2.cell? ⟨w.heap.size, 0, none⟩ = some v0 ∧ w2.cell? ⟨w.heap.size, 1, none⟩ = some v1 ∧ w2.cell? ⟨w.heap.size, 2, none⟩ = some v2 ∧ w2.cell? ⟨w.heap.size, 3, none⟩ = some v3) ∧
    (w2.cell? ⟨w.heap.size + 1, 0, none⟩ = some (.slice none 0 0) ∧ w2.cell? ⟨w.heap.size + 1, 1, none⟩ = some (.int .i64 0) ∧ w2.cell? ⟨w.heap.size + 1, 2, none⟩ = some (.int .i64 0) ∧ w2.cell? ⟨w.heap.size + 1, 3, none⟩ = some (.slice none 0 0)) ∧
    (∀ o, w2.frozen? ⟨w.heap.size, o, none⟩ = false) ∧ (∀ o, w2.frozen? ⟨w.heap.size + 1, o, none⟩ = false) ∧ wb.heap.size = w.heap.size + 2 := by
  subst h
  have e1 : ((w.alloc (.cells #[v0, v1, v2, v3] t)).alloc (.cells #[.slice none 0 0, .int .i64 0, .int .i64 0, .slice none 0 0] t)).heap[w.heap.size]? = some (.cells #[v0, v1, v2, v3] t (0, 0)) := heap_alloc2_old _ _ _
  have e2 : ((w.alloc (.cells #[v0, v1, v2, v3] t)).alloc (.cells #[.slice none 0 0, .int .i64 0, .int .i64 0, .slice none 0 0] t)).heap[w.heap.size + 1]? = some (.cells #[.slice none 0 0, .int .i64 0, .int .i64 0, .slice none 0 0] t (0, 0)) := Go.Proofs.YtlmnojbghgnniaaGreatDoor.Ch.heap_alloc_at1 _ _ _
  have k1 : w2.heap[w.heap.size]? = _ := (ho.block _ (by simp; omega) id).trans e1
  have k2 : w2.heap[w.heap.size + 1]? = _ := (ho.block _ (by simp) id).trans e2
  refine ⟨⟨?_, ?_, ?_, ?_⟩, ⟨?_, ?_, ?_, ?_⟩, fun o => ?_, fun o => ?_, by simp⟩ <;> simp [World.cell?, World.frozen?, k1, k2]

theorem six_only {w wb w2 : World} {a b c d e f : Value} (hsz : wb.heap.size = w.heap.size + 2) : Only (fun b => w.heap.size ≤ b ∧ b < wb.heap.size) w2
    ((((((w2.setCell ⟨w.heap.size, 3, none⟩ a).setCell ⟨w.heap.size, 2, none⟩ b).setCell ⟨w.heap.size + 1, 0, none⟩ c).setCell ⟨w.heap.size + 1, 1, none⟩ d).setCell ⟨w.heap.size + 1, 2, none⟩ e).setCell ⟨w.heap.size + 1, 3, none⟩ f) := by
  have h0 : w.heap.size ≤ w.heap.size ∧ w.heap.size < wb.heap.size := by omega
  have h1 : w.heap.size ≤ w.heap.size + 1 ∧ w.heap.size + 1 < wb.heap.size := by omega
  exact ((((((Only.refl _ w2).setCell (.inl h0) _).setCell (.inl h0) _).setCell (.inl h1) _).setCell (.inl h1) _).setCell (.inl h1) _).setCell (.inl h1) _

theorem cell_set_off {w : World} {b i j : Nat} {u v : Value} (h : w.cell? ⟨b, i, none⟩ = some v) (hij : i ≠ j) : (w.setCell ⟨b, j, none⟩ u).cell? ⟨b, i, none⟩ = some v := by
  unfold World.cell? at h ⊢
  simp only [World.setCell, Array.getElem?_modify, if_true]
  cases hb : w.heap[b]? with
  | none => rw [hb] at h; cases h
  | some o =>
    rw [hb] at h
    cases o with
    | cells cs t fz =>
      simp only [Option.map_some] at h ⊢
      have : (cs.setIfInBounds j u)[i]? = cs[i]? := Array.getElem?_setIfInBounds_ne (fun e => hij e.symm)
      simpa [this] using h
    | _ => cases h

/-- A step of the document's dispatcher: the servers' list is the same, the rests' list is new, or the same. -/
def DocStep (w w' : World) (x x' : Value) : Prop := ∃ vs k m vl k' m' vl', x = .agg #[vs, k, m, vl] ∧ x' = .agg #[vs, k', m', vl'] ∧ (vl' = vl ∨ ∀ a n c, vl' = .slice (some a) n c → w.heap.size ≤ a.block ∧ a.block < w'.heap.size)

theorem rel_zero (S : List Srv) (i : Nat) : relF S (fun _ => 0) 0 i = (sysOf S).st 0 i := rfl
end Bulk

namespace Go.Proofs.YtlmnojbghgnniaaGreatDoor.Ref
open Go.RowKit Bulk Ch On

set_option maxHeartbeats 2000000 in
set_option maxRecDepth 100000 in
theorem begin_ref (S : List Srv) (v : Value) (w : World) (hv : SrvAt w v S) (hl : S.length ≤ 32) (ok : okL S) :
    Calls Tryz.prog 16 #[v] w fun e w' => ∃ v', e = .returned v' ∧ RestSt S w.heap.size w w' v' ((sysOf S).st 0) := by
  have hmk := Go.run_make_row' (P := Tryz.prog) 23 3 (.int .i64 0) 8 Tryz.underlying23 Wh.info3 rfl .i64 .i64 S.length (by omega) (by omega) w
  have HV := hid hv
  obtain ⟨pv, cv, rfl, hsv⟩ := hv
  clear hsv
  go_enter Tryz.func16, Tryz.ntmps16
  have HI := hid (show IntsAt (w.alloc (.cells (madeCells #[.int .i64 0] S.length) 3)) (.slice (some ⟨w.heap.size, 0, none⟩) S.length S.length) (rList S (fun _ => 0)) from
    ⟨_, S.length, by rw [rList_len], fun j hj => ⟨_, rfl, by
      rw [rList_at, Addr.add_lit, Nat.zero_add]
      rw [rList_len] at hj
      unfold World.cell?
      rw [heap_alloc_at0]
      exact made_at _ _ _ hj⟩⟩)
  have HR := hid (released_any S (fun _ => 0) 0 _ _ _ (SrvAt.kept HV.out ((Only.refl noB w).alloc (.cells (madeCells #[.int .i64 0] S.length) 3))) HI.out ok hl (by omega))
  go_wp2_with fail
  refine HR.out.mono ?_
  rintro e w2 ⟨v', rfl, ho, hown⟩
  have HE := hid (show RestSt S w.heap.size w w2 v' ((sysOf S).st 0) from RestSt.base (w1 := w.alloc (.cells (madeCells #[.int .i64 0] S.length) 3)) ⟨ho, hown⟩ ((Only.refl noB w).alloc _) (by simp))
  clear ho hown HR HI hmk
  go_wp2_with fail
  go_ret
  exact ⟨_, rfl, HE.out⟩

set_option maxHeartbeats 4000000 in
set_option maxRecDepth 100000 in
theorem adv_ref (S : List Srv) (H now : Nat) (x : Value) (tt : Int) (w : World) (hx : DocAt w x S H now) (hh : hyperOf S = (H, 0)) (hn : now < 1099511627776) :
    Calls Tryz.prog 10 #[x, .int .i64 tt] w fun e w' => ∃ x', e = .returned (.tuple #[x', .int .i64 (advE now tt)]) ∧ Only noB w w' ∧ DocAt w' x' S H (advN now tt) ∧ DocStep w w' x x' := by
  obtain ⟨ok, hl, hH1, hH2, okk⟩ := sys_ok hh
  have HB := hid (fun t i hi => st_bd ok okk t i hi)
  have HX := hid hx
  obtain ⟨vs, vl, rfl, h1, h2⟩ := hx
  obtain ⟨pv, cv, rfl, _⟩ := h1.sat
  obtain ⟨pl, cl, rfl, _⟩ := h2.iat
  have HSF := hid h1
  have HIF := hid h2
  rw [rList_len] at HX HIF ⊢
  obtain ⟨wb, hwb⟩ : ∃ y : World, y = (w.alloc (.cells #[.slice pv S.length cv, .int .i64 H, .int .i64 now, .slice pl S.length cl] 28)).alloc (.cells #[.slice none 0 0, .int .i64 0, .int .i64 0, .slice none 0 0] 28) := ⟨_, rfl⟩
  have ho : Only noB w wb := by rw [hwb]; exact ((Only.refl _ _).alloc _).alloc _
  have HO := hid ho
  have HWb := hid hwb
  clear h1 h2 hwb ho
  by_cases hg : (now : Int) ≤ tt ∧ tt < 1099511627776
  · obtain ⟨t1, rfl⟩ : ∃ k : Nat, tt = k := ⟨tt.toNat, by omega⟩
    have E1 := hid (show advE now t1 = 0 by unfold advE; rw [if_pos hg])
    have E2 := hid (show advN now t1 = t1 by unfold advN; rw [if_pos hg]; omega)
    have ht1 : now ≤ t1 := by omega
    have ht2 : t1 < 1099511627776 := by omega
    have d1 : decide (t1 < now) = false := by simp; omega
    have d2 : decide ((1099511627776 : Int) ≤ t1) = false := by simp; omega
    have e1 : IntKind.i64.wrap ((t1 : Int) - now) = ((t1 - now : Nat) : Int) := by rw [IntWalk.i64_in _ (by omega)]; omega
    have e2 : IntKind.i64.wrap ((3 : Int) * H) = ((3 * H : Nat) : Int) := by rw [IntWalk.i64_in _ (by omega)]; omega
    by_cases h3 : t1 - now ≤ 3 * H
    · have d3 : decide (t1 - now ≤ 3 * H) = true := by simpa using h3
      have HT := hid (And.intro ht1 ht2)
      have HLd := hid (show Calls Tryz.prog 27 #[.slice pv S.length cv, .slice pl S.length cl, .int .i64 now, .int .i64 t1] wb fun e w' => ∃ v', e = .returned v' ∧ RestSt S wb.heap.size wb w' v' ((sysOf S).st t1) from led_any S now t1 _ _ wb (HSF.out.kept HO.out).sat (HIF.out.kept HO.out) ok hl ht1 ht2 HB.out)
      generalize t1 - now = df at *
      generalize 3 * H = h3H at *
      clear hg h3 ht1 ht2
      go_enter Tryz.func10, Tryz.ntmps10
      go_wp2_with fail
      rw [← HWb.out]
      refine HLd.out.mono ?_
      rintro e w2 ⟨v', rfl, hr⟩
      obtain ⟨pr, cr, rfl⟩ := hr.shape
      have HR := hid hr
      have HBx := hid (box_facts HWb.out hr.only)
      obtain ⟨⟨c0, c1, c2, c3⟩, ⟨z0, z1, z2, z3⟩, f0, f1, hsz⟩ := HBx.out
      clear hr HLd
      go_wp2_with fail
      have HEnd := hid (fun (w' : World) (hE : Only (fun b => w.heap.size ≤ b ∧ b < wb.heap.size) w2 w') => adv_end (H := H) HO.out HR.out hE HSF.out)
      refine bodyPost_ret (v := .tuple #[.agg #[.slice pv S.length cv, .int .i64 H, .int .i64 t1, .slice pr S.length cr], .int .i64 0]) (by simp [results, Tryz.results10, go_sem, z0, z1, z2, z3]) rfl ⟨_, by rw [E1.out], ?_⟩
      rw [E2.out]
      refine ⟨(HEnd.out _ (six_only hsz)).1, (HEnd.out _ (six_only hsz)).2, _, _, _, _, _, _, _, rfl, rfl, .inr fun a n c ha => ?_⟩
      injection ha with ha _ _
      subst ha
      obtain ⟨l1, l2⟩ := HR.out.own.lt a.block rfl
      have l3 := (six_only (w := w) (w2 := w2) (wb := wb) (a := .slice (some a) S.length cr) (b := .int .i64 t1) (c := .slice pv S.length cv) (d := .int .i64 H) (e := .int .i64 t1) (f := .slice (some a) S.length cr) hsz).size
      exact ⟨by omega, by omega⟩
    · have d3 : decide (t1 - now ≤ 3 * H) = false := by simpa using h3
      have hm1 : (t1 - 2 * H) % H < H := Nat.mod_lt _ (by omega)
      have e3 : IntKind.i64.wrap ((2 : Int) * H) = ((2 * H : Nat) : Int) := by rw [IntWalk.i64_in _ (by omega)]; omega
      have e4 : IntKind.i64.wrap ((t1 : Int) - (2 * H : Nat)) = ((t1 - 2 * H : Nat) : Int) := by rw [IntWalk.i64_in _ (by omega)]; omega
      have e5 : Int.tmod ((t1 - 2 * H : Nat) : Int) (H : Int) = (((t1 - 2 * H) % H : Nat) : Int) := (Int.ofNat_tmod _ _).symm
      have e6 : ¬ (H : Int) = 0 := by omega
      have e9 : ((H : Int) == 0) = false := by simp; omega
      have e11 : ¬ H = 0 := by omega
      have e12 : (H == 0) = false := by simp; omega
      have e13 : decide ((H : Int) = 0) = false := by simp; omega
      have e7 : IntKind.i64.wrap (((2 * H : Nat) : Int) + ((t1 - 2 * H) % H : Nat)) = ((2 * H + (t1 - 2 * H) % H : Nat) : Int) := by rw [IntWalk.i64_in _ (by omega)]; omega
      have e8 : IntKind.i64.wrap (((t1 - 2 * H) % H : Nat) : Int) = (((t1 - 2 * H) % H : Nat) : Int) := IntWalk.i64_in _ (by omega)
      have HSt := hid (show ∀ k, k < S.length → (sysOf S).st (2 * H + (t1 - 2 * H) % H) k = (sysOf S).st t1 k from fun k hk => by
        have h := Sys.st_again_mul okk (h := H) rfl (t := 2 * H + (t1 - 2 * H) % H) (i := k) hk (by omega) ((t1 - 2 * H) / H)
        rw [← h]
        congr 1
        have := Nat.div_add_mod (t1 - 2 * H) H
        rw [Nat.mul_comm] at this
        omega)
      have HBg := hid (show ∀ W, Only noB wb W → Calls Tryz.prog 16 #[.slice pv S.length cv] W fun e w' => ∃ v', e = .returned v' ∧ (w'.cell? ⟨w.heap.size, 0, none⟩ = some (.slice pv S.length cv) ∧ w'.cell? ⟨w.heap.size, 1, none⟩ = some (.int .i64 H)) ∧ Hid (Only noB wb w' ∧ IntsF w' v' (rList S ((sysOf S).st 0))) from fun W hW => by
        refine (begin_ref S (.slice pv S.length cv) W ((HSF.out.kept HO.out).kept hW).sat hl ok).mono ?_
        rintro e w' ⟨v', rfl, hr⟩
        have hk := hW.trans hr.only (fun _ _ h => h)
        obtain ⟨⟨c0, c1, c2, c3⟩, _⟩ := box_facts HWb.out hk
        exact ⟨v', rfl, ⟨c0, c1⟩, hid ⟨hk, hr.intsF⟩⟩)
      have HLd := hid (show ∀ W v0, Only noB wb W → IntsF W v0 (rList S ((sysOf S).st 0)) → Calls Tryz.prog 27 #[.slice pv S.length cv, v0, .int .i64 0, .int .i64 ((2 * H + (t1 - 2 * H) % H : Nat) : Int)] W fun e w' => ∃ pr cr, e = .returned (.slice pr S.length cr) ∧ (w'.cell? ⟨w.heap.size, 0, none⟩ = some (.slice pv S.length cv) ∧ w'.cell? ⟨w.heap.size, 1, none⟩ = some (.int .i64 H)) ∧ Hid (RestSt S wb.heap.size wb w' (.slice pr S.length cr) ((sysOf S).st t1)) from fun W v0 hW h0 => by
        refine (led_any S 0 (2 * H + (t1 - 2 * H) % H) (.slice pv S.length cv) v0 W ((HSF.out.kept HO.out).kept hW).sat h0 ok hl (by omega) (by omega) HB.out).mono ?_
        rintro e w' ⟨v', rfl, hr⟩
        obtain ⟨pr, cr, rfl⟩ := hr.shape
        have hk := hW.trans hr.only (fun _ _ h => h)
        obtain ⟨⟨c0, c1, c2, c3⟩, _⟩ := box_facts HWb.out hk
        exact ⟨pr, cr, rfl, ⟨c0, c1⟩, hid ((hr.base hW hW.size).congr HSt.out)⟩)
      generalize 2 * H + (t1 - 2 * H) % H = zz at *
      generalize (t1 - 2 * H) % H = mm at *
      generalize t1 - 2 * H = df2 at *
      generalize 2 * H = h2H at *
      generalize t1 - now = df at *
      generalize 3 * H = h3H at *
      have HE := hid (And.intro e3 (And.intro e4 (And.intro e5 (And.intro e7 e8))))
      clear hg h3 ht1 ht2 hm1 e3 e4 e5 e7 e8
      go_enter Tryz.func10, Tryz.ntmps10
      go_wp2_with fail
      rw [← HWb.out]
      obtain ⟨⟨c0, c1, c2, c3⟩, _⟩ := box_facts HWb.out (Only.refl noB wb)
      clear c2 c3
      obtain ⟨e3, e4, e5, e7, e8⟩ := HE.out
      go_region_held3 (fun w' => w'.cell? ⟨w.heap.size, 0, none⟩ = some (.slice pv S.length cv) ∧ w'.cell? ⟨w.heap.size, 1, none⟩ = some (.int .i64 H)) (first | go_keep | exact ⟨cell_set_off k2.1 (by decide), cell_set_off k2.2 (by decide)⟩)
        (first | (go_at_call 16; refine (HBg.out _ (by first | exact (Only.refl _ _).drew | exact Only.refl _ _)).mono ?_; rintro e w1 ⟨v', rfl, k1, HK⟩) | (go_at_call 27; refine (HLd.out _ _ HK.out.1 HK.out.2).mono ?_; rintro e w2 ⟨pr, cr, rfl, k2, HR⟩; obtain ⟨⟨b0, b1, b2, b3⟩, ⟨z0, z1, z2, z3⟩, f0, f1, hsz⟩ := box_facts HWb.out HR.out.only))
      rename_i hHeld
      clear hHeld k1 k2 c0 c1 e3 e4 e5 e7 e8
      go_wp2_with fail
      have HEnd := hid (fun (w' : World) (hE : Only (fun b => w.heap.size ≤ b ∧ b < wb.heap.size) w2 w') => adv_end (H := H) HO.out HR.out hE HSF.out)
      refine bodyPost_ret (v := .tuple #[.agg #[.slice pv S.length cv, .int .i64 H, .int .i64 t1, .slice pr S.length cr], .int .i64 0]) (by simp [results, Tryz.results10, go_sem, z0, z1, z2, z3]) rfl ⟨_, by rw [E1.out], ?_⟩
      rw [E2.out]
      refine ⟨(HEnd.out _ (six_only hsz)).1, (HEnd.out _ (six_only hsz)).2, _, _, _, _, _, _, _, rfl, rfl, .inr fun a n c ha => ?_⟩
      injection ha with ha _ _
      subst ha
      obtain ⟨l1, l2⟩ := HR.out.own.lt a.block rfl
      have l3 := (six_only (w := w) (w2 := w2) (wb := wb) (a := .slice (some a) S.length cr) (b := .int .i64 t1) (c := .slice pv S.length cv) (d := .int .i64 H) (e := .int .i64 t1) (f := .slice (some a) S.length cr) hsz).size
      exact ⟨by omega, by omega⟩
  · have E1 := hid (show advE now tt = 2 by unfold advE; rw [if_neg hg])
    have E2 := hid (show advN now tt = now by unfold advN; rw [if_neg hg])
    by_cases h1 : tt < now
    · have d1 : decide (tt < now) = true := by simpa using h1
      clear hg h1
      go_enter Tryz.func10, Tryz.ntmps10
      go_wp2_with fail
      refine bodyPost_ret (v := .tuple #[.agg #[.slice pv S.length cv, .int .i64 H, .int .i64 now, .slice pl S.length cl], .int .i64 2]) (by simp [results, Tryz.results10, go_sem]) rfl ⟨_, by rw [E1.out], ?_⟩
      rw [E2.out]
      exact ⟨((Only.refl _ w).alloc _).alloc _, HX.out.kept (((Only.refl _ w).alloc _).alloc _), _, _, _, _, _, _, _, rfl, rfl, .inl rfl⟩
    · have d1 : decide (tt < now) = false := by simpa using h1
      have d2 : decide ((1099511627776 : Int) ≤ tt) = true := by simp; omega
      clear hg h1
      go_enter Tryz.func10, Tryz.ntmps10
      go_wp2_with fail
      refine bodyPost_ret (v := .tuple #[.agg #[.slice pv S.length cv, .int .i64 H, .int .i64 now, .slice pl S.length cl], .int .i64 2]) (by simp [results, Tryz.results10, go_sem]) rfl ⟨_, by rw [E1.out], ?_⟩
      rw [E2.out]
      exact ⟨((Only.refl _ w).alloc _).alloc _, HX.out.kept (((Only.refl _ w).alloc _).alloc _), _, _, _, _, _, _, _, rfl, rfl, .inl rfl⟩
end Go.Proofs.YtlmnojbghgnniaaGreatDoor.Ref
