/- The document's New. -/
import Derived.Test.YtlmnojbghgnniaaGreatDoorRefH
namespace Bulk
open Go Go.RowKit
theorem four_only {w2 : World} {b : Nat} {c d e f : Value} : Only (fun x => x = b) w2 ((((w2.setCell ⟨b, 0, none⟩ c).setCell ⟨b, 1, none⟩ d).setCell ⟨b, 2, none⟩ e).setCell ⟨b, 3, none⟩ f) := by
  have h : b = b ∨ w2.heap.size ≤ b := .inl rfl
  exact ((((Only.refl _ w2).setCell h _).setCell h _).setCell h _).setCell h _
end Bulk

namespace Go.Proofs.YtlmnojbghgnniaaGreatDoor.Ref
open Go.RowKit Bulk Ch On

set_option maxHeartbeats 4000000 in
set_option maxRecDepth 100000 in
theorem new_ref (S : List Srv) (v : Value) (w : World) (hv : SrvF w v S) (hl0 : S.length ≤ 9223372036854775807) :
    Calls Tryz.prog 6 #[v] w fun e w' => ∃ x', e = .returned (.tuple #[x', .int .i64 (hyperOf S).2]) ∧ Only noB w w' ∧ (∀ h, hyperOf S = (h, 0) → DocAt w' x' S h 0) ∧ ∃ p n c k m q r d, x' = .agg #[.slice p n c, .int .i64 k, .int .i64 m, .slice q r d] ∧ (∀ a, p = some a → w.heap.size ≤ a.block ∧ a.block < w'.heap.size) ∧ (∀ a, q = some a → w.heap.size ≤ a.block ∧ a.block < w'.heap.size) := by
  have HV := hid hv
  obtain ⟨pv, cv, rfl, _⟩ := hv.sat
  have HHy := hid (fun (W : World) (hW : Only noB w W) => rHyper_any S _ W (HV.out.kept hW).sat hl0)
  have HA := hid (show Only noB w (w.alloc (.cells #[.slice none 0 0, .int .i64 0, .int .i64 0, .slice none 0 0] 28)) from (Only.refl _ w).alloc _)
  go_enter Tryz.func6, Tryz.ntmps6
  go_wp2_with fail
  refine (HHy.out _ HA.out).mono ?_
  rintro e w1 ⟨rfl, ho1⟩
  have HO1 := hid (HA.out.trans ho1 (fun _ _ h => h))
  have hb1 : w1.heap[w.heap.size]? = some (.cells #[.slice none 0 0, .int .i64 0, .int .i64 0, .slice none 0 0] 28 (0, 0)) := (ho1.block _ (by simp) id).trans (heap_alloc_at0 _ _)
  have HB1 := hid hb1
  clear ho1 hv
  by_cases he : (hyperOf S).2 = 0
  · have hh : hyperOf S = ((hyperOf S).1, 0) := by rw [← he]
    obtain ⟨ok, hl, hH1, hH2, okk⟩ := sys_ok hh
    have HH := hid hh
    have HK := hid okk
    obtain ⟨H, hH⟩ : ∃ H, H = (hyperOf S).1 := ⟨_, rfl⟩
    rw [he]
    rw [← hH] at hH1 hH2 ⊢
    have HHe := hid hH
    have HE0 := hid he
    have hHI : (H : Int) ≤ 1048576 := by omega
    clear hh okk hb1 hH he
    obtain ⟨i0, hii, hz0, hz1, hz2⟩ := info_parts info39
    have HSrc := hid (HV.out.kept HO1.out).src
    go_wp2_with (at_builtin; refine wpList_append_src rfl _ _ 22 rfl w1.heap.size 44 i0 _ 4 32 Tryz.underlying22 hii hz0 hz1 hz2 rfl (by decide) _ _ _ rfl (World.ownsRow_nil _ _ _ _) _ _ _ rfl HSrc.out (flatS_one S) ?c3 ?c4 ?c5 ?_)
    case c3 => unfold maxLen; omega
    case c4 => omega
    case c5 => exact Nat.le_refl _
    intro vx w2 ho2 hg2
    have hsx : ∃ p c, vx = .slice p S.length c := by
      rcases ho2.2 with ⟨h1, h2⟩ | ⟨g, cap, cur, h1, _⟩
      · exact ⟨none, 0, by rw [h1, show S.length = 0 by simpa using h2]⟩
      · exact ⟨_, _, h1⟩
    obtain ⟨px, cx, rfl⟩ := hsx
    have HOw := hid (show w2.ownsRow w1.heap.size 44 4 (.slice px S.length cx) S.length (flatS S) by simpa using ho2)
    have HO12 := hid (show Only noB w1 w2 from (Only.refl _ w1).grown hg2 fun k e => by simp [Value.ownBlock] at e)
    have HO2 := hid (HO1.out.trans HO12.out (fun _ _ h => h))
    have HBg := hid (begin_ref S _ w2 (HV.out.kept HO2.out).sat hl ok)
    clear ho2 hg2
    go_wp2_with fail
    refine HBg.out.mono ?_
    rintro e w3 ⟨v', rfl, hr⟩
    obtain ⟨pr, cr, rfl⟩ := hr.shape
    have HR := hid hr
    have HO23 := hid hr.only
    have hb3 : w3.heap[w.heap.size]? = some (.cells #[.slice none 0 0, .int .i64 0, .int .i64 0, .slice none 0 0] 28 (0, 0)) := by
      have h1 := (Array.getElem?_eq_some_iff.1 HB1.out).1
      rw [(HO12.out.trans HO23.out (fun _ _ h => h)).block _ h1 id]; exact HB1.out
    have z0 : w3.cell? ⟨w.heap.size, 0, none⟩ = some (.slice none 0 0) := by simp [World.cell?, hb3]
    have z1 : w3.cell? ⟨w.heap.size, 1, none⟩ = some (.int .i64 0) := by simp [World.cell?, hb3]
    have z2 : w3.cell? ⟨w.heap.size, 2, none⟩ = some (.int .i64 0) := by simp [World.cell?, hb3]
    have z3 : w3.cell? ⟨w.heap.size, 3, none⟩ = some (.slice none 0 0) := by simp [World.cell?, hb3]
    have fz : ∀ o, w3.frozen? ⟨w.heap.size, o, none⟩ = false := fun o => by simp [World.frozen?, hb3]
    have HLt := hid (Array.getElem?_eq_some_iff.1 HB1.out).1
    have HLe := hid HO12.out.size
    clear hr HBg hb3
    go_wp2_with fail
    refine bodyPost_ret (v := .tuple #[.agg #[.slice px S.length cx, .int .i64 H, .int .i64 0, .slice pr S.length cr], .int .i64 0]) (by simp [results, Tryz.results6, go_sem, z0, z1, z2, z3]) rfl ⟨_, by rw [HE0.out], ?_, ?_, _, _, _, _, _, _, _, _, rfl, ?_, ?_⟩
    · refine (HO2.out.trans HO23.out (fun _ _ h => h)).trans four_only fun x hx e => ?_
      have e' : x = w.heap.size := e
      omega
    · intro h hh
      rw [HH.out] at hh
      obtain rfl : H = h := by rw [HHe.out]; exact congrArg Prod.fst hh
      refine ⟨_, _, rfl, SrvF.own (own_keptE (own_keptE HOw.out HO23.out fun _ _ h => h) four_only fun b hb e => ?_), IntsF.own (rList_len S _) (own_keptE HR.out.own four_only fun b hb e => ?_)⟩
      · have e' : b = w.heap.size := e
        have := HLt.out
        omega
      · have e' : b = w.heap.size := e
        have := HLt.out
        have := HLe.out
        omega
    · intro a ha
      subst ha
      obtain ⟨l1, l2⟩ := HOw.out.lt a.block rfl
      have l3 := HO23.out.size
      have l4 := HO1.out.size
      have l5 := (four_only (w2 := w3) (b := w.heap.size) (c := .slice (some a) S.length cx) (d := .int .i64 H) (e := .int .i64 0) (f := .slice pr S.length cr)).size
      exact ⟨by omega, by omega⟩
    · intro a ha
      subst ha
      obtain ⟨l1, l2⟩ := HR.out.own.lt a.block rfl
      have l4 := HO2.out.size
      have l5 := (four_only (w2 := w3) (b := w.heap.size) (c := .slice px S.length cx) (d := .int .i64 H) (e := .int .i64 0) (f := .slice (some a) S.length cr)).size
      exact ⟨by omega, by omega⟩
  · have HE := hid he
    have d1 : ((hyperOf S).2 != 0) = true := by simpa using he
    have HZ := hid (hyper_zero he)
    obtain ⟨er, her⟩ : ∃ er, er = (hyperOf S).2 := ⟨_, rfl⟩
    have HEr := hid her
    rw [← her] at d1 ⊢
    clear her
    have z0 : w1.cell? ⟨w.heap.size, 0, none⟩ = some (.slice none 0 0) := by simp [World.cell?, hb1]
    have z1 : w1.cell? ⟨w.heap.size, 1, none⟩ = some (.int .i64 0) := by simp [World.cell?, hb1]
    have z2 : w1.cell? ⟨w.heap.size, 2, none⟩ = some (.int .i64 0) := by simp [World.cell?, hb1]
    have z3 : w1.cell? ⟨w.heap.size, 3, none⟩ = some (.slice none 0 0) := by simp [World.cell?, hb1]
    have fz : ∀ o, w1.frozen? ⟨w.heap.size, o, none⟩ = false := fun o => by simp [World.frozen?, hb1]
    clear he hb1
    go_wp2_with fail
    refine bodyPost_ret (v := .tuple #[.agg #[.slice none 0 0, .int .i64 0, .int .i64 0, .slice none 0 0], .int .i64 er]) (by simp [results, Tryz.results6, go_sem, z0, z1, z2, z3]) rfl ⟨_, by rw [← HEr.out], ?_, ?_, _, _, _, _, _, _, _, _, rfl, fun a h => (by cases h), fun a h => (by cases h)⟩
    · refine HO1.out.trans four_only fun x hx e => ?_
      have e' : x = w.heap.size := e
      omega
    · intro h hh
      rw [HZ.out] at hh
      exact absurd (congrArg Prod.snd hh) HE.out
end Go.Proofs.YtlmnojbghgnniaaGreatDoor.Ref
