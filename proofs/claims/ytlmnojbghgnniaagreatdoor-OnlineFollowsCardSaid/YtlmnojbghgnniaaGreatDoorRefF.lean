/- The document's dispatcher: begin, Rests, Occupant. -/
import Derived.Test.YtlmnojbghgnniaaGreatDoorRefD
import Derived.Deep.RegionHeld3
namespace Bulk
open Go Go.RowKit

/-- The document's dispatcher as a value: servers, H, where it stands, the rests there. -/
def DocAt (w : World) (x : Value) (S : List Srv) (H now : Nat) : Prop := ∃ vs vl, x = .agg #[vs, .int .i64 H, .int .i64 now, vl] ∧ SrvF w vs S ∧ IntsF w vl (rList S ((sysOf S).st now))

theorem DocAt.kept {w w' : World} {x : Value} {S : List Srv} {H now : Nat} (h : DocAt w x S H now) (ho : Only noB w w') : DocAt w' x S H now := by
  obtain ⟨vs, vl, e, h1, h2⟩ := h
  exact ⟨vs, vl, e, h1.kept ho, h2.kept ho⟩

theorem RestSt.base {S : List Srv} {B B' : Nat} {w w1 wr : World} {v : Value} {r : Nat → Int} (h : RestSt S B w1 wr v r) (ho : Only noB w w1) (hB : B' ≤ B) : RestSt S B' w wr v r :=
  ⟨ho.trans h.only (fun _ _ h => h), by
    refine ⟨h.own.1, ?_⟩
    rcases h.own.2 with h1 | ⟨g, cap, cur, h1, h2, h3⟩
    · exact .inl h1
    · exact .inr ⟨g, cap, cur, h1, Nat.le_trans hB h2, h3⟩⟩

theorem RestSt.intsF {S : List Srv} {B : Nat} {w wr : World} {v : Value} {r : Nat → Int} (h : RestSt S B w wr v r) : IntsF wr v (rList S r) := IntsF.own (rList_len S _) h.own
end Bulk

namespace Go.Proofs.YtlmnojbghgnniaaGreatDoor.Ref
open Go.RowKit Bulk Ch On

set_option maxHeartbeats 2000000 in
set_option maxRecDepth 100000 in
theorem rests_ref (S : List Srv) (H now : Nat) (x : Value) (w : World) (hx : DocAt w x S H now) (hl : S.length ≤ 32) :
    Calls Tryz.prog 18 #[x] w fun e w' => ∃ v', e = .returned v' ∧ RestSt S w.heap.size w w' v' ((sysOf S).st now) := by
  obtain ⟨vs, vl, rfl, h1, h2⟩ := hx
  have HL := hid (h2.src)
  clear h1 h2
  obtain ⟨i0, hii, hz0, hz1, hz2⟩ := info_parts Ch.info3
  have HOwn := hid (show ((w.alloc (.cells #[vs, .int .i64 H, .int .i64 now, vl] 28)).alloc (.cells #[] 3)).ownsRow w.heap.size 3 1 (.slice (some ⟨w.heap.size + 1, 0, none⟩) 0 0) 0 [] from by
    have := World.ownsRow_made (base := w.heap.size) (e := 3) (size := 1) (w.alloc (.cells #[vs, .int .i64 H, .int .i64 now, vl] 28)) #[] 0 (by simp) (Nat.zero_le _) rfl
    simpa using this)
  go_enter Tryz.func18, Tryz.ntmps18
  go_wp2_with (at_builtin; refine wpList_append_src rfl _ _ 23 rfl w.heap.size 3 i0 _ 1 8 Tryz.underlying23 hii hz0 hz1 hz2 rfl (by decide) _ _ _ rfl HOwn.out _ _ _ rfl (HL.out.kept (F := noB) (((Only.refl noB w).alloc _).alloc _) (fun _ _ _ _ _ => id)) (ints_one _) ?c3 ?c4 ?c5 ?_)
  case c3 => rw [rList_len]; unfold maxLen; omega
  case c4 => rw [rList_len]; omega
  case c5 => simp; omega
  intro vx w1 ho1 hg1
  have HR := hid (show RestSt S w.heap.size w w1 vx ((sysOf S).st now) from ⟨(((Only.refl _ w).alloc _).alloc _).grown hg1 fun k e => .inr (by simp [Value.ownBlock] at e; omega), by simpa [rList_len] using ho1⟩)
  clear ho1 hg1
  go_wp2_with fail
  go_ret
  exact ⟨_, rfl, HR.out⟩

set_option maxHeartbeats 2000000 in
set_option maxRecDepth 100000 in
theorem occ_ref (S : List Srv) (H now : Nat) (x : Value) (w : World) (hx : DocAt w x S H now) (hl : S.length ≤ 32) :
    Calls Tryz.prog 22 #[x] w fun e w' => e = .returned (.int .i64 (optI ((sysOf S).occ now) + 1)) ∧ Only noB w w' := by
  have HX := hid hx
  obtain ⟨vs, vl, rfl, h1, h2⟩ := hx
  have HS := hid h1
  have HI := hid h2
  obtain ⟨w1, hw1⟩ : ∃ y : World, y = w.alloc (.cells #[vs, .int .i64 H, .int .i64 now, vl] 28) := ⟨_, rfl⟩
  have ho : Only noB w w1 := by rw [hw1]; exact (Only.refl _ _).alloc _
  have c0 : w1.cell? ⟨w.heap.size, 0, none⟩ = some vs := by rw [hw1]; simp
  have c1 : w1.cell? ⟨w.heap.size, 1, none⟩ = some (.int .i64 H) := by rw [hw1]; simp
  have c2 : w1.cell? ⟨w.heap.size, 2, none⟩ = some (.int .i64 now) := by rw [hw1]; simp
  have c3 : w1.cell? ⟨w.heap.size, 3, none⟩ = some vl := by rw [hw1]; simp
  have HRs := hid (show ∀ W, Only noB w1 W → Calls Tryz.prog 18 #[.agg #[vs, .int .i64 H, .int .i64 now, vl]] W fun e w' => ∃ v', e = .returned v' ∧ (w'.cell? ⟨w.heap.size, 0, none⟩ = some vs ∧ w'.cell? ⟨w.heap.size, 1, none⟩ = some (.int .i64 H) ∧ w'.cell? ⟨w.heap.size, 2, none⟩ = some (.int .i64 now) ∧ w'.cell? ⟨w.heap.size, 3, none⟩ = some vl) ∧ Hid (Only noB w w' ∧ IntsF w' v' (rList S ((sysOf S).st now))) from fun W hW => by
    refine (rests_ref S H now _ W (HX.out.kept (ho.trans hW (fun _ _ h => h))) hl).mono ?_
    rintro e w' ⟨v', rfl, hr⟩
    have hk := hW.trans hr.only (fun _ _ h => h)
    exact ⟨v', rfl, ⟨hk.cell c0 id, hk.cell c1 id, hk.cell c2 id, hk.cell c3 id⟩, hid ⟨ho.trans hk (fun _ _ h => h), hr.intsF⟩⟩)
  have HW1 := hid hw1
  have HO := hid ho
  clear h1 h2 hw1 ho c0 c1 c2 c3
  go_enter Tryz.func22, Tryz.ntmps22
  go_wp2_with fail
  rw [← HW1.out]
  have c0 : w1.cell? ⟨w.heap.size, 0, none⟩ = some vs := by rw [HW1.out]; simp
  have c1 : w1.cell? ⟨w.heap.size, 1, none⟩ = some (.int .i64 H) := by rw [HW1.out]; simp
  have c2 : w1.cell? ⟨w.heap.size, 2, none⟩ = some (.int .i64 now) := by rw [HW1.out]; simp
  have c3 : w1.cell? ⟨w.heap.size, 3, none⟩ = some vl := by rw [HW1.out]; simp
  go_region_held3 (fun w' => w'.cell? ⟨w.heap.size, 0, none⟩ = some vs ∧ w'.cell? ⟨w.heap.size, 1, none⟩ = some (.int .i64 H) ∧ w'.cell? ⟨w.heap.size, 2, none⟩ = some (.int .i64 now) ∧ w'.cell? ⟨w.heap.size, 3, none⟩ = some vl) (go_keep)
    (first | (go_at_call 18; refine (HRs.out _ (by first | exact (Only.refl _ _).drew | exact Only.refl _ _)).mono ?_; rintro e w2 ⟨v', rfl, k1, HK⟩) | (go_at_call 38; refine (chosen_any S ((sysOf S).st now) _ _ _ (HS.out.kept HK.out.1).sat HK.out.2.iat hl).mono ?_; rintro e w3 ⟨rfl, q, rfl⟩))
  rename_i hHeld
  clear hHeld k1
  go_wp2_with fail
  go_ret
  exact ⟨rfl, HK.out.1.drewN q⟩
end Go.Proofs.YtlmnojbghgnniaaGreatDoor.Ref
