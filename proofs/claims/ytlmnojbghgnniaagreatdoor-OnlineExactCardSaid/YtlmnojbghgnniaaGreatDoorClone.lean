/- slices.Clone of servers and of ints. -/
import Derived.Test.YtlmnojbghgnniaaGreatDoorLead
import Derived.Lib.SliceRun
namespace Bulk
open Go Go.RowKit

def flatS (S : List Srv) : List Value := S.flatMap fun s => [.int .i64 s.p, .int .i64 s.b, .int .i64 s.o, .int .i64 s.q]

theorem flatS_len : ∀ S : List Srv, (flatS S).length = S.length * 4
  | [] => rfl
  | s :: S => by have := flatS_len S; simp only [flatS, List.flatMap_cons, List.length_append] at this ⊢; rw [this]; simp; omega

theorem flatS_at : ∀ (S : List Srv) (i : Nat) (hi : i < S.length), (flatS S)[i * 4]? = some (.int .i64 S[i].p) ∧ (flatS S)[i * 4 + 1]? = some (.int .i64 S[i].b) ∧ (flatS S)[i * 4 + 2]? = some (.int .i64 S[i].o) ∧ (flatS S)[i * 4 + 3]? = some (.int .i64 S[i].q)
  | s :: S, 0, _ => by simp [flatS]
  | s :: S, i + 1, hi => by
    have ih := flatS_at S i (by simpa using hi)
    have e : flatS (s :: S) = .int .i64 s.p :: .int .i64 s.b :: .int .i64 s.o :: .int .i64 s.q :: flatS S := by simp [flatS]
    rw [e, show (i + 1) * 4 = i * 4 + 1 + 1 + 1 + 1 by omega]
    simpa using ih

theorem add_next (a : Addr) (m k : Nat) : a.add (m + (k + 1)) = ⟨(a.add m).block, (a.add m).off + (k + 1), none⟩ := by
  unfold Addr.add
  by_cases h : m = 0
  · subst h; simp
  · rw [if_neg h, if_neg (by omega)]; simp; omega

theorem Srv.flat {w : World} {S : List Srv} {a : Addr} (h : ∀ j (hj : j < S.length), S[j].At w (a.add (j * 4))) : ∀ j u, (flatS S)[j]? = some u → w.cell? (a.add j) = some u := fun j u hu => by
  have hlt : j < S.length * 4 := by rw [← flatS_len]; exact (List.getElem?_eq_some_iff.1 hu).1
  have hi : j / 4 < S.length := by omega
  obtain ⟨f0, f1, f2, f3⟩ := flatS_at S (j / 4) hi
  obtain ⟨c0, c1, c2, c3⟩ := h (j / 4) hi
  rcases (by omega : j = j / 4 * 4 ∨ j = j / 4 * 4 + 1 ∨ j = j / 4 * 4 + 2 ∨ j = j / 4 * 4 + 3) with e | e | e | e
  · rw [e] at hu ⊢; rw [f0] at hu; rw [c0, hu]
  · rw [e] at hu ⊢; rw [f1] at hu; rw [add_next a _ 0, c1, hu]
  · rw [e] at hu ⊢; rw [f2] at hu; rw [add_next a _ 1, c2, hu]
  · rw [e] at hu ⊢; rw [f3] at hu; rw [add_next a _ 2, c3, hu]

/-- A slice of servers in new blocks. -/
def SrvNew (w w' : World) (v : Value) (S : List Srv) : Prop :=
  ∃ (p : Option Addr) (cap : Nat), v = .slice p S.length cap ∧ ∀ j (hj : j < S.length), ∃ a : Addr, p = some a ∧ S[j].At w' (a.add (j * 4)) ∧ w.heap.size ≤ (a.add (j * 4)).block ∧ (a.add (j * 4)).block < w'.heap.size

theorem srvNew_of_own {w w' : World} {v : Value} {S : List Srv} {e : TypeId} (h : w'.ownsRow w.heap.size e 4 v S.length (flatS S)) : SrvNew w w' v S := by
  have hlt := fun {b} => h.lt b
  have hc := fun {g} => h.cells (g := g)
  rcases h.2 with ⟨h1, h2⟩ | ⟨g, cap, cur, h1, h2, h3, _⟩
  · exact ⟨none, 0, by rw [h1, h2], fun j hj => by omega⟩
  · subst h1
    refine ⟨some ⟨g, 0, none⟩, cap, rfl, fun j hj => ⟨_, rfl, ?_, ?_, ?_⟩⟩
    · obtain ⟨f0, f1, f2, f3⟩ := flatS_at S j hj
      have k0 := hc rfl _ _ f0
      have k1 := hc rfl _ _ f1
      have k2 := hc rfl _ _ f2
      have k3 := hc rfl _ _ f3
      refine ⟨k0, ?_, ?_, ?_⟩
      · rw [← add_next _ _ 0]; exact k1
      · rw [← add_next _ _ 1]; exact k2
      · rw [← add_next _ _ 2]; exact k3
    · have : ((⟨g, 0, none⟩ : Addr).add (j * 4)).block = g := by unfold Addr.add; split <;> rfl
      rw [this]; exact h2
    · have : ((⟨g, 0, none⟩ : Addr).add (j * 4)).block = g := by unfold Addr.add; split <;> rfl
      rw [this]; exact (Array.getElem?_eq_some_iff.1 h3).1
end Bulk

namespace Go.Proofs.YtlmnojbghgnniaaGreatDoor.On
open Go.RowKit Bulk

theorem info39 : (Tryz.prog.info? 44).map (fun i => (i.zero, i.size, i.bytes)) = some (some (.agg #[.int .i64 0, .int .i64 0, .int .i64 0, .int .i64 0]), 4, 32) := by kernel_rfl

set_option maxHeartbeats 2000000 in
set_option maxRecDepth 100000 in
theorem cloneS_any (S : List Srv) (v : Value) (w : World) (hv : SrvAt w v S) (hl : S.length ≤ 32) :
    Calls Tryz.prog 30 #[v] w fun e w' => ∃ v', e = .returned v' ∧ Only noB w w' ∧ SrvNew w w' v' S := by
  obtain ⟨p, cap, rfl, hc⟩ := hv
  have q22 : ∀ (w : World) (a : Option Addr) (n c n' c' : Nat), (binOp .eql 22 (.slice a n c) (.slice none n' c')).run Tryz.prog w = .ok (.bool a.isNone) w := fun w a n c n' c' => Lib.run_eql_slice_nil w _ _ a n c n' c' Tryz.underlying22
  cases p with
  | none =>
    have h0 : S.length = 0 := by
      rcases Nat.eq_zero_or_pos S.length with h | h
      · exact h
      · obtain ⟨a, h1, _⟩ := hc 0 h; cases h1
    have H0 := hid h0
    clear hc h0
    go_enter Tryz.func30, Tryz.ntmps30
    go_wp2_with fail
    go_ret
    refine ⟨_, rfl, Only.refl _ _, none, 0, by rw [H0.out]; rfl, fun j hj => by have := H0.out; omega⟩
  | some a =>
    have HC := hid (show ∀ j (hj : j < S.length), S[j].At w (a.add (j * 4)) from fun j hj => by
      obtain ⟨a', h1, h2⟩ := hc j hj
      rw [Option.some.inj h1]; exact h2)
    clear hc
    obtain ⟨i0, hi, hz0, hz1, hz2⟩ := info_parts info39
    go_enter Tryz.func30, Tryz.ntmps30
    go_wp2_with (at_builtin; refine wpList_append_own _ rfl _ _ 22 rfl w.heap.size 44 i0 _ 4 32 Tryz.underlying22 hi hz0 hz1 hz2 rfl (by decide) _ _ _ rfl (World.ownsRow_made w #[] 0 (Nat.le_refl _) (Nat.zero_le _) rfl) a S.length cap (flatS S) rfl (flatS_len S) ?qc2 ?qc3 ?qc4 ?qc5 ?qc6 ?_)
    case qc2 =>
      intro j u hu
      have h1 := Srv.flat HC.out j u hu
      rw [World.cell?_alloc_lt _ _ _ (World.block_lt_of_cell? w _ h1)]; exact h1
    case qc3 =>
      intro u hu
      obtain ⟨s, _, hs⟩ := List.mem_flatMap.1 hu
      simp at hs
      rcases hs with rfl | rfl | rfl | rfl <;> rfl
    case qc4 => unfold maxLen; omega
    case qc5 => omega
    case qc6 => simp
    intro v1 w1 ho1 hg1 _
    have HO := hid (show Only noB w w1 from ((Only.refl _ w).alloc _).grown hg1 fun k e => .inr (by simp [Value.ownBlock] at e; omega))
    have HW := hid (show w1.ownsRow w.heap.size 44 4 v1 S.length (flatS S) by simpa using ho1)
    clear ho1 hg1
    go_wp2_with fail
    go_ret
    exact ⟨_, rfl, HO.out, srvNew_of_own HW.out⟩

/-- slices.Clone of ints. -/
theorem cloneI_any (rb n c : Nat) (zs : List Int) (w : World) (hz : zs.length = n) (hl : n ≤ 1000000) (hc : ∀ j, j < n → w.cell? ⟨rb, j, none⟩ = some (.int .i64 (zs.getD j 0))) :
    Calls Tryz.prog 37 #[.slice (some ⟨rb, 0, none⟩) n c] w fun e w' => ∃ v', e = .returned v' ∧ Only noB w w' ∧ w'.ownsRow w.heap.size 3 1 v' n (zs.map (Value.int .i64)) := by
  have h := Any.slices_Clone_int Tryz.laysNm215 rb 0 n c zs w (by omega) (by omega) (fun j hj => by rw [Nat.zero_add]; exact hc j (by omega))
  change Calls Tryz.prog 37 _ _ _ at h
  refine h.mono fun e w' ⟨v', he, ho, _, hb⟩ => ⟨v', he, Only.of_below hb, ?_⟩
  rw [show zs.take n = zs by rw [← hz]; exact List.take_length] at ho
  exact ho
end Go.Proofs.YtlmnojbghgnniaaGreatDoor.On
