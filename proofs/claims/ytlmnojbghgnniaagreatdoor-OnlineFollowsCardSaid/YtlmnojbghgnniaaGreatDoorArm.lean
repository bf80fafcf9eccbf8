/- The dispatcher: arm. -/
import Derived.Test.YtlmnojbghgnniaaGreatDoorRele
namespace Bulk
open Go Go.RowKit

/-- In arm: i servers are armed. -/
structure ArmSt (S : List Srv) (H : Nat) (w wr : World) (db now f : Nat) (ps : Option Addr) (cs : Nat) (po : Option Addr) (co : Nat) (ord : List Nat) (rb : Nat) (r : Nat → Int) (wb : Nat) (K : Nat → Prop) (i : Nat) (R : Nat → Nat → List Int) (T : List (Int × Int)) : Prop where
  only : Only (fun b => b = db) w wr
  dp : DP S H wr db now ps cs po co ord rb r (.iface 68 (.pointer (some ⟨wb, 0, none⟩))) K
  at_ : Go.Proofs.YtlmnojbghgnniaaGreatDoor.Wh.At wr wb now R T (Fr noB w wr)
  inv : WInv now R T
  fr : ∀ x z, aget T x = some z → ∃ j : Nat, x = j ∧ j < i ∧ z = nx S j f ∧ nx S j f < 1099511627776
  to : ∀ j : Nat, j < i → nx S j f < 1099511627776 → aget T j = some (nx S j f : Int)

theorem ArmSt.arm {S : List Srv} {H : Nat} {w wr w2 : World} {db now f : Nat} {ps : Option Addr} {cs : Nat} {po : Option Addr} {co : Nat} {ord : List Nat} {rb : Nat} {r : Nat → Int} {wv : Value} {wb : Nat} {K : Nat → Prop} {i : Nat} {R : Nat → Nat → List Int} {T : List (Int × Int)}
    (hd : DP S H w db now ps cs po co ord rb r wv K) (h : ArmSt S H w wr db now f ps cs po co ord rb r wb K i R T) (ok : okL S) (hl : S.length ≤ 32) (hf : now ≤ f) (hi : i < S.length) (hn2 : Only noB wr w2) :
    Calls Go.Proofs.Tryz.prog 98 #[.pointer (some ⟨wb, 0, none⟩), .int .i64 i, .int .i64 ((nx S i f : Nat) : Int)] w2 fun e w4 => ∃ c R' T', e = .returned (.int .i64 c) ∧ ArmSt S H w w4 db now f ps cs po co ord rb r wb K (i + 1) R' T' := by
  have hrw : rb < w.heap.size := hd.rl
  have hdw : db < w.heap.size := World.block_lt_of_cell? w _ hd.c0
  have hs1 := h.only.size
  have hs2 := hn2.size
  have hnone : aget T (i : Int) = none := by
    cases e : aget T (i : Int) with
    | none => rfl
    | some z => obtain ⟨j, e1, e2, _⟩ := h.fr _ _ e; omega
  have hTl : T.length ≤ 1000000 := by
    have : (T.map (·.1)).length ≤ ((List.range S.length).map fun j : Nat => (j : Int)).length := nodup_len h.inv.keys fun x hx => by
      have hne : aget T x ≠ none := fun e => aget_none.1 e hx
      obtain ⟨z, hz⟩ := Option.ne_none_iff_exists'.1 hne
      obtain ⟨j, rfl, hj, _⟩ := h.fr x z hz
      exact List.mem_map.2 ⟨j, List.mem_range.2 (by omega), rfl⟩
    simp at this; omega
  have hge := nx_ge S i f hi ok
  refine (Go.Proofs.YtlmnojbghgnniaaGreatDoor.Wh.arm_any wb now R T _ w2 (h.at_.kept hn2 (fun _ _ e => e)) h.inv (i : Int) (nx S i f) hnone (by omega) (by omega) (by omega) hTl).mono ?_
  rintro e w4 ⟨c, R', T', rfl, ho4, ha4, hI4, hk4⟩
  have hs4 := ho4.size
  have hfr : ∀ b, Fr noB w wr b → w.heap.size ≤ b ∧ b < wr.heap.size := fun b hb => hb.resolve_left id
  refine ⟨c, R', T', rfl, ⟨?_, ?_, ?_, hI4, fun x z hx => ?_, fun j hj hlt => ?_⟩⟩
  · refine (h.only.trans hn2 fun _ _ e => e.elim).trans ho4 fun x hx e => ?_
    have := hfr x e; omega
  · refine (h.dp.kept hn2 fun _ e => e.elim).kept ho4 fun b hb => ?_
    have := hfr b hb
    exact ⟨fun hk => by have := hd.kl b hk; omega, by omega, by omega⟩
  · refine ha4.mono fun b hb hf => ?_
    rcases hf with hf | hf
    · have := hfr b hf; exact .inr ⟨this.1, hb⟩
    · have := hf.1; exact .inr ⟨by omega, hb⟩
  · rw [hk4] at hx
    by_cases e : x = (i : Int)
    · rw [if_pos e] at hx
      split at hx
      · exact ⟨i, e, by omega, (Option.some.inj hx).symm, by assumption⟩
      · cases hx
    · rw [if_neg e] at hx
      obtain ⟨j, e1, e2, e3⟩ := h.fr x z hx
      exact ⟨j, e1, by omega, e3⟩
  · rw [hk4]
    by_cases e : j = i
    · subst e; rw [if_pos rfl, if_pos hlt]
    · rw [if_neg (by omega)]; exact h.to j (by omega) hlt
end Bulk

namespace Go.Proofs.YtlmnojbghgnniaaGreatDoor.On
open Go.RowKit Bulk

set_option maxHeartbeats 4000000 in
set_option maxRecDepth 100000 in
theorem darm_any (S : List Srv) (H : Nat) (w : World) (db now f : Nat) (ps : Option Addr) (cs : Nat) (po : Option Addr) (co : Nat) (ord : List Nat) (rb : Nat) (r : Nat → Int) (wv : Value) (K : Nat → Prop)
    (h : DP S H w db now ps cs po co ord rb r wv K) (ok : okL S) (hl : S.length ≤ 32) (hnf : now ≤ f) (hf : f ≤ 1099511627776) :
    Calls Tryz.prog 26 #[.pointer (some ⟨db, 0, none⟩), .int .i64 f] w fun e w' => e = .returned (.tuple #[]) ∧ Only (fun b => b = db) w w' ∧
      ∃ wb R T, DW S H w' db now ps cs po co ord rb r wb K (Fr noB w w') now R T ∧ Tm S T f := by
  have c3 := h.c3
  have HD := hid h
  have HF := hid (And.intro hnf hf)
  have HNew := hid (Wh.new_any now w (by omega))
  clear h hnf
  go_enter Tryz.func26, Tryz.ntmps26
  go_wp2_with fail
  refine HNew.out.mono ?_
  rintro e w1 ⟨wb, rfl, hb1, hwb, ha1⟩
  have ho1 : Only noB w w1 := Only.of_below hb1
  have hd1 := HD.out.kept ho1 (fun _ e => e.elim)
  have HA1 := hid ha1
  have HD1 := hid hd1
  have HO1 := hid ho1
  have k0 := hd1.c0
  have k5 := hd1.c5
  have kf := hd1.fz 5
  clear c3 HNew hb1 hwb ha1 hd1 ho1
  go_wp2_with fail
  obtain ⟨w2, hw2⟩ : ∃ x : World, x = w1.setCell ⟨db, 5, none⟩ (.iface 68 (.pointer (some ⟨wb, 0, none⟩))) := ⟨_, rfl⟩
  rw [← hw2]
  have ho2 : Only (fun b => b = db) w1 w2 := by rw [hw2]; exact Only.setCell0 w1 ⟨db, 5, none⟩ _
  have hdw : db < w.heap.size := World.block_lt_of_cell? w _ HD.out.c0
  have HS := hid (show ArmSt S H w w2 db now f ps cs po co ord rb r wb K 0 (fun _ _ => []) [] from
    ⟨(HO1.out.mono (fun _ _ e => e.elim)).trans ho2 (fun _ _ e => e), by rw [hw2]; exact HD1.out.setWheel _, (HA1.out.kept ho2 (fun b hb e => by
      have e' : b = db := e
      have := hb.resolve_left id; omega)).mono (fun b hb hf => .inr ⟨(hf.resolve_left id).1, hb⟩), winv_new now (by have := HF.out; omega), fun x z hx => by simp [aget] at hx, fun j hj => absurd hj (Nat.not_lt_zero _)⟩)
  clear hw2 ho2 hdw HA1 HD1 HO1 k0 k5 kf
  go_loopg [28] S.length (fun g v28 wr => ∃ (i : Nat) (Rk : Nat → Nat → List Int) (Tk : List (Int × Int)), i ≤ S.length ∧ g = S.length - i ∧ v28 = .int .i64 i ∧ Hid (ArmSt S H w wr db now f ps cs po co ord rb r wb K i Rk Tk))
  case atStart => exact ⟨0, _, _, by omega, rfl, rfl, HS⟩
  case round =>
    obtain ⟨i, Rk, Tk, hi, rfl, rfl, HR⟩ := hrel
    clear HS
    by_cases hi2 : i < S.length
    · have d2 : decide (i < S.length) = true := by simpa using hi2
      obtain ⟨a, rfl, hat, hak⟩ := HR.out.dp.srv i hi2
      obtain ⟨s1, s2, s3, s4⟩ := hat
      have hsrv := ok.1 S[i] (List.getElem_mem hi2)
      obtain ⟨e1, e2, e3, e4⟩ := sysOf_at hi2
      obtain ⟨⟨p1, p2⟩, _, ⟨o1, o2⟩, _⟩ := hsrv
      obtain ⟨pn, hp⟩ : ∃ pn : Nat, S[i].p = pn := ⟨_, (Int.toNat_of_nonneg (show 0 ≤ S[i].p by omega)).symm⟩
      obtain ⟨on, ho⟩ : ∃ on : Nat, S[i].o = on := ⟨_, (Int.toNat_of_nonneg o1).symm⟩
      have hnx : nx S i f = Ch.nextN on pn f := by rw [nx, e1, e3, hp, ho, Int.toNat_natCast, Int.toNat_natCast]
      rw [hp] at s1 p1 p2 o2
      rw [ho] at s3 o2
      have hNA := fun W => Ch.nextAt_any on pn f W (by omega) (by omega) (by omega) hf
      rw [← hnx] at hNA
      have HNA := hid hNA
      generalize S[i].b = b2 at *
      generalize S[i].q = q2 at *
      clear hNA hak e1 e2 e3 e4 p1 p2 o1 o2 hp ho
      go_wp2_with fail
      refine (HNA.out _).mono ?_
      rintro e w' ⟨rfl, rfl⟩
      obtain ⟨w3, hw3⟩ : ∃ x : World, x = wr.alloc (.cells #[.int .i64 pn, .int .i64 b2, .int .i64 on, .int .i64 q2] 44) := ⟨_, rfl⟩
      rw [← hw3]
      have hn3 : Only noB wr w3 := by rw [hw3]; exact (Only.refl _ _).alloc _
      have k5 := (HR.out.dp.kept hn3 (fun _ e => e.elim)).c5
      have mA := mArm
      have HArm := hid (ArmSt.arm (w2 := w3) HD.out HR.out ok hl HF.out.1 hi2 hn3)
      clear hw3 hn3 HNA hnx s1 s2 s3 s4
      generalize nx S i f = t at *
      go_wp2_with fail
      refine HArm.out.mono ?_
      rintro e w4 ⟨c, R2, T2, rfl, hS⟩
      have HSn := hid hS
      clear hS HArm mA k5
      go_wp2_with fail
      go_roundg (S.length - (i + 1))
      case measure => omega
      case rel => exact ⟨i + 1, R2, T2, by omega, rfl, by go_num, HSn⟩
    · obtain rfl : i = S.length := by omega
      clear hi hi2
      go_wp2_with fail
      go_end0
      have hS := HR.out
      have hdw : db < w.heap.size := World.block_lt_of_cell? w _ HD.out.c0
      have hrw : rb < w.heap.size := HD.out.rl
      refine ⟨rfl, hS.only, wb, Rk, Tk, ⟨hS.dp, hS.at_, hS.inv, fun b hb => ?_⟩, ⟨hS.fr, hS.to⟩⟩
      have h1 := (hb.resolve_left id).1
      exact ⟨fun hk => by have := HD.out.kl b hk; omega, by omega, by omega⟩
end Go.Proofs.YtlmnojbghgnniaaGreatDoor.On
