/- The dispatcher: release walked. -/
import Derived.Test.YtlmnojbghgnniaaGreatDoorRel
import Derived.Deep.RegionHeld3
import Derived.WalkSpells
import Derived.StillTactics
import Derived.Laws.Pointers
namespace Go.Proofs.YtlmnojbghgnniaaGreatDoor.Wh
theorem fired_at (m : Nat) : ∀ (L : List Int) (i : Nat) (hi : i < L.length), (fired m L)[i * 2]? = some (.int .i64 m) ∧ (fired m L)[i * 2 + 1]? = some (.int .i64 L[i])
  | a :: L, 0, _ => by simp [fired]
  | a :: L, i + 1, hi => by
    have ih := fired_at m L i (by simpa using hi)
    have e : fired m (a :: L) = .int .i64 m :: .int .i64 a :: fired m L := by simp [fired]
    rw [e, show (i + 1) * 2 = i * 2 + 1 + 1 by omega]
    simpa using ih
end Go.Proofs.YtlmnojbghgnniaaGreatDoor.Wh

namespace Bulk
open Go Go.RowKit

/-- What is armed anew. -/
def tnext (S : List Srv) (m : Nat) (i : Int) : Option Int := if nx S i.toNat (m + 1) < 1099511627776 then some (nx S i.toNat (m + 1) : Int) else none

/-- Among those who are released: k are told. -/
structure RelSt (S : List Srv) (H : Nat) (w wx : World) (db m : Nat) (ps : Option Addr) (cs : Nat) (po : Option Addr) (co : Nat) (ord : List Nat) (rb : Nat) (r : Nat → Int) (wb : Nat) (K FW : Nat → Prop) (T : List (Int × Int)) (v : Value) (L : List Int) (k : Nat) (R : Nat → Nat → List Int) (Tk : List (Int × Int)) : Prop where
  only : Only (fun b => FW b ∨ b = rb) w wx
  dp : DP S H wx db m ps cs po co ord rb (fun j => if (j : Int) ∈ L.take k then (sysOf S).B j else r j) (.iface 68 (.pointer (some ⟨wb, 0, none⟩))) K
  at_ : Go.Proofs.YtlmnojbghgnniaaGreatDoor.Wh.At wx wb m R Tk (fun b => (FW b ∨ (w.heap.size ≤ b ∧ b < wx.heap.size)) ∧ v.ownBlock ≠ some b)
  inv : WInv m R Tk
  own : wx.ownsRow w.heap.size 86 2 v L.length (Go.Proofs.YtlmnojbghgnniaaGreatDoor.Wh.fired m L)
  tk : ∀ i : Int, aget Tk i = if i ∈ L.take k then tnext S m i else if i ∈ L then none else aget T i

theorem DP.congr {S : List Srv} {H : Nat} {w : World} {db now : Nat} {ps : Option Addr} {cs : Nat} {po : Option Addr} {co : Nat} {ord : List Nat} {rb : Nat} {r r' : Nat → Int} {wv : Value} {K : Nat → Prop}
    (h : DP S H w db now ps cs po co ord rb r wv K) (hr : ∀ j, j < S.length → r j = r' j) : DP S H w db now ps cs po co ord rb r' wv K :=
  ⟨h.c0, h.c1, h.c2, h.c3, h.c4, h.c5, h.fz, h.srv, h.od, fun j hj => by rw [← hr j hj]; exact h.rs j hj, h.rf, h.kd, h.kr, h.kl, h.rl, h.ne, h.ord⟩

/-- Who is armed anew is the next. -/
theorem RelSt.arm {S : List Srv} {H : Nat} {w wr w2 w3 : World} {db m n f : Nat} {ps : Option Addr} {cs : Nat} {po : Option Addr} {co : Nat} {ord : List Nat} {rb : Nat} {r : Nat → Int} {wb : Nat} {K FW : Nat → Prop} {R0 R : Nat → Nat → List Int} {T Tk : List (Int × Int)} {v : Value} {L : List Int} {i j : Nat}
    (hd : DW S H w db m ps cs po co ord rb r wb K FW n R0 T) (ok : okL S) (hl : S.length ≤ 32) (hTm : Tm S T f) (hnx : nx S j f = m) (h : RelSt S H w wr db m ps cs po co ord rb r wb K FW T v L i R Tk) (hs : L.Pairwise fun a b => a < b) (hLm : ∀ i, i ∈ L ↔ aget T i = some (m : Int)) (hi : i < L.length) (hj : j < S.length) (hLj : L[i] = (j : Int))
    (hn2 : Only noB wr w2) (ho3 : Only (fun b => b = rb) w2 w3)
    (hd3 : DP S H w3 db m ps cs po co ord rb (fun x => if x = j then (sysOf S).B j else if (x : Int) ∈ L.take i then (sysOf S).B x else r x) (.iface 68 (.pointer (some ⟨wb, 0, none⟩))) K) :
    Calls Go.Proofs.Tryz.prog 98 #[.pointer (some ⟨wb, 0, none⟩), .int .i64 j, .int .i64 ((m + ((sysOf S).P j).toNat : Nat) : Int)] w3 fun e w4 => ∃ c R' T', e = .returned (.int .i64 c) ∧ RelSt S H w w4 db m ps cs po co ord rb r wb K FW T v L (i + 1) R' T' := by
  have hrw : rb < w.heap.size := hd.dp.rl
  have hdw : db < w.heap.size := World.block_lt_of_cell? w _ hd.dp.c0
  have hs1 := h.only.size
  have hs2 := hn2.size
  have hs3 := ho3.size
  have htake : L.take (i + 1) = L.take i ++ [(j : Int)] := by rw [List.take_succ_eq_append_getElem hi, hLj]
  have hjn : (j : Int) ∉ L.take i := fun hm => by
    obtain ⟨k, hk, e⟩ := List.getElem_of_mem hm
    have hki : k < i := by simp at hk; omega
    rw [List.getElem_take] at e
    have := List.pairwise_iff_getElem.1 hs k i (by omega) hi hki
    omega
  have hjL : (j : Int) ∈ L := hLj ▸ List.getElem_mem hi
  have hnone : aget Tk (j : Int) = none := by rw [h.tk, if_neg hjn, if_pos hjL]
  have hat3 : Go.Proofs.YtlmnojbghgnniaaGreatDoor.Wh.At w3 wb m R Tk (fun b => (FW b ∨ (w.heap.size ≤ b ∧ b < wr.heap.size)) ∧ v.ownBlock ≠ some b) :=
    (h.at_.kept hn2 (fun _ _ e => e)).kept ho3 (fun b hb e => by
      subst e
      rcases hb.1 with h1 | h1
      · exact (hd.dj _ h1).2.2 rfl
      · omega)
  have hTl : Tk.length ≤ 1000000 := by
    have : (Tk.map (·.1)).length ≤ ((List.range S.length).map fun j : Nat => (j : Int)).length := nodup_len h.inv.keys fun x hx => by
      have hne : aget Tk x ≠ none := fun e => aget_none.1 e hx
      have hin : ∀ y, aget T y = some (m : Int) → y ∈ (List.range S.length).map fun j : Nat => (j : Int) := fun y hy => by
        obtain ⟨j', rfl, hj', _⟩ := hTm.fr y _ hy
        exact List.mem_map.2 ⟨j', List.mem_range.2 hj', rfl⟩
      rw [h.tk] at hne
      by_cases h1 : x ∈ L.take i
      · exact hin x ((hLm x).1 (List.mem_of_mem_take h1))
      · rw [if_neg h1] at hne
        by_cases h2 : x ∈ L
        · exact hin x ((hLm x).1 h2)
        · rw [if_neg h2] at hne
          obtain ⟨z, hz⟩ := Option.ne_none_iff_exists'.1 hne
          obtain ⟨j', rfl, hj', _⟩ := hTm.fr x z hz
          exact List.mem_map.2 ⟨j', List.mem_range.2 hj', rfl⟩
    simp at this; omega
  refine (Go.Proofs.YtlmnojbghgnniaaGreatDoor.Wh.arm_any wb m R Tk _ w3 hat3 h.inv (j : Int) (m + ((sysOf S).P j).toNat) hnone (by omega) (by omega) (by omega) hTl).mono ?_
  rintro e w4 ⟨c, R', T', rfl, ho4, ha4, hI4, hk4⟩
  have hs4 := ho4.size
  refine ⟨c, R', T', rfl, ⟨?_, ?_, ?_, hI4, ?_, fun x => ?_⟩⟩
  · refine ((h.only.trans hn2 fun _ _ e => e.elim).trans ho3 fun x _ e => .inr e).trans ho4 fun x hx e => ?_
    rcases e.1 with h1 | h1
    · exact .inl h1
    · omega
  · refine (hd3.kept ho4 fun b hb => ?_).congr fun x hx => ?_
    · rcases hb.1 with h1 | h1
      · exact hd.dj b h1
      · exact ⟨fun hk => by have := hd.dp.kl b hk; omega, by omega, by omega⟩
    · simp only [htake, List.mem_append, List.mem_singleton]
      by_cases e : x = j
      · subst e; simp
      · have : ¬ (x : Int) = (j : Int) := by omega
        simp [e, this]
  · refine ha4.mono fun b hb hf => ?_
    rcases hf with hf | hf
    · exact ⟨hf.1.imp id fun h1 => ⟨h1.1, hb⟩, hf.2⟩
    · refine ⟨.inr ⟨by have := hf.1; omega, hb⟩, fun e => ?_⟩
      have := (h.own.lt b e).2
      have := hf.1
      omega
  · refine own_of_blocks h.own fun b hb => ?_
    have hl1 := h.own.lt b hb
    rw [ho4.block b (by omega) (fun hf => hf.2 hb), ho3.block b (by omega) (fun e => by omega), hn2.block b (by omega) id]
  · rw [hk4 x, htake]
    simp only [List.mem_append, List.mem_singleton]
    by_cases e : x = (j : Int)
    · subst e
      rw [if_pos rfl, if_pos (Or.inr rfl), tnext, Int.toNat_natCast, nx_step S j m f hj ok hnx]
    · rw [if_neg e, h.tk x]
      simp [e]
end Bulk

namespace Go.Proofs.YtlmnojbghgnniaaGreatDoor.On
open Go.RowKit Bulk

set_option maxHeartbeats 4000000 in
set_option maxRecDepth 100000 in
theorem release_any (S : List Srv) (H : Nat) (w : World) (db m n f : Nat) (ps : Option Addr) (cs : Nat) (po : Option Addr) (co : Nat) (ord : List Nat) (rb : Nat) (r : Nat → Int) (wb : Nat) (K FW : Nat → Prop) (R : Nat → Nat → List Int) (T : List (Int × Int))
    (h : DW S H w db m ps cs po co ord rb r wb K FW n R T) (hT : Tm S T f) (ok : okL S) (hl : S.length ≤ 32) (hnm : n ≤ m) (hm : m < 1099511627776) (hfm : f ≤ m) (hlow : ∀ j, j < S.length → m ≤ nx S j f) :
    Calls Tryz.prog 33 #[.pointer (some ⟨db, 0, none⟩)] w fun e w' => e = .returned (.tuple #[]) ∧ Only (fun b => FW b ∨ b = rb) w w' ∧
      ∃ R' T', DW S H w' db m ps cs po co ord rb (fun j => if (sysOf S).rel j (m : Int) then (sysOf S).B j else r j) wb K (Fr FW w w') m R' T' ∧ Tm S T' (m + 1) := by
  have hTl := hT.length h.inv.keys
  have c3 := h.dp.c3
  have c5 := h.dp.c5
  have hadv : ∀ q, Calls Tryz.prog 97 #[.pointer (some ⟨wb, 0, none⟩), .int .i64 m] (w.drewN q) fun e w' => ∃ v, e = .returned (.tuple #[v, .int .i64 0]) ∧
      w'.cell? ⟨db, 3, none⟩ = some (.int .i64 m) ∧ w'.cell? ⟨db, 5, none⟩ = some (.iface 68 (.pointer (some ⟨wb, 0, none⟩))) ∧ Hid (∃ L R', Wh.AdvPost FW w w' wb m T v L R') := fun q => by
    refine (Wh.adv_any wb n m R T FW (w.drewN q) (h.at_.below ((Below.refl _ _).drewN q)) h.inv hnm (by omega) (fun i z hi => by
      obtain ⟨j, rfl, hj, rfl, _⟩ := hT.fr i z hi
      have := hlow j hj; omega) (by omega)).mono ?_
    rintro e w' ⟨v, L, R', rfl, hp⟩
    have hd : ¬ FW db := fun hf => (h.dj _ hf).2.1 rfl
    exact ⟨v, rfl, hp.1.cell c3 hd, hp.1.cell c5 hd, hid ⟨L, R', ⟨⟨hp.1.os, hp.1.tape, hp.1.output, hp.1.size, hp.1.block⟩, hp.2⟩⟩⟩
  have mA := mAdvance
  have HA := hid hadv
  have HD := hid h
  have HTm := hid hT
  have HLow := hid hlow
  have HM := hid (And.intro hnm (And.intro hm hfm))
  clear hadv h hT hlow hnm hm hfm
  go_enter Tryz.func33, Tryz.ntmps33
  go_wp2_with fail
  go_region_held3 (fun w' => w'.cell? ⟨db, 3, none⟩ = some (.int .i64 m) ∧ w'.cell? ⟨db, 5, none⟩ = some (.iface 68 (.pointer (some ⟨wb, 0, none⟩)))) (go_keep)
    (first | (go_at_call 97; refine (HA.out _).mono ?_; rintro e w1 ⟨v, rfl, k3, k5, HP⟩))
  rename_i hHeld
  clear hHeld
  obtain ⟨L, R', hp⟩ := HP.out
  obtain ⟨hp1, hp2, hp3, hp4, hp5, hp6⟩ := hp
  have hdj := HD.out.dj
  have HS := hid (show RelSt S H w w1 db m ps cs po co ord rb r wb K FW T v L 0 R' (adels T L) from
    ⟨hp1.mono fun b _ hb => .inl hb, by simpa using HD.out.dp.kept hp1 hdj, hp3.mono fun b _ hb => hb, hp4, hp2, fun i => by simp [aget_dels HD.out.inv.keys]⟩)
  have HL := hid (And.intro hp5 hp6)
  have hown := hp2
  clear HA c3 c5 mA k3 k5 HP hp1 hp2 hp3 hp4 hp5 hp6 hdj
  have hLS : L.length ≤ S.length := by
    have : L.length ≤ ((List.range S.length).map fun j : Nat => (j : Int)).length := nodup_len (HL.out.2.imp fun h => by omega) fun x hx => by
      obtain ⟨j, rfl, hj, _⟩ := HTm.out.fr x m ((HL.out.1 x).1 hx)
      exact List.mem_map.2 ⟨j, List.mem_range.2 hj, rfl⟩
    simpa using this
  obtain ⟨pv, capv, rfl⟩ : ∃ pv capv, v = .slice pv L.length capv := by
    rcases hown.2 with ⟨h1, h2⟩ | ⟨g, c, cu, h1, _⟩
    · exact ⟨none, 0, by rw [h1, h2]⟩
    · exact ⟨_, c, h1⟩
  clear hown
  go_wp2_with fail
  go_loopg [22] L.length (fun g v22 wr => ∃ (i : Nat) (Rk : Nat → Nat → List Int) (Tk : List (Int × Int)), i ≤ L.length ∧ g = L.length - i ∧ v22 = .int .i64 i ∧ Hid (RelSt S H w wr db m ps cs po co ord rb r wb K FW T (.slice pv L.length capv) L i Rk Tk))
  case atStart => exact ⟨0, _, _, by omega, rfl, rfl, HS⟩
  case round =>
    obtain ⟨i, Rk, Tk, hi, rfl, rfl, HR⟩ := hrel
    clear HS
    by_cases hi2 : i < L.length
    · have hown := HR.out.own
      obtain ⟨g, rfl⟩ : ∃ g, pv = some ⟨g, 0, none⟩ := by
        rcases hown.2 with ⟨h1, h2⟩ | ⟨g, c, cu, h1, _⟩
        · omega
        · injection h1 with h1 _ _; exact ⟨g, h1⟩
      have hcl := hown.cells (g := g) rfl
      have hfl := Wh.fired_at m L i hi2
      have k1 := hcl _ _ hfl.1
      have k2 := hcl _ _ hfl.2
      obtain ⟨j, hj0, hj, hjz, hjt⟩ := HTm.out.fr L[i] m ((HL.out.1 _).1 (List.getElem_mem _))
      rw [hj0] at k2
      rw [Addr.add_lit, Nat.zero_add] at k1 k2
      have d2 : decide (i < L.length) = true := by simpa using hi2
      have HJ := hid (And.intro hj0 (And.intro hjz hjt))
      have hji : (j : Int) < (S.length : Int) := by omega
      clear hcl hown hfl hj0 hjz hjt
      go_wp2_with fail
      obtain ⟨w2, hw2⟩ : ∃ x : World, x = wr.alloc (.cells #[.int .i64 m, .int .i64 j] 86) := ⟨_, rfl⟩
      rw [← hw2]
      have hn2 : Only noB wr w2 := by rw [hw2]; exact (Only.refl _ _).alloc _
      have f1 : w2.cell? ⟨wr.heap.size, 0, none⟩ = some (.int .i64 m) := by rw [hw2]; simp
      have f2 : w2.cell? ⟨wr.heap.size, 1, none⟩ = some (.int .i64 j) := by rw [hw2]; simp
      have hd2 := HR.out.dp.kept hn2 (fun b hb => hb.elim)
      have HN2 := hid hn2
      have HD2 := hid hd2
      have c0 := hd2.c0
      have c4 := hd2.c4
      obtain ⟨a, rfl, hat, hak⟩ := hd2.srv j hj
      obtain ⟨s1, s2, s3, s4⟩ := hat
      have r1 := hd2.rs j hj
      have rf := hd2.rf j
      have HW2 := hid (show wr.heap.size < w2.heap.size by rw [hw2]; simp)
      have hB := (sysOf_at hj).2.1
      have hP := (sysOf_at hj).1
      rw [← hB] at s2
      rw [← hP] at s1
      generalize hBg : (sysOf S).B j = Bj at *
      generalize hPg : (sysOf S).P j = Pj at *
      have HBP := hid (And.intro hBg hPg)
      clear hw2 hn2 hd2 hak k1 k2 hB hP hBg hPg s3 s4
      have HB5 := hid HR.out.dp.rl
      generalize wr.heap.size = b5 at *
      go_still_tail 16, (by kernel_rfl)
      go_wp2_with fail
      obtain ⟨w3, hw3⟩ : ∃ x : World, x = (w2.setCell ⟨rb, j, none⟩ (.int .i64 Bj)).drew := ⟨_, rfl⟩
      rw [← hw3]
      have ho3 : Only (fun b => b = rb) w2 w3 := by rw [hw3]; exact (Only.setCell0 w2 ⟨rb, j, none⟩ _).drew
      have hd3 : DP S H w3 db m (some a) cs po co ord rb (fun x => if x = j then (sysOf S).B j else if (x : Int) ∈ L.take i then (sysOf S).B x else r x) (.iface 68 (.pointer (some ⟨wb, 0, none⟩))) K := by
        rw [hw3, HBP.out.1]
        exact (HD2.out.setRest hj Bj).drewN 1
      have c0' := hd3.c0
      have c5 := hd3.c5
      obtain ⟨a', hae, hat, hak⟩ := hd3.srv j hj
      obtain rfl := Option.some.inj hae
      have s1' := hat.1
      rw [← (sysOf_at hj).1, HBP.out.2] at s1'
      have f1' := ho3.cell f1 (fun (e : b5 = rb) => by have := HB5.out; omega)
      have f2' := ho3.cell f2 (fun (e : b5 = rb) => by have := HB5.out; omega)
      have hsrv := ok.1 S[j] (List.getElem_mem hj)
      rw [Srv.ok, ← (sysOf_at hj).1, HBP.out.2] at hsrv
      have hm40 := HM.out.2.1
      have e1 : IntKind.i64.wrap ((m : Int) + Pj) = ((m + Pj.toNat : Nat) : Int) := by rw [IntWalk.i64_in _ (by omega)]; omega
      have mA := mArm
      have hArm := fun q => RelSt.arm (w3 := w3.drewN q) HD.out ok hl HTm.out (by have := HJ.out.2.1; omega) HR.out HL.out.2 HL.out.1 hi2 hj HJ.out.1 HN2.out (ho3.drewN q) (hd3.drewN q)
      rw [HBP.out.2] at hArm
      have HA := hid hArm
      clear hArm hd3 ho3 hw3 hat hak hae c0 c4 s1 s2 r1 rf f1 f2 hsrv hm40
      generalize m + Pj.toNat = t at *
      go_still_tail 20, (by kernel_rfl)
      go_wp2_with fail
      refine (HA.out 1).mono ?_
      rintro e w4 ⟨c, R2, T2, rfl, hS⟩
      have HSn := hid hS
      clear hS HA mA c0' c5 s1' f1' f2' e1
      go_wp2_with fail
      go_roundg (L.length - (i + 1))
      case measure => omega
      case rel => exact ⟨i + 1, R2, T2, by omega, rfl, by go_num, HSn⟩
    · obtain rfl : i = L.length := by omega
      clear hi hi2
      go_wp2_with fail
      go_end0
      have hS := HR.out
      have hrw : rb < w.heap.size := HD.out.dp.rl
      have hdw : db < w.heap.size := World.block_lt_of_cell? w _ HD.out.dp.c0
      have hmem : ∀ j : Nat, j < S.length → ((j : Int) ∈ L ↔ nx S j f = m) := fun j hj => by
        rw [HL.out.1]
        constructor
        · intro h1
          obtain ⟨j', e1, _, e2, _⟩ := HTm.out.fr _ _ h1
          obtain rfl : j = j' := by omega
          omega
        · intro h1
          rw [← h1]
          exact HTm.out.to j hj (by have := HM.out.2.1; omega)
      have hrel : ∀ j : Nat, j < S.length → ((j : Int) ∈ L ↔ (sysOf S).rel j (m : Int)) := fun j hj => by
        rw [hmem j hj, ← nx_rel S j m hj ok, nx_same S j m f hj ok HM.out.2.2 (HLow.out j hj)]
      refine ⟨rfl, hS.only, Rk, Tk, ⟨?_, ?_, hS.inv, fun b hb => ?_⟩, ⟨fun x z hx => ?_, fun j hj h1 => ?_⟩⟩
      · refine hS.dp.congr fun j hj => ?_
        rw [List.take_length]
        have := hrel j hj
        by_cases e : (j : Int) ∈ L
        · rw [if_pos e, if_pos (this.1 e)]
        · rw [if_neg e, if_neg (fun h => e (this.2 h))]
      · exact hS.at_.mono fun b _ hb => hb.1
      · rcases hb with h1 | h1
        · exact HD.out.dj b h1
        · have := h1.1
          exact ⟨fun hk => by have := HD.out.dp.kl b hk; omega, by omega, by omega⟩
      · rw [hS.tk, List.take_length] at hx
        by_cases e : x ∈ L
        · rw [if_pos e] at hx
          obtain ⟨j, rfl, hj, _⟩ := HTm.out.fr x m ((HL.out.1 x).1 e)
          unfold tnext at hx
          rw [Int.toNat_natCast] at hx
          split at hx
          · exact ⟨j, rfl, hj, (Option.some.inj hx).symm, by assumption⟩
          · cases hx
        · rw [if_neg e, if_neg e] at hx
          obtain ⟨j, rfl, hj, hz, hlt⟩ := HTm.out.fr x z hx
          have hne : nx S j f ≠ m := fun h => e ((hmem j hj).2 h)
          have hge := HLow.out j hj
          have := nx_same S j (m + 1) f hj ok (by have := HM.out.2.2; omega) (by omega)
          exact ⟨j, rfl, hj, by rw [this]; exact hz, by rw [this]; exact hlt⟩
      · rw [hS.tk, List.take_length]
        by_cases e : (j : Int) ∈ L
        · rw [if_pos e, tnext, Int.toNat_natCast, if_pos h1]
        · rw [if_neg e, if_neg e]
          have hne : nx S j f ≠ m := fun h => e ((hmem j hj).2 h)
          have hge := HLow.out j hj
          have := nx_same S j (m + 1) f hj ok (by have := HM.out.2.2; omega) (by omega)
          rw [this] at h1 ⊢
          exact HTm.out.to j hj h1
end Go.Proofs.YtlmnojbghgnniaaGreatDoor.On
