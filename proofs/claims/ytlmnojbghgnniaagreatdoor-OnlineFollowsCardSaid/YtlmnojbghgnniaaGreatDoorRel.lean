/- The dispatcher: release. -/
import Derived.Test.YtlmnojbghgnniaaGreatDoorOn
import Derived.StillTailTactics
namespace Bulk
open Go Go.RowKit

theorem DP.kept {S : List Srv} {H : Nat} {w w' : World} {db now : Nat} {ps : Option Addr} {cs : Nat} {po : Option Addr} {co : Nat} {ord : List Nat} {rb : Nat} {r : Nat → Int} {wv : Value} {K F : Nat → Prop}
    (h : DP S H w db now ps cs po co ord rb r wv K) (ho : Only F w w') (hF : ∀ b, F b → ¬ K b ∧ b ≠ db ∧ b ≠ rb) : DP S H w' db now ps cs po co ord rb r wv K := by
  have hd : ¬ F db := fun e => (hF _ e).2.1 rfl
  have hr : ¬ F rb := fun e => (hF _ e).2.2 rfl
  have hk : ∀ b, K b → ¬ F b := fun b hb e => (hF _ e).1 hb
  have hdl : db < w.heap.size := World.block_lt_of_cell? w _ h.c0
  refine ⟨ho.cell h.c0 hd, ho.cell h.c1 hd, ho.cell h.c2 hd, ho.cell h.c3 hd, ho.cell h.c4 hd, ho.cell h.c5 hd, fun o => ?_, fun j hj => ?_, fun j hj => ?_, fun j hj => ho.cell (h.rs j hj) hr, fun o => ?_, h.kd, h.kr, fun b hb => Nat.lt_of_lt_of_le (h.kl b hb) ho.size, Nat.lt_of_lt_of_le h.rl ho.size, h.ne, h.ord⟩
  · rw [World.frozen?_of_block (w := w) (ho.block db hdl hd)]; exact h.fz o
  · obtain ⟨a, h1, h2, h3⟩ := h.srv j hj
    exact ⟨a, h1, h2.kept ho (hk _ h3), h3⟩
  · obtain ⟨a, h1, h2, h3⟩ := h.od j hj
    exact ⟨a, h1, ho.cell h2 (hk _ h3), h3⟩
  · rw [World.frozen?_of_block (w := w) (ho.block rb h.rl hr)]; exact h.rf o

theorem Only.setCell0 (w : World) (p : Addr) (u : Value) : Only (fun b => b = p.block) w (w.setCell p u) := (Only.refl (fun b => b = p.block) w).setCell (.inl rfl) u

theorem frozen_setCell (w : World) (p q : Addr) (u : Value) : (w.setCell p u).frozen? q = w.frozen? q := by simp

/-- One rest turns. -/
theorem DP.setRest {S : List Srv} {H : Nat} {w : World} {db now : Nat} {ps : Option Addr} {cs : Nat} {po : Option Addr} {co : Nat} {ord : List Nat} {rb : Nat} {r : Nat → Int} {wv : Value} {K : Nat → Prop}
    (h : DP S H w db now ps cs po co ord rb r wv K) {i : Nat} (hi : i < S.length) (x : Int) : DP S H (w.setCell ⟨rb, i, none⟩ (.int .i64 x)) db now ps cs po co ord rb (fun j => if j = i then x else r j) wv K := by
  have ho : Only (fun b => b = rb) w (w.setCell ⟨rb, i, none⟩ (.int .i64 x)) := Only.setCell0 w ⟨rb, i, none⟩ _
  have hd : db ≠ rb := h.ne
  have hk : ∀ b, K b → ¬ b = rb := fun b hb e => h.kr (e ▸ hb)
  refine ⟨ho.cell h.c0 hd, ho.cell h.c1 hd, ho.cell h.c2 hd, ho.cell h.c3 hd, ho.cell h.c4 hd, ho.cell h.c5 hd, fun o => by rw [frozen_setCell]; exact h.fz o, fun j hj => ?_, fun j hj => ?_, fun j hj => ?_, fun o => by rw [frozen_setCell]; exact h.rf o, h.kd, h.kr, fun b hb => Nat.lt_of_lt_of_le (h.kl b hb) ho.size, Nat.lt_of_lt_of_le h.rl ho.size, h.ne, h.ord⟩
  · obtain ⟨a, h1, h2, h3⟩ := h.srv j hj
    exact ⟨a, h1, h2.kept ho (hk _ h3), h3⟩
  · obtain ⟨a, h1, h2, h3⟩ := h.od j hj
    exact ⟨a, h1, ho.cell h2 (hk _ h3), h3⟩
  · by_cases e : j = i
    · subst e
      rw [if_pos rfl]
      exact World.cell?_setCell_same _ _ _ (h.rs j hj)
    · rw [if_neg e, World.cell?_setCell_other _ _ _ _ (fun e2 => e (by cases e2; rfl))]
      exact h.rs j hj

/-- The tick turns. -/
theorem DP.setNow {S : List Srv} {H : Nat} {w : World} {db now : Nat} {ps : Option Addr} {cs : Nat} {po : Option Addr} {co : Nat} {ord : List Nat} {rb : Nat} {r : Nat → Int} {wv : Value} {K : Nat → Prop}
    (h : DP S H w db now ps cs po co ord rb r wv K) (m : Nat) : DP S H (w.setCell ⟨db, 3, none⟩ (.int .i64 m)) db m ps cs po co ord rb r wv K := by
  have ho : Only (fun b => b = db) w (w.setCell ⟨db, 3, none⟩ (.int .i64 m)) := Only.setCell0 w ⟨db, 3, none⟩ _
  have hr : rb ≠ db := fun e => h.ne e.symm
  have hk : ∀ b, K b → ¬ b = db := fun b hb e => h.kd (e ▸ hb)
  have hoth : ∀ k, k ≠ 3 → (w.setCell ⟨db, 3, none⟩ (.int .i64 m)).cell? ⟨db, k, none⟩ = w.cell? ⟨db, k, none⟩ := fun k hk => World.cell?_setCell_other _ _ _ _ (fun e2 => hk (by cases e2; rfl))
  refine ⟨(hoth 0 (by decide)).trans h.c0, (hoth 1 (by decide)).trans h.c1, (hoth 2 (by decide)).trans h.c2, World.cell?_setCell_same _ _ _ h.c3, (hoth 4 (by decide)).trans h.c4, (hoth 5 (by decide)).trans h.c5, fun o => by rw [frozen_setCell]; exact h.fz o, fun j hj => ?_, fun j hj => ?_, fun j hj => ho.cell (h.rs j hj) hr, fun o => by rw [frozen_setCell]; exact h.rf o, h.kd, h.kr, fun b hb => Nat.lt_of_lt_of_le (h.kl b hb) ho.size, Nat.lt_of_lt_of_le h.rl ho.size, h.ne, h.ord⟩
  · obtain ⟨a, h1, h2, h3⟩ := h.srv j hj
    exact ⟨a, h1, h2.kept ho (hk _ h3), h3⟩
  · obtain ⟨a, h1, h2, h3⟩ := h.od j hj
    exact ⟨a, h1, ho.cell h2 (hk _ h3), h3⟩

/-- The wheel turns. -/
theorem DP.setWheel {S : List Srv} {H : Nat} {w : World} {db now : Nat} {ps : Option Addr} {cs : Nat} {po : Option Addr} {co : Nat} {ord : List Nat} {rb : Nat} {r : Nat → Int} {wv : Value} {K : Nat → Prop}
    (h : DP S H w db now ps cs po co ord rb r wv K) (u : Value) : DP S H (w.setCell ⟨db, 5, none⟩ u) db now ps cs po co ord rb r u K := by
  have ho : Only (fun b => b = db) w (w.setCell ⟨db, 5, none⟩ u) := Only.setCell0 w ⟨db, 5, none⟩ _
  have hr : rb ≠ db := fun e => h.ne e.symm
  have hk : ∀ b, K b → ¬ b = db := fun b hb e => h.kd (e ▸ hb)
  have hoth : ∀ k, k ≠ 5 → (w.setCell ⟨db, 5, none⟩ u).cell? ⟨db, k, none⟩ = w.cell? ⟨db, k, none⟩ := fun k hk => World.cell?_setCell_other _ _ _ _ (fun e2 => hk (by cases e2; rfl))
  refine ⟨(hoth 0 (by decide)).trans h.c0, (hoth 1 (by decide)).trans h.c1, (hoth 2 (by decide)).trans h.c2, (hoth 3 (by decide)).trans h.c3, (hoth 4 (by decide)).trans h.c4, World.cell?_setCell_same _ _ _ h.c5, fun o => by rw [frozen_setCell]; exact h.fz o, fun j hj => ?_, fun j hj => ?_, fun j hj => ho.cell (h.rs j hj) hr, fun o => by rw [frozen_setCell]; exact h.rf o, h.kd, h.kr, fun b hb => Nat.lt_of_lt_of_le (h.kl b hb) ho.size, Nat.lt_of_lt_of_le h.rl ho.size, h.ne, h.ord⟩
  · obtain ⟨a, h1, h2, h3⟩ := h.srv j hj
    exact ⟨a, h1, h2.kept ho (hk _ h3), h3⟩
  · obtain ⟨a, h1, h2, h3⟩ := h.od j hj
    exact ⟨a, h1, ho.cell h2 (hk _ h3), h3⟩
end Bulk

namespace Go.Proofs.YtlmnojbghgnniaaGreatDoor.Wh
open Go.RowKit Bulk
set_option maxHeartbeats 400000 in
set_option maxRecDepth 100000 in
/-- Arming beyond the last tick is refused. -/
theorem arm_big (wb n : Nat) (i : Int) (t : Nat) (w : World) (hc0 : w.cell? ⟨wb, 0, none⟩ = some (.int .i64 n)) (h0 : 0 ≤ i) (h1 : i ≤ 65535) (hnt : n ≤ t) (ht : 1099511627776 ≤ t) :
    Calls Tryz.prog 98 #[.pointer (some ⟨wb, 0, none⟩), .int .i64 i, .int .i64 t] w fun e w' => e = .returned (.int .i64 2) ∧ w' = w := by
  have d1 : decide (i < 0) = false := by simp; omega
  have d2 : decide (65535 < i) = false := by simp; omega
  have d3 : decide (t < n) = false := by simp; omega
  have d4 : decide (1099511627776 ≤ (t : Int)) = true := by simp; omega
  clear h0 h1 hnt ht
  go_enter Tryz.func98, Tryz.ntmps98
  go_wp2_with fail
  go_ret
  exact ⟨rfl, rfl⟩

/-- Arming a timer that is not there, whichever the tick. -/
theorem arm_any (wb n : Nat) (R : Nat → Nat → List Int) (T : List (Int × Int)) (F : Nat → Prop) (w : World) (h : At w wb n R T F) (hI : WInv n R T) (i : Int) (t : Nat) (hi : aget T i = none) (h0 : 0 ≤ i) (h1 : i ≤ 65535) (hnt : n ≤ t) (hT : T.length ≤ 1000000) :
    Calls Tryz.prog 98 #[.pointer (some ⟨wb, 0, none⟩), .int .i64 i, .int .i64 t] w fun e w' => ∃ c R' T', e = .returned (.int .i64 c) ∧ Only F w w' ∧ At w' wb n R' T' (Fr F w w') ∧ WInv n R' T' ∧
      ∀ k, aget T' k = if k = i then (if t < 1099511627776 then some (t : Int) else none) else aget T k := by
  by_cases ht : t < 1099511627776
  · have hlv := lv_le t n
    refine (arm_new wb n R T F w h i t hi h0 h1 hnt ht (Nat.le_trans (hI.len (by omega) (dg_lt _ _)) hT)).mono fun e w' ⟨he, ho, ha⟩ => ⟨0, _, _, he, ho, ha, hI.lay hi hnt ht, fun k => ?_⟩
    rw [aget_set, if_pos ht]
  · have hc0 : w.cell? ⟨wb, 0, none⟩ = some (.int .i64 n) := by obtain ⟨mb, V, hr, hf⟩ := h; exact hr.c0
    refine (arm_big wb n i t w hc0 h0 h1 hnt (by omega)).mono fun e w' ⟨he, hw⟩ => ⟨2, R, T, he, by rw [hw]; exact Only.refl _ _, by rw [hw]; exact h.mono fun b _ hb => .inl hb, hI, fun k => ?_⟩
    rw [if_neg ht]
    by_cases e : k = i
    · subst e; rw [if_pos rfl]; exact hi
    · rw [if_neg e]
end Go.Proofs.YtlmnojbghgnniaaGreatDoor.Wh

namespace Bulk
/-- The world of a dispatcher and its wheel. -/
structure DW (S : List Srv) (H : Nat) (w : Go.World) (db now : Nat) (ps : Option Go.Addr) (cs : Nat) (po : Option Go.Addr) (co : Nat) (ord : List Nat) (rb : Nat) (r : Nat → Int) (wb : Nat) (K FW : Nat → Prop) (n : Nat) (R : Nat → Nat → List Int) (T : List (Int × Int)) : Prop where
  dp : DP S H w db now ps cs po co ord rb r (.iface 68 (.pointer (some ⟨wb, 0, none⟩))) K
  at_ : Go.Proofs.YtlmnojbghgnniaaGreatDoor.Wh.At w wb n R T FW
  inv : WInv n R T
  dj : ∀ b, FW b → ¬ K b ∧ b ≠ db ∧ b ≠ rb

theorem nx_ge (S : List Srv) (j f : Nat) (hp : j < S.length) (ok : okL S) : f ≤ nx S j f := by
  have hs := (ok.1 S[j] (List.getElem_mem hp)).1
  have e := (sysOf_at hp).1
  unfold nx Go.Proofs.YtlmnojbghgnniaaGreatDoor.Ch.nextN
  have : ((sysOf S).P j).toNat ≠ 0 := by rw [e]; omega
  have hm := Nat.mod_lt (f - ((sysOf S).O j).toNat) (Nat.pos_of_ne_zero this)
  have hle := Nat.mod_le (f - ((sysOf S).O j).toNat) ((sysOf S).P j).toNat
  split
  · assumption
  · split <;> omega

/-- At its own release the next is a period on. -/
theorem nx_step (S : List Srv) (j m f : Nat) (hp : j < S.length) (ok : okL S) (h : nx S j f = m) : nx S j (m + 1) = m + ((sysOf S).P j).toNat := by
  have hs := (ok.1 S[j] (List.getElem_mem hp)).1
  have e := (sysOf_at hp).1
  unfold nx Go.Proofs.YtlmnojbghgnniaaGreatDoor.Ch.nextN at *
  generalize ((sysOf S).O j).toNat = o at *
  have hP : 1 ≤ ((sysOf S).P j).toNat := by rw [e]; omega
  generalize ((sysOf S).P j).toNat = p at *
  -- m = o + c * p
  obtain ⟨c, hc⟩ : ∃ c, m = o + c * p := by
    split at h
    · exact ⟨0, by omega⟩
    · split at h
      · rename_i h1 h2
        have := Nat.div_add_mod (f - o) p
        refine ⟨(f - o) / p, ?_⟩
        rw [Nat.mul_comm]; omega
      · rename_i h1 h2
        have := Nat.div_add_mod (f - o) p
        refine ⟨(f - o) / p + 1, ?_⟩
        rw [Nat.add_mul, Nat.mul_comm ((f - o) / p)]; omega
  subst hc
  rw [if_neg (by omega)]
  have h2 : o + c * p + 1 - o = 1 + c * p := by omega
  rw [h2, Nat.add_mul_mod_self_right]
  rcases Nat.eq_or_lt_of_le hP with e1 | e1
  · rw [← e1]; simp <;> omega
  · rw [Nat.mod_eq_of_lt e1, if_neg (by omega)]; omega

/-- Ahead of its release nothing turns. -/
theorem nx_same (S : List Srv) (j m f : Nat) (hp : j < S.length) (ok : okL S) (hf : f ≤ m) (h : m ≤ nx S j f) : nx S j m = nx S j f := by
  have hs := (ok.1 S[j] (List.getElem_mem hp)).1
  have e := (sysOf_at hp).1
  unfold nx Go.Proofs.YtlmnojbghgnniaaGreatDoor.Ch.nextN at *
  generalize ((sysOf S).O j).toNat = o at *
  have hP : 1 ≤ ((sysOf S).P j).toNat := by rw [e]; omega
  generalize ((sysOf S).P j).toNat = p at *
  by_cases h1 : f ≤ o
  · rw [if_pos h1] at h ⊢
    rw [if_pos h]
  · rw [if_neg h1] at h ⊢
    rw [if_neg (by omega)]
    have hd := Nat.div_add_mod (f - o) p
    have hlt := Nat.mod_lt (f - o) hP
    by_cases h2 : (f - o) % p = 0
    · rw [if_pos h2] at h ⊢
      have : m = f := by omega
      subst this
      rw [if_pos h2]
    · rw [if_neg h2] at h ⊢
      have hm : m - o = (f - o) / p * p + ((f - o) % p + (m - f)) := by rw [Nat.mul_comm]; omega
      by_cases h3 : (f - o) % p + (m - f) = p
      · have : (m - o) % p = 0 := by rw [hm, h3]; simp
        rw [if_pos this]; omega
      · have h4 : (m - o) % p = (f - o) % p + (m - f) := by
          rw [hm, Nat.mul_comm, Nat.mul_add_mod, Nat.mod_eq_of_lt (by omega)]
        rw [if_neg (by omega), h4]; omega

/-- Released at m: the next from m on is m. -/
theorem nx_rel (S : List Srv) (j m : Nat) (hp : j < S.length) (ok : okL S) : nx S j m = m ↔ (sysOf S).rel j (m : Int) := by
  have hs := ok.1 S[j] (List.getElem_mem hp)
  obtain ⟨e1, e2, e3, e4⟩ := sysOf_at hp
  have ho : 0 ≤ (sysOf S).O j := by rw [e3]; exact hs.2.2.1.1
  have hp1 : 1 ≤ (sysOf S).P j := by rw [e1]; exact hs.1.1
  unfold nx Go.Proofs.YtlmnojbghgnniaaGreatDoor.Ch.nextN Sys.rel
  obtain ⟨o, ho'⟩ : ∃ o : Nat, (sysOf S).O j = o := ⟨_, (Int.toNat_of_nonneg ho).symm⟩
  obtain ⟨p, hp'⟩ : ∃ p : Nat, (sysOf S).P j = p := ⟨_, (Int.toNat_of_nonneg (by omega)).symm⟩
  have hpp : 1 ≤ p := by omega
  rw [ho', hp']
  simp only [Int.toNat_natCast]
  by_cases h1 : m ≤ o
  · rw [if_pos h1]
    constructor
    · intro h; subst h; simp
    · intro h; omega
  · rw [if_neg h1]
    have hc : ((m : Int) - o) = ((m - o : Nat) : Int) := by omega
    rw [hc, ← Int.natCast_emod]
    have hlt := Nat.mod_lt (m - o) hpp
    have hle := Nat.mod_le (m - o) p
    by_cases h2 : (m - o) % p = 0
    · rw [if_pos h2]; simp [h2]; omega
    · rw [if_neg h2]
      have : ¬ (((m - o) % p : Nat) : Int) = 0 := by omega
      simp only [this, and_false, iff_false]; omega
end Bulk
