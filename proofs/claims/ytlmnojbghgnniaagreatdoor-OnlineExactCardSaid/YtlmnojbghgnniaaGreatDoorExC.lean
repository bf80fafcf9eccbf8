/- OnlineExact's begun: the plain part. -/
import Derived.Test.YtlmnojbghgnniaaGreatDoorExB
namespace Bulk
open Go Go.RowKit

/-- What New has answered: no dispatcher, or one of S at tick 0. -/
def AbleIs (S : List Srv) (w w' : World) (pa : Option Addr) (h : Nat) : Prop :=
  (pa = none ∧ (hyperOf S).2 ≠ 0) ∨ (∃ db, pa = some ⟨db, 0, none⟩ ∧ hyperOf S = (h, 0) ∧ Dis S h w' db 0 (Fr noB w w'))

theorem flatS_set : ∀ (L : List Srv) (j : Nat) (s : Srv), ((((flatS L).set (j * 4) (.int .i64 s.p)).set (j * 4 + 1) (.int .i64 s.b)).set (j * 4 + 2) (.int .i64 s.o)).set (j * 4 + 3) (.int .i64 s.q) = flatS (L.set j s)
  | [], j, s => by simp [flatS]
  | x :: L, 0, s => by simp [flatS]
  | x :: L, j + 1, s => by
    have ih := flatS_set L j s
    have e : flatS (x :: L) = .int .i64 x.p :: .int .i64 x.b :: .int .i64 x.o :: .int .i64 x.q :: flatS L := by simp [flatS]
    have e2 : flatS (x :: L.set j s) = .int .i64 x.p :: .int .i64 x.b :: .int .i64 x.o :: .int .i64 x.q :: flatS (L.set j s) := by simp [flatS]
    rw [e, List.set_cons_succ, e2, ← ih, show (j + 1) * 4 = j * 4 + 1 + 1 + 1 + 1 by omega]
    simp only [List.set_cons_succ]

theorem own_set_any {w : World} {B e sz n : Nat} {v : Value} {xs : List Value} (h : w.ownsRow B e sz v n xs) {i g : Nat} (hg : v.ownBlock = some g) (u : Value) : (w.setCell ⟨g, i, none⟩ u).ownsRow B e sz v n (xs.set i u) := by
  refine ⟨by simpa using h.1, ?_⟩
  rcases h.2 with ⟨h1, _⟩ | ⟨g', cap, cur, rfl, hb, hh, hle, hmax, hsz, ht⟩
  · subst h1; simp [Value.ownBlock] at hg
  · obtain rfl : g' = g := by simpa [Value.ownBlock] using hg
    refine .inr ⟨g', cap, cur.setIfInBounds i u, rfl, hb, ?_, hle, hmax, by simpa using hsz, ?_⟩
    · simp only [World.setCell, Array.getElem?_modify, if_true, hh]; rfl
    · rw [← ht, Array.toList_setIfInBounds, List.take_set]

theorem own_srv_set {w : World} {B e m : Nat} {v : Value} {L : List Srv} (h : w.ownsRow B e 4 v m (flatS L)) {j g : Nat} (hg : v.ownBlock = some g) (s : Srv) :
    ((((w.setCell ⟨g, j * 4, none⟩ (.int .i64 s.p)).setCell ⟨g, j * 4 + 1, none⟩ (.int .i64 s.b)).setCell ⟨g, j * 4 + 2, none⟩ (.int .i64 s.o)).setCell ⟨g, j * 4 + 3, none⟩ (.int .i64 s.q)).ownsRow B e 4 v m (flatS (L.set j s)) := by
  rw [← flatS_set]
  exact own_set_any (own_set_any (own_set_any (own_set_any h hg _) hg _) hg _) hg _

theorem own_srv {w : World} {B e m n c : Nat} {p : Option Addr} {L : List Srv} (h : w.ownsRow B e 4 (.slice p n c) m (flatS L)) {j : Nat} (hj : j < L.length) :
    ∃ g, p = some ⟨g, 0, none⟩ ∧ B ≤ g ∧ g < w.heap.size ∧ L[j].At w ⟨g, j * 4, none⟩ ∧ (∀ o, w.frozen? ⟨g, o, none⟩ = false) := by
  have hlen := h.1
  rw [flatS_len] at hlen
  rcases h.2 with ⟨_, h2⟩ | ⟨g, cap, cur, h1, h2, h3, h4⟩
  · omega
  · injection h1 with e1 e2 e3
    subst e1
    have hc := fun {g} => h.cells (g := g)
    obtain ⟨f0, f1, f2, f3⟩ := flatS_at L j hj
    have k0 := hc rfl _ _ f0
    have k1 := hc rfl _ _ f1
    have k2 := hc rfl _ _ f2
    have k3 := hc rfl _ _ f3
    rw [Addr.add_lit, Nat.zero_add] at k0 k1 k2 k3
    exact ⟨g, rfl, h2, (Array.getElem?_eq_some_iff.1 h3).1, ⟨k0, k1, k2, k3⟩, fun o => by simp [World.frozen?, h3]⟩

theorem four_only' {w2 : World} {b i : Nat} {c d e f : Value} : Only (fun x => x = b) w2 ((((w2.setCell ⟨b, i, none⟩ c).setCell ⟨b, i + 1, none⟩ d).setCell ⟨b, i + 2, none⟩ e).setCell ⟨b, i + 3, none⟩ f) := by
  have h : b = b ∨ w2.heap.size ≤ b := .inl rfl
  exact ((((Only.refl _ w2).setCell h _).setCell h _).setCell h _).setCell h _

/-- The servers turned round as far as i, the marks behind them. -/
def turnL (S : List Srv) (i : Nat) : List Srv := (List.range S.length).map (fun j => if j < i ∨ S.length - i ≤ j then S[S.length - 1 - j]?.getD mark77 else S[j]?.getD mark77) ++ List.replicate 64 mark77

theorem turnL_len (S : List Srv) (i : Nat) : (turnL S i).length = S.length + 64 := by simp [turnL]

theorem turnL_zero (S : List Srv) : turnL S 0 = S ++ List.replicate 64 mark77 := by
  unfold turnL
  congr 1
  refine List.ext_getElem (by simp) fun j h1 h2 => ?_
  simp only [List.getElem_map, List.getElem_range]
  simp only [List.length_map, List.length_range] at h1
  rw [if_neg (by omega), List.getElem?_eq_getElem h1]; rfl

theorem turnL_at {S : List Srv} {i j : Nat} (hj : j < S.length) : (turnL S i)[j]'(by rw [turnL_len]; omega) = if j < i ∨ S.length - i ≤ j then S[S.length - 1 - j]'(by omega) else S[j] := by
  unfold turnL
  rw [List.getElem_append_left (by simpa using hj)]
  simp only [List.getElem_map, List.getElem_range]
  split
  · rw [List.getElem?_eq_getElem (by omega)]; rfl
  · rw [List.getElem?_eq_getElem hj]; rfl

theorem turnL_mark {S : List Srv} {i j : Nat} (hj : S.length ≤ j) (hj2 : j < S.length + 64) : (turnL S i)[j]'(by rw [turnL_len]; exact hj2) = mark77 := by
  unfold turnL
  rw [List.getElem_append_right (by simpa using hj)]
  exact List.getElem_replicate ..

theorem turnL_step {S : List Srv} {i : Nat} (hi : i < S.length / 2) : ((turnL S i).set i (S[S.length - 1 - i]'(by omega))).set (S.length - 1 - i) (S[i]'(by omega)) = turnL S (i + 1) := by
  refine List.ext_getElem (by simp [turnL_len]) fun j h1 h2 => ?_
  rw [turnL_len] at h2
  rw [List.getElem_set, List.getElem_set]
  by_cases hj : j < S.length
  · rw [turnL_at hj, turnL_at hj]
    by_cases e1 : S.length - 1 - i = j
    · rw [if_pos e1, if_pos (by omega)]
      congr 1; omega
    · rw [if_neg e1]
      by_cases e2 : i = j
      · subst e2; rw [if_pos rfl, if_pos (by omega)]
      · rw [if_neg e2]
        by_cases e3 : j < i ∨ S.length - i ≤ j
        · rw [if_pos e3, if_pos (by omega)]
        · rw [if_neg e3, if_neg (by omega)]
  · rw [if_neg (by omega), if_neg (by omega)]
    rw [turnL_mark (by omega) h2, turnL_mark (by omega) h2]

theorem turnL_end (S : List Srv) : turnL S (S.length / 2) = S.reverse ++ List.replicate 64 mark77 := by
  unfold turnL
  congr 1
  refine List.ext_getElem (by simp) fun j h1 h2 => ?_
  simp only [List.length_map, List.length_range] at h1
  simp only [List.getElem_map, List.getElem_range, List.getElem_reverse]
  by_cases e : j < S.length / 2 ∨ S.length - S.length / 2 ≤ j
  · rw [if_pos e, List.getElem?_eq_getElem (by omega)]; rfl
  · rw [if_neg e, List.getElem?_eq_getElem h1]
    simp only [Option.getD_some]
    congr 1; omega

/-- The block of a list of servers of the call's own. -/
def BlkAt (w : World) (g n : Nat) : Prop := ∃ cur, w.heap[g]? = some (.cells cur 44 (0, 0)) ∧ n * 4 ≤ cur.size

theorem BlkAt.set {w : World} {g n : Nat} (h : BlkAt w g n) (i : Nat) (u : Value) : BlkAt (w.setCell ⟨g, i, none⟩ u) g n := by
  obtain ⟨cur, h1, h2⟩ := h
  refine ⟨cur.setIfInBounds i u, ?_, by simpa using h2⟩
  simp only [World.setCell, Array.getElem?_modify, if_true, h1]; rfl

theorem BlkAt.cell {w : World} {g n : Nat} (h : BlkAt w g n) {i : Nat} (hi : i < n * 4) : (∃ u, w.cell? ⟨g, i, none⟩ = some u) ∧ w.frozen? ⟨g, i, none⟩ = false := by
  obtain ⟨cur, h1, h2⟩ := h
  exact ⟨⟨cur[i]'(by omega), by simp [World.cell?, h1, show i < cur.size by omega]⟩, by simp [World.frozen?, h1]⟩

theorem BlkAt.kept {w w' : World} {g n : Nat} (h : BlkAt w g n) (ho : Only noB w w') : BlkAt w' g n := by
  obtain ⟨cur, h1, h2⟩ := h
  exact ⟨cur, by rw [ho.block g (Array.getElem?_eq_some_iff.1 h1).1 id]; exact h1, h2⟩

theorem able_final {S : List Srv} {w w1 w2 wf : World} {pa : Option Addr} {h : Nat} (ha : AbleIs S w1 w2 pa h) (ho : Only noB w w1) (hf : Only (fun b => w.heap.size ≤ b ∧ b < w1.heap.size) w2 wf) : AbleIs S w wf pa h := by
  rcases ha with ha | ⟨db, e1, e2, e3⟩
  · exact .inl ha
  · refine .inr ⟨db, e1, e2, (e3.kept hf fun b _ h1 h2 => ?_).mono fun b hb h1 => .inr ⟨?_, hb⟩⟩
    · have := (h1.resolve_left id).1; omega
    · have := (h1.resolve_left id).1; have := ho.size; omega

/-- Of an owned list with marks the first part. -/
theorem srvF_take {w : World} {B e m c : Nat} {p : Option Addr} {L M : List Srv} (h : w.ownsRow B e 4 (.slice p m c) m (flatS (L ++ M))) (hm : 0 < M.length) : SrvF w (.slice p L.length c) L := by
  have hlen := h.1
  rw [flatS_len, List.length_append] at hlen
  rcases h.2 with ⟨_, h2⟩ | ⟨g, cap, cur, h1, h2, h3, h4⟩
  · omega
  · injection h1 with e1 e2 e3
    subst e1
    refine .inr ⟨_, c, rfl, fun j hj => ?_⟩
    obtain ⟨g', hg, _, _, hat, _⟩ := own_srv h (j := j) (by rw [List.length_append]; omega)
    obtain rfl : g = g' := by simpa using hg
    rw [List.getElem_append_left hj] at hat
    rw [Addr.add_lit, Nat.zero_add]
    exact hat
end Bulk

namespace Go.Proofs.YtlmnojbghgnniaaGreatDoor.Ref
open Go.RowKit Bulk Ch On

theorem new_is (S : List Srv) (v : Value) (w : World) (hv : SrvAt w v S) (hl0 : S.length ≤ 9223372036854775807) (hg : Ch.Hnd w) :
    Calls Tryz.prog 13 #[v] w fun e w' => ∃ pa h, e = .returned (.tuple #[.pointer pa, .int .i64 (hyperOf S).2]) ∧ Only noB w w' ∧ AbleIs S w w' pa h := by
  refine (dis_new S v w hv hl0 hg).mono fun e w' ⟨ho, hc⟩ => ?_
  rcases hc with ⟨h1, h2⟩ | ⟨h, db, h1, h2, h3⟩
  · exact ⟨none, 0, h2, ho, .inl ⟨rfl, h1⟩⟩
  · exact ⟨_, h, by rw [h1]; exact h2, ho, .inr ⟨db, rfl, h1, h3⟩⟩
end Go.Proofs.YtlmnojbghgnniaaGreatDoor.Ref
