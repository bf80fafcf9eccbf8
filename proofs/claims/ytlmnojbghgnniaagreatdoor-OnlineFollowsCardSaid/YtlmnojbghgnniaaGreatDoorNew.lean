/- The dispatcher: New. -/
import Derived.Test.YtlmnojbghgnniaaGreatDoorClone
import Derived.Deep.DeepCutAuto
import Derived.Deep.OwnRows
namespace Bulk
open Go Go.RowKit

/-- In New: the dispatcher is laid, its order is 'vo'; all of it lies below B. -/
structure NewSt (S : List Srv) (H : Nat) (w wx : World) (bx db rb B : Nat) (vs vo : Value) : Prop where
  only : Only noB w wx
  box : bx < B
  d : wx.heap[db]? = some (.cells #[vs, vo, .int .i64 H, .int .i64 0, .slice (some ⟨rb, 0, none⟩) S.length S.length, .nilIface] 55 (0, 0))
  r : ∃ cs : Array Value, wx.heap[rb]? = some (.cells cs 3 (0, 0)) ∧ ∀ j, j < S.length → cs[j]? = some (.int .i64 0)
  srv : ∃ (p : Option Addr) (cap : Nat), vs = .slice p S.length cap ∧ ∀ j (hj : j < S.length), ∃ a : Addr, p = some a ∧ S[j].At wx (a.add (j * 4)) ∧ w.heap.size ≤ (a.add (j * 4)).block ∧ (a.add (j * 4)).block ≠ db ∧ (a.add (j * 4)).block ≠ rb ∧ (a.add (j * 4)).block < B
  dn : w.heap.size ≤ db
  rn : w.heap.size ≤ rb
  ne : db ≠ rb
  db_ : db < B
  rb_ : rb < B
  B_ : B ≤ wx.heap.size

theorem made_at (z : Value) (n j : Nat) (hj : j < n) : (madeCells #[z] n)[j]? = some z := by
  rw [← Array.getElem?_toList, toList_madeCells_one]; simp [hj]

theorem NewSt.mkA {S : List Srv} {H : Nat} {w w1 w2 : World} {bx : Nat} {p2 : Option Addr} {c2 : Nat} (h1 : Only noB w w1) (hb : bx < w1.heap.size) (h2 : Only noB w1 w2) (hs : SrvNew w1.drew w2 (.slice p2 S.length c2) S) :
    NewSt S H w ((w2.alloc (.cells (madeCells #[.int .i64 0] S.length) 3)).alloc (.cells #[.slice p2 S.length c2, .slice none 0 0, .int .i64 H, .int .i64 0, .slice (some ⟨w2.heap.size, 0, none⟩) S.length S.length, .nilIface] 55)) bx (w2.heap.size + 1) w2.heap.size (w2.heap.size + 2) (.slice p2 S.length c2) (.slice none 0 0) := by
  have hs1 := h1.size
  have hs2 := h2.size
  have hz : ((w2.alloc (.cells (madeCells #[.int .i64 0] S.length) 3))).heap.size = w2.heap.size + 1 := by simp
  obtain ⟨p, c, e, hsr⟩ := hs
  have ho : Only noB w2 ((w2.alloc (.cells (madeCells #[.int .i64 0] S.length) 3)).alloc (.cells #[.slice p2 S.length c2, .slice none 0 0, .int .i64 H, .int .i64 0, .slice (some ⟨w2.heap.size, 0, none⟩) S.length S.length, .nilIface] 55)) := ((Only.refl _ w2).alloc _).alloc _
  refine ⟨(h1.trans h2 (fun _ _ h => h)).trans ho (fun _ _ h => h), by omega, ?_, ⟨madeCells #[.int .i64 0] S.length, ?_, fun j hj => made_at _ _ _ hj⟩, ⟨p, c, e, fun j hj => ?_⟩, by omega, by omega, by omega, by omega, by omega, ?_⟩
  · have := (MapKept.heap_alloc (w2.alloc (.cells (madeCells #[.int .i64 0] S.length) 3)) (.cells #[.slice p2 S.length c2, .slice none 0 0, .int .i64 H, .int .i64 0, .slice (some ⟨w2.heap.size, 0, none⟩) S.length S.length, .nilIface] 55)).1
    rw [hz] at this; exact this
  · rw [(MapKept.heap_alloc _ _).2 _ (by rw [hz]; omega)]
    exact (MapKept.heap_alloc w2 _).1
  · obtain ⟨a, e1, e2, e3, e4⟩ := hsr j hj
    have e3' : w1.heap.size ≤ (a.add (j * 4)).block := e3
    exact ⟨a, e1, e2.kept ho id, by omega, by omega, by omega, by omega⟩
  · simp

theorem NewSt.mkB {S : List Srv} {H : Nat} {w w1 w2 : World} {bx : Nat} {p2 : Option Addr} {c2 : Nat} (h1 : Only noB w w1) (hb : bx < w1.heap.size) (h2 : Only noB (w1.alloc (.cells (madeCells #[.int .i64 0] S.length) 3)).drew w2) (hs : SrvNew (w1.alloc (.cells (madeCells #[.int .i64 0] S.length) 3)).drew w2 (.slice p2 S.length c2) S) :
    NewSt S H w (w2.alloc (.cells #[.slice p2 S.length c2, .slice none 0 0, .int .i64 H, .int .i64 0, .slice (some ⟨w1.heap.size, 0, none⟩) S.length S.length, .nilIface] 55)) bx w2.heap.size w1.heap.size (w2.heap.size + 1) (.slice p2 S.length c2) (.slice none 0 0) := by
  have hs1 := h1.size
  have hz : ((w1.alloc (.cells (madeCells #[.int .i64 0] S.length) 3)).drew).heap.size = w1.heap.size + 1 := by show (w1.alloc _).heap.size = _; simp
  have hs2 := h2.size
  rw [hz] at hs2
  obtain ⟨p, c, e, hsr⟩ := hs
  have ho : Only noB w2 (w2.alloc (.cells #[.slice p2 S.length c2, .slice none 0 0, .int .i64 H, .int .i64 0, .slice (some ⟨w1.heap.size, 0, none⟩) S.length S.length, .nilIface] 55)) := (Only.refl _ w2).alloc _
  have h3 : Only noB w1 w2 := (((Only.refl _ w1).alloc _).drew).trans h2 (fun _ _ h => h)
  refine ⟨(h1.trans h3 (fun _ _ h => h)).trans ho (fun _ _ h => h), by omega, (MapKept.heap_alloc w2 _).1, ⟨madeCells #[.int .i64 0] S.length, ?_, fun j hj => made_at _ _ _ hj⟩, ⟨p, c, e, fun j hj => ?_⟩, by omega, by omega, by omega, by omega, by omega, ?_⟩
  · rw [(MapKept.heap_alloc _ _).2 _ (by omega), h2.block _ (by rw [hz]; omega) id]
    exact (MapKept.heap_alloc w1 _).1
  · obtain ⟨a, e1, e2, e3, e4⟩ := hsr j hj
    rw [hz] at e3
    exact ⟨a, e1, e2.kept ho id, by omega, by omega, by omega, by omega⟩
  · simp

/-- One place more. -/
theorem NewSt.next {S : List Srv} {H : Nat} {w wr w1 : World} {bx db rb B : Nat} {vs vo v1 : Value} {xs ys : List Value} {i k : Nat} {o : Obj} (h : NewSt S H w wr bx db rb B vs vo) (hown : wr.ownsRow B 3 1 vo i xs) (hg : (wr.alloc o).grownBy w1 vo.ownBlock) (ho : w1.ownsRow B 3 1 v1 k ys) :
    NewSt S H w (w1.setCell ⟨db, 1, none⟩ v1) bx db rb B vs v1 ∧ (w1.setCell ⟨db, 1, none⟩ v1).ownsRow B 3 1 v1 k ys := by
  have hs := hg.size
  have hB := h.B_
  have hsz : wr.heap.size ≤ w1.heap.size := by simp at hs; omega
  have hold : ∀ b, b < B → w1.heap[b]? = wr.heap[b]? := fun b hb => by
    rw [hg.block b (by simp; omega) (fun e => by have := (hown.lt b e.symm).1; omega)]
    exact (MapKept.heap_alloc wr o).2 b (by omega)
  have hset : ∀ b, b ≠ db → (w1.setCell ⟨db, 1, none⟩ v1).heap[b]? = w1.heap[b]? := fun b hb => Below.heap_setCell _ _ _ _ hb
  have hd1 : w1.heap[db]? = some (.cells #[vs, vo, .int .i64 H, .int .i64 0, .slice (some ⟨rb, 0, none⟩) S.length S.length, .nilIface] 55 (0, 0)) := (hold db h.db_).trans h.d
  have hos : Only noB w w1 := (h.only.alloc o).grown hg fun k e => .inr (by have := (hown.lt k e).1; have := h.db_; have := h.dn; omega)
  refine ⟨⟨hos.setCell (.inr h.dn) _, h.box, ?_, ?_, ?_, h.dn, h.rn, h.ne, h.db_, h.rb_, ?_⟩, ?_⟩
  · simp only [World.setCell, Array.getElem?_modify, if_true, hd1]
    rfl
  · obtain ⟨cs, hc1, hc2⟩ := h.r
    exact ⟨cs, by rw [hset rb (fun e => h.ne e.symm), hold rb h.rb_]; exact hc1, hc2⟩
  · obtain ⟨p, c, e, hsr⟩ := h.srv
    refine ⟨p, c, e, fun j hj => ?_⟩
    obtain ⟨a, e1, ⟨k0, k1, k2, k3⟩, e3, e4, e5, e6⟩ := hsr j hj
    have hbl : (w1.setCell ⟨db, 1, none⟩ v1).heap[(a.add (j * 4)).block]? = wr.heap[(a.add (j * 4)).block]? := (hset _ e4).trans (hold _ e6)
    exact ⟨a, e1, ⟨(World.cell?_of_block (w := wr) hbl).trans k0, (World.cell?_of_block (w := wr) (a := ⟨_, _, none⟩) hbl).trans k1, (World.cell?_of_block (w := wr) (a := ⟨_, _, none⟩) hbl).trans k2, (World.cell?_of_block (w := wr) (a := ⟨_, _, none⟩) hbl).trans k3⟩, e3, e4, e5, e6⟩
  · have : (w1.setCell ⟨db, 1, none⟩ v1).heap.size = w1.heap.size := by simp [World.setCell]
    rw [this]; omega
  · exact own_of_blocks ho fun b hb => hset b (fun e => by have := (ho.lt b hb).1; have := h.db_; omega)
end Bulk

namespace Go.Proofs.YtlmnojbghgnniaaGreatDoor.On
open Go.RowKit Bulk Go.Shelf Go.Lib

set_option maxHeartbeats 4000000 in
set_option maxRecDepth 100000 in
/-- The order's comparison. -/
theorem cmp_any (S : List Srv) (bx : Nat) (v : Value) (W : World) (hb : W.cell? ⟨bx, 0, none⟩ = some v) (hv : SrvAt W v S) (ok : okL S) (i j : Nat) (hi : i < S.length) (hj : j < S.length) :
    Calls Tryz.prog 32 #[.int .i64 i, .int .i64 j, .pointer (some ⟨bx, 0, none⟩)] W fun e w' => e = .returned (.int .i64 ((sysOf S).Q j - (sysOf S).Q i)) ∧ ∃ q, w' = W.drewN q := by
  obtain ⟨p, cap, rfl, hc⟩ := hv
  obtain ⟨a, rfl, hat⟩ := hc i hi
  obtain ⟨a', hae, hat'⟩ := hc j hj
  obtain rfl := Option.some.inj hae
  have q1 := hat.2.2.2
  have q2 := hat'.2.2.2
  have h1 := (ok.1 S[i] (List.getElem_mem hi)).2.2.2
  have h2 := (ok.1 S[j] (List.getElem_mem hj)).2.2.2
  have e1 : IntKind.i64.wrap (S[j].q - S[i].q) = S[j].q - S[i].q := IntWalk.i64_in _ (by omega)
  rw [(sysOf_at hi).2.2.2, (sysOf_at hj).2.2.2]
  have hi' : (i : Int) < (S.length : Int) := by omega
  have hj' : (j : Int) < (S.length : Int) := by omega
  generalize S[i].q = x at *
  generalize S[j].q = y at *
  clear hc hat hat' hae h1 h2
  go_enter Tryz.func32, Tryz.ntmps32
  go_wp2_with fail
  go_quiet (fail)
  go_wp2
  go_ret
  exact ⟨rfl, _, rfl⟩

theorem sortWorld_only {α : Type} [Inhabited α] (enc : α → Value) (w : World) (g m : Nat) (d : Array α) (os : Array Obj) : Only (fun b => b = g) w (sortWorld enc w g 0 m d os) := by
  unfold sortWorld
  refine ⟨rfl, rfl, rfl, ?_, fun k hk hn => ?_⟩
  · show w.heap.size ≤ ((Sort.putRow enc (Sort.ahead w m) g 0 d).heap ++ os).size
    rw [Array.size_append, Sort.size_putRow]; exact Nat.le_add_right _ _
  · rw [Sort.heap_grow_old _ _ (by rw [Sort.size_putRow]; exact hk)]
    show (w.heap.modify g _)[k]? = w.heap[k]?
    rw [Array.getElem?_modify, if_neg (fun e => hn e.symm)]

def encN (S : List Srv) (i : Fin S.length) : Value := .int .i64 (i.val : Int)
def cfN (S : List Srv) (i j : Fin S.length) : Int := (sysOf S).Q j.val - (sysOf S).Q i.val

theorem order_any (S : List Srv) (bx : Nat) (v : Value) (w : World) (g cap : Nat) (hc : ∀ j, j < S.length → w.cell? ⟨g, j, none⟩ = some (.int .i64 (j : Int))) (hf : ∀ o, w.frozen? ⟨g, o, none⟩ = false) (hb : w.cell? ⟨bx, 0, none⟩ = some v) (hv : SrvAt w v S)
    (hgb : bx ≠ g) (hgs : ∀ a n c, v = .slice (some a) n c → a.block ≠ g) (ok : okL S) (hpos : 0 < S.length) (hl : S.length ≤ 32) :
    Calls Tryz.prog 31 #[.slice (some ⟨g, 0, none⟩) S.length cap, .func (.func 32) #[] #[.pointer (some ⟨bx, 0, none⟩)]] w fun e w' =>
      e = .returned (.tuple #[]) ∧ Only (fun b => b = g) w w' ∧ ∃ ord, Ord S ord ∧ ∀ j (hj : j < ord.length), w'.cell? ⟨g, j, none⟩ = some (.int .i64 (ord[j] : Int)) := by
  haveI : Inhabited (Fin S.length) := ⟨⟨0, hpos⟩⟩
  have hq : ∀ x y : Fin S.length, (sysOf S).Q x.val = (sysOf S).Q y.val → x = y := fun x y e => by
    rw [(sysOf_at x.2).2.2.2, (sysOf_at y.2).2.2.2] at e
    have hnd := List.pairwise_iff_getElem.1 ok.2
    rcases Nat.lt_trichotomy x.val y.val with c | c | c
    · have := hnd x.val y.val (by simp) (by simp) c
      simp only [List.getElem_map] at this; exact absurd e this
    · exact Fin.ext c
    · have := hnd y.val x.val (by simp) (by simp) c
      simp only [List.getElem_map] at this; exact absurd e.symm this
  have hlt : ∀ x y : Fin S.length, ltOf (cfN S) x y = decide ((sysOf S).Q y.val < (sysOf S).Q x.val) := fun x y => by
    unfold ltOf cfN
    by_cases h : (sysOf S).Q y.val < (sysOf S).Q x.val
    · simp [h]; omega
    · simp [h]; omega
  have hswo : Sort.SWO (ltOf (cfN S)) := ⟨fun x => by rw [hlt]; simp, fun x y z h1 h2 => by rw [hlt] at *; simp at *; omega, fun x y z h1 h2 => by rw [hlt] at *; simp at *; omega⟩
  have hcmp : CmpReads Tryz.prog 32 #[.pointer (some ⟨bx, 0, none⟩)] (encN S) (cfN S) g 0 (List.finRange S.length).toArray.size w := fun m os dk _ x y => by
    have ho := sortWorld_only (encN S) w g m dk os
    refine cmp_any S bx v _ (ho.cell hb hgb) ?_ ok x.val y.val x.2 y.2
    obtain ⟨p, c, rfl, hs⟩ := hv
    refine ⟨p, c, rfl, fun j hj => ?_⟩
    obtain ⟨a, rfl, ha⟩ := hs j hj
    refine ⟨a, rfl, ha.kept ho ?_⟩
    have : (a.add (j * 4)).block = a.block := by unfold Addr.add; split <;> rfl
    rw [this]
    exact hgs a _ _ rfl
  have hH : Sort.Holds (encN S) w g 0 (List.finRange S.length).toArray := fun j hj => by
    have hj' : j < S.length := by simpa using hj
    refine ⟨?_, hf _⟩
    rw [Nat.zero_add, hc j hj']
    rw [getElem!_pos _ j hj]
    simp [encN]
  have hg : g < w.heap.size := World.block_lt_of_cell? w _ (hc 0 hpos)
  have eg : ∀ args w, (callFunc 32 args).run Tryz.prog w = .ok (.enter 32 args) w := enters_of Tryz.func32 (by kernel_rfl) rfl
  have hS := Any.slices_SortFunc_total Tryz.sortL (encN S) (fun _ => rfl) (cfN S) hswo 32 #[.pointer (some ⟨bx, 0, none⟩)] g 0 cap _ w eg hcmp.lays hH hg (by simp; omega) (fun x y h1 h2 => hq x y (by rw [hlt] at h1 h2; simp at h1 h2; omega))
  rw [show (List.finRange S.length).toArray.size = S.length by simp] at hS
  change Calls Tryz.prog 31 _ _ _ at hS
  refine hS.mono ?_
  rintro e w' ⟨he, n, os, rfl⟩
  simp only at *
  have hperm := List.mergeSort_perm (List.finRange S.length) (fun x y => !(ltOf (cfN S)) y x)
  have hpw := List.pairwise_mergeSort (le := fun x y : Fin S.length => !(ltOf (cfN S)) y x) (fun a b c h1 h2 => by rw [hlt] at *; simp at *; omega) (fun a b => by rw [hlt, hlt]; simp; omega) (List.finRange S.length)
  generalize (List.finRange S.length).mergeSort (fun x y => !(ltOf (cfN S)) y x) = L at *
  have hlen : L.length = S.length := by rw [hperm.length_eq]; simp
  have hnd : L.Nodup := hperm.nodup_iff.2 (List.nodup_finRange _)
  refine ⟨he, sortWorld_only _ w g n _ os, L.map Fin.val, ⟨by simpa using hlen, fun i => ?_, ?_⟩, fun j hj => ?_⟩
  · constructor
    · intro h
      obtain ⟨x, _, rfl⟩ := List.mem_map.1 h
      exact x.2
    · intro h
      exact List.mem_map.2 ⟨⟨i, h⟩, hperm.mem_iff.2 (List.mem_finRange _), rfl⟩
  · rw [List.pairwise_map]
    refine (hpw.and hnd).imp fun {a b} ⟨h1, h2⟩ => ?_
    rw [hlt] at h1
    have : (sysOf S).Q a.val ≠ (sysOf S).Q b.val := fun e => h2 (hq a b e)
    simp at h1
    omega
  · have hj' : j < L.length := by simpa using hj
    unfold sortWorld
    have hP := (Sort.holds_putRow (encN S) (Sort.ahead w n) g 0 (List.finRange S.length).toArray L.toArray hH (by simpa using hlen) j (by simpa using hj')).1
    rw [Nat.zero_add] at hP
    rw [Sort.cell?_grow _ _ _ (by rw [Sort.size_putRow]; exact hg), hP, getElem!_pos _ j (by simpa using hj')]
    simp [encN]

theorem cell_alloc_keep {w : World} {p : Addr} {v : Value} (h : w.cell? p = some v) (o : Obj) : (w.alloc o).cell? p = some v := by
  rw [World.cell?_alloc_lt _ _ _ (World.block_lt_of_cell? w _ h)]; exact h

set_option maxHeartbeats 400000 in
set_option maxRecDepth 100000 in
/-- A refusal. -/
theorem new_bad (S : List Srv) (v : Value) (w : World) (hv : SrvAt w v S) (hl0 : S.length ≤ 9223372036854775807) (hg : Ch.Hnd w) (he : (hyperOf S).2 ≠ 0) :
    Calls Tryz.prog 13 #[v] w fun e w' => e = .returned (.tuple #[.pointer none, .int .i64 (hyperOf S).2]) ∧ Only noB w w' := by
  obtain ⟨w0, hw0⟩ : ∃ y : World, y = w.alloc (.cells #[v] 22) := ⟨_, rfl⟩
  have ho : Only noB w w0 := by rw [hw0]; exact (Only.refl _ _).alloc _
  have hv2 : SrvAt w0 v S := by
    obtain ⟨p, c, rfl, hs⟩ := hv
    exact ⟨p, c, rfl, fun j hj => by obtain ⟨a, h1, h2⟩ := hs j hj; exact ⟨a, h1, h2.kept ho id⟩⟩
  have HH := hid (Ch.Hyper_any S v w0 hv2 hl0 (hg.kept ho id))
  obtain ⟨pv, cv, rfl, _⟩ := hv2
  have HE := hid he
  have HO := hid ho
  clear ho hv hg he hl0
  generalize hyperOf S = r at *
  obtain ⟨r1, r2⟩ := r
  have HW0 := hid hw0
  go_enter Tryz.func13, Tryz.ntmps13
  go_wp2_with fail
  rw [← HW0.out]
  clear hw0
  refine HH.out.mono ?_
  rintro e w1 ⟨rfl, ho1⟩
  have HO1 := hid (HO.out.trans ho1 (fun _ _ h => h))
  have hne : r2 ≠ 0 := HE.out
  have d1 : (r2 != 0) = true := by simpa using hne
  clear ho1 HH hne
  go_wp2_with fail
  go_ret2
  exact ⟨rfl, HO1.out⟩

theorem order_led {S : List Srv} {H : Nat} {w1 wr : World} {bx db rb B : Nat} {vs vo v : Value} (h : NewSt S H w1 wr bx db rb B vs vo) (hown : wr.ownsRow B 3 1 vo S.length ((List.range S.length).map (fun j : Nat => Value.int .i64 (j : Int))))
    (hb : wr.cell? ⟨bx, 0, none⟩ = some v) (hv1 : SrvAt w1 v S) (hv : SrvAt wr v S) (ok : okL S) (hl : S.length ≤ 32) :
    Calls Tryz.prog 31 #[vo, .func (.func 32) #[] #[.pointer (some ⟨bx, 0, none⟩)]] wr fun e w' =>
      e = .returned (.tuple #[]) ∧ Only (fun b => vo.ownBlock = some b) wr w' ∧ ∃ ord po co, vo = .slice po S.length co ∧ Ord S ord ∧ ∀ j (hj : j < ord.length), ∃ a, po = some a ∧ w'.cell? (a.add j) = some (.int .i64 (ord[j] : Int)) ∧ B ≤ (a.add j).block := by
  rcases Nat.eq_zero_or_pos S.length with h0 | hpos
  · have hvo : vo = .slice none 0 0 ∨ ∃ g cap, vo = .slice (some ⟨g, 0, none⟩) 0 cap := by
      rcases hown.2 with ⟨h1, _⟩ | ⟨g, cap, cur, h1, _⟩
      · exact .inl h1
      · exact .inr ⟨g, cap, by rw [h1, h0]⟩
    have hform : ∃ po co, vo = .slice po 0 co := by
      rcases hvo with e | ⟨g, c, e⟩
      · exact ⟨_, _, e⟩
      · exact ⟨_, _, e⟩
    obtain ⟨po, co, rfl⟩ := hform
    have hS := AnyF.slices_SortFunc_none (P := Tryz.prog) (ρ := Tryz.sortL_ren) { Tryz.sortL with } po co (.func (.func 32) #[] #[.pointer (some ⟨bx, 0, none⟩)]) wr
    change Calls Tryz.prog 31 _ _ _ at hS
    refine hS.mono ?_
    rintro e w' ⟨rfl, rfl⟩
    exact ⟨rfl, Only.refl _ _, [], po, co, by rw [h0], ⟨by simp [h0], fun i => by simp [h0], List.Pairwise.nil⟩, fun j hj => by simp at hj⟩
  · have hcells := fun {g} => hown.cells (g := g)
    rcases hown.2 with ⟨_, h2⟩ | ⟨g, cap, cur, rfl, hg1, hg2, _⟩
    · omega
    · have hB1 := h.db_
      have hB2 := h.dn
      have hB3 := h.box
      refine (order_any S bx v wr g cap (fun j hj => ?_) (fun o => by simp [World.frozen?, hg2]) hb hv (by omega) (fun a n c e => ?_) ok hpos hl).mono ?_
      · have := hcells rfl j (.int .i64 (j : Int)) (by simp [hj])
        rw [Addr.add_lit, Nat.zero_add] at this; exact this
      · obtain ⟨p, c', e', hs⟩ := hv1
        rw [e] at e'
        obtain ⟨a', ha, hat⟩ := hs 0 hpos
        have hpa : p = some a := by injection e' with e1 _ _; exact e1.symm
        rw [hpa] at ha
        obtain rfl := Option.some.inj ha
        have := World.block_lt_of_cell? w1 _ hat.1
        have hbl : (a.add (0 * 4)).block = a.block := by unfold Addr.add; split <;> rfl
        rw [hbl] at this; omega
      · rintro e w' ⟨he, ho, ord, hord, hc⟩
        refine ⟨he, ho.mono (fun b _ e => by rw [e]; rfl), ord, some ⟨g, 0, none⟩, cap, rfl, hord, fun j hj => ⟨_, rfl, ?_, ?_⟩⟩
        · rw [Addr.add_lit, Nat.zero_add]; exact hc j hj
        · have : ((⟨g, 0, none⟩ : Addr).add j).block = g := by unfold Addr.add; split <;> rfl
          rw [this]; exact hg1

/-- The dispatcher is laid, its wheel is not. -/
theorem NewSt.dp {S : List Srv} {H : Nat} {w1 wr w4 : World} {bx db rb B : Nat} {vs vo : Value} (h : NewSt S H w1 wr bx db rb B vs vo) (hown : wr.ownsRow B 3 1 vo S.length ((List.range S.length).map (fun j : Nat => Value.int .i64 (j : Int))))
    (ho : Only (fun b => vo.ownBlock = some b) wr w4) {ord : List Nat} {po : Option Addr} {co : Nat} (hvo : vo = .slice po S.length co) (hord : Ord S ord) (hc : ∀ j (hj : j < ord.length), ∃ a, po = some a ∧ w4.cell? (a.add j) = some (.int .i64 (ord[j] : Int)) ∧ B ≤ (a.add j).block) :
    ∃ ps cs, DP S H w4 db 0 ps cs po co ord rb (fun _ => 0) .nilIface (fun b => w1.heap.size ≤ b ∧ b ≠ db ∧ b ≠ rb ∧ b < w4.heap.size) := by
  have hB := h.B_
  have hs4 := ho.size
  have hnb : ∀ b, b < B → ¬ vo.ownBlock = some b := fun b hb e => by have := (hown.lt b e).1; omega
  have hd4 : w4.heap[db]? = _ := (ho.block db (by have := h.db_; omega) (hnb db h.db_)).trans h.d
  obtain ⟨cs, hr1, hr2⟩ := h.r
  have hr4 : w4.heap[rb]? = _ := (ho.block rb (by have := h.rb_; omega) (hnb rb h.rb_)).trans hr1
  obtain ⟨p, c, rfl, hsr⟩ := h.srv
  refine ⟨p, c, by simp [World.cell?, hd4], by rw [← hvo]; simp [World.cell?, hd4], by simp [World.cell?, hd4], by simp [World.cell?, hd4], by simp [World.cell?, hd4], by simp [World.cell?, hd4], fun o => by simp [World.frozen?, hd4], fun j hj => ?_, fun j hj => ?_, fun j hj => ?_, fun o => by simp [World.frozen?, hr4], fun e => e.2.1 rfl, fun e => e.2.2.1 rfl, fun b hb => hb.2.2.2, by have := h.rb_; omega, h.ne, hord⟩
  · obtain ⟨a, e1, e2, e3, e4, e5, e6⟩ := hsr j hj
    exact ⟨a, e1, e2.kept ho (hnb _ e6), e3, e4, e5, by omega⟩
  · obtain ⟨a, e1, e2, e3⟩ := hc j hj
    have := World.block_lt_of_cell? w4 _ e2
    have h1 := h.db_
    have h2 := h.rb_
    have h3 := h.dn
    exact ⟨a, e1, e2, by omega, by omega, by omega, this⟩
  · simp only [World.cell?, hr4]
    exact hr2 j hj

set_option maxHeartbeats 4000000 in
set_option maxRecDepth 100000 in
theorem new_ok (S : List Srv) (v : Value) (w : World) (hv : SrvAt w v S) (hl0 : S.length ≤ 9223372036854775807) (hg : Ch.Hnd w) (h : Nat) (hh : hyperOf S = (h, 0)) :
    Calls Tryz.prog 13 #[v] w fun e w' => ∃ db ps cs po co ord rb, e = .returned (.tuple #[.pointer (some ⟨db, 0, none⟩), .int .i64 0]) ∧ Only noB w w' ∧ w.heap.size ≤ db ∧ w.heap.size ≤ rb ∧
      ∃ K F, (∀ b, K b → w.heap.size ≤ b) ∧ (∀ b, F b → w.heap.size ≤ b) ∧ Led S h w' db 0 ps cs po co ord rb K F := by
  obtain ⟨ok, hl, hH1, hH2, okk⟩ := sys_ok hh
  obtain ⟨w0, hw0⟩ : ∃ y : World, y = w.alloc (.cells #[v] 22) := ⟨_, rfl⟩
  have ho : Only noB w w0 := by rw [hw0]; exact (Only.refl _ _).alloc _
  have hv2 : SrvAt w0 v S := by
    obtain ⟨p, c, rfl, hs⟩ := hv
    exact ⟨p, c, rfl, fun j hj => by obtain ⟨a, h1, h2⟩ := hs j hj; exact ⟨a, h1, h2.kept ho id⟩⟩
  have HH := hid (Ch.Hyper_any S v w0 hv2 hl0 (hg.kept ho id))
  rw [hh] at HH
  have hb0 : w0.cell? ⟨w.heap.size, 0, none⟩ = some v := by rw [hw0]; simp
  have HS := hid (And.intro hv2 (And.intro hb0 ho))
  obtain ⟨pv, cv, rfl, _⟩ := hv2
  clear ho hv hg hb0
  have HW0 := hid (And.intro hw0 (show w.heap.size < w0.heap.size by rw [hw0]; simp))
  go_enter Tryz.func13, Tryz.ntmps13
  go_wp2_with fail
  rw [← HW0.out.1]
  clear hw0
  obtain ⟨bx, hbx⟩ : ∃ bx : Nat, bx = w.heap.size := ⟨_, rfl⟩
  rw [← hbx]
  have HBx := hid hbx
  clear hbx
  refine HH.out.mono ?_
  rintro e w1 ⟨rfl, ho1⟩
  have hS1 : w1.cell? ⟨bx, 0, none⟩ = some (.slice pv S.length cv) := ho1.cell (by rw [HBx.out]; exact HS.out.2.1) id
  have hSrv : SrvAt w1 (.slice pv S.length cv) S := by
    obtain ⟨p, c, e, hs⟩ := HS.out.1
    exact ⟨p, c, e, fun j hj => by obtain ⟨a, h1, h2⟩ := hs j hj; exact ⟨a, h1, h2.kept ho1 id⟩⟩
  have HSrv := hid hSrv
  have HO1 := hid (show Only noB w w1 from HS.out.2.2.trans ho1 (fun _ _ h => h))
  have HBs := hid (show bx < w1.heap.size by have := HW0.out.2; have := ho1.size; rw [HBx.out]; omega)
  clear ho1 HH hSrv
  go_wp2_with fail
  go_cut [6] (fun s6 wx => ∃ (db rb B : Nat) (vs : Value), s6 = .pointer (some ⟨db, 0, none⟩) ∧ Hid (NewSt S h w1 wx bx db rb B vs (.slice none 0 0)))
  case first =>
    have HCl := hid (show ∀ W, Only noB w1 W → Calls Tryz.prog 30 #[.slice pv S.length cv] W fun e w' => ∃ p2 c2, e = .returned (.slice p2 S.length c2) ∧ w'.cell? ⟨bx, 0, none⟩ = some (.slice pv S.length cv) ∧ Hid (Only noB W w' ∧ SrvNew W w' (.slice p2 S.length c2) S) from fun W hW => by
      refine (cloneS_any S _ W ?_ hl).mono ?_
      · obtain ⟨p, c, e, hs⟩ := HSrv.out
        exact ⟨p, c, e, fun j hj => by obtain ⟨a, h1, h2⟩ := hs j hj; exact ⟨a, h1, h2.kept hW id⟩⟩
      · rintro e w' ⟨v', rfl, h1, h2⟩
        obtain ⟨p2, c2, rfl, _⟩ := id h2
        exact ⟨p2, c2, rfl, (hW.trans h1 (fun _ _ h => h)).cell hS1 id, hid ⟨h1, h2⟩⟩)
    have hmk := fun W => Go.run_make_row' (P := Tryz.prog) 23 3 (.int .i64 0) 8 Tryz.underlying23 Wh.info3 rfl .i64 .i64 S.length (by omega) (by omega) W
    go_region_held3 (fun w' => w'.cell? ⟨bx, 0, none⟩ = some (.slice pv S.length cv)) (first | go_keep | (refine cell_alloc_keep ?_ _; assumption))
      (first | (go_at_call 30; refine (HCl.out _ (by first | exact (Only.refl _ _).drew | exact ((Only.refl _ _).drew).alloc _)).mono ?_; rintro e w2 ⟨p2, c2, rfl, k1, HC1⟩))
    · go_wp2_with fail
      go_meet
      exact ⟨_, _, _, _, rfl, hid (NewSt.mkA (Only.refl _ w1) HBs.out ⟨HC1.out.1.os, HC1.out.1.tape, HC1.out.1.output, HC1.out.1.size, HC1.out.1.block⟩ HC1.out.2)⟩
    · go_wp2_with fail
      go_meet
      exact ⟨_, _, _, _, rfl, hid (NewSt.mkB (Only.refl _ w1) HBs.out HC1.out.1 HC1.out.2)⟩
  case rest =>
    obtain ⟨db, rb, B, vs, rfl, HN⟩ := hcut
    have kb := HN.out.only.cell hS1 id
    go_wp2_with fail
    obtain ⟨i0, hi, hz0, hz1, hz2⟩ := info_parts Ch.info3
    have HOw := hid (World.ownsRow_nil wc B 3 1)
    go_loopg [26] S.length (fun g v26 wr => ∃ (i : Nat) (vo : Value), i ≤ S.length ∧ g = S.length - i ∧ v26 = .int .i64 i ∧ Hid (NewSt S h w1 wr bx db rb B vs vo ∧ wr.ownsRow B 3 1 vo i ((List.range i).map (fun j : Nat => Value.int .i64 (j : Int)))))
    case atStart => exact ⟨0, _, by omega, rfl, rfl, hid ⟨HN.out, by simpa using HOw.out⟩⟩
    case round =>
      obtain ⟨i, vo, hi1, rfl, rfl, HR⟩ := hrel
      clear HN HOw kb
      have hd := HR.out.1.d
      have c1 : wr.cell? ⟨db, 1, none⟩ = some vo := by simp [World.cell?, hd]
      by_cases hi2 : i < S.length
      · have d2 : decide (i < S.length) = true := by simpa using hi2
        have hown := HR.out.2
        have hB := HR.out.1.B_
        have hdB := HR.out.1.db_
        have c1A : ∀ o, (wr.alloc o).cell? ⟨db, 1, none⟩ = some vo := fun o => cell_alloc_keep c1 o
        clear hd
        go_wp2_with (at_builtin; refine wpList_append_own _ rfl (.tmp 33) (.tmp 35) 23 rfl B 3 i0 (.int .i64 0) 1 8 Tryz.underlying23 hi hz0 hz1 hz2 rfl (by decide) _ i _ rfl (hown.alloc _) ⟨wr.heap.size, 0, none⟩ 1 1 [.int .i64 i] rfl rfl ?c1 ?c2 ?c3 ?c4 ?c5 ?_)
        case c1 =>
          intro j u hj
          match j, hj with
          | 0, hj => simp at hj; subst hj; simp [Addr.add]
        case c2 => intro u hu; simp at hu; subst hu; rfl
        case c3 => unfold maxLen; omega
        case c4 => omega
        case c5 => simp; omega
        intro v1 w2 ho1 hg1 _
        obtain ⟨gv, cv1, rfl⟩ : ∃ gv cv1, v1 = .slice (some ⟨gv, 0, none⟩) (i + 1) cv1 := by
          rcases ho1.2 with ⟨_, h2⟩ | ⟨g, c, cu, h1, _⟩
          · omega
          · exact ⟨g, c, h1⟩
        have hnew := HR.out.1.next hown hg1 ho1
        have hold : w2.heap[db]? = wr.heap[db]? := by
          rw [hg1.block db (by simp; omega) (fun e => by have := (hown.lt db e.symm).1; omega)]
          exact (MapKept.heap_alloc wr _).2 db (by omega)
        have c1' : w2.cell? ⟨db, 1, none⟩ = some vo := (World.cell?_of_block (w := wr) hold).trans c1
        have hd2 := hold.trans HR.out.1.d
        have f1' : w2.frozen? ⟨db, 1, none⟩ = false := by simp [World.frozen?, hd2]
        have HNx := hid hnew
        clear hnew hold hd2 ho1 hg1 hown c1 c1A hB hdB
        go_wp2_with fail
        go_roundg (S.length - (i + 1))
        case measure => omega
        case rel => exact ⟨i + 1, _, by omega, rfl, by go_num, hid ⟨HNx.out.1, by rw [List.range_succ, List.map_append]; exact HNx.out.2⟩⟩
      · obtain rfl : i = S.length := by omega
        clear hi1 hi2
        have kb := HR.out.1.only.cell hS1 id
        have HOrd := hid (order_led HR.out.1 HR.out.2 kb HSrv.out (by
          obtain ⟨p, c, e, hs⟩ := HSrv.out
          exact ⟨p, c, e, fun j hj => by obtain ⟨a, h1, h2⟩ := hs j hj; exact ⟨a, h1, h2.kept HR.out.1.only id⟩⟩) ok hl)
        clear kb hd
        go_wp2_with fail
        refine HOrd.out.mono ?_
        rintro e w4 ⟨rfl, ho4, ord, po, co, hvo, hord, hc4⟩
        obtain ⟨ps, cs, hdp⟩ := NewSt.dp HR.out.1 HR.out.2 ho4 hvo hord hc4
        have hok1 : Only noB w1 w4 := HR.out.1.only.trans ho4 fun x hx e => by
          have h1 := (HR.out.2.lt x e).1
          have h2 := HR.out.1.dn
          have h3 := HR.out.1.db_
          omega
        have HO4 := hid hok1
        have HDb := hid HR.out.1.dn
        have HRb := hid HR.out.1.rn
        have HArm := hid (darm_any S h w4 db 0 0 ps cs po co ord rb _ _ _ hdp ok hl (Nat.le_refl _) (by omega))
        clear ho4 hvo hord hc4 hdp hok1 HOrd c1 HR
        go_wp2_with fail
        refine HArm.out.mono ?_
        rintro e w5 ⟨rfl, ho5, wb, R5, T5, hdw5, hT5⟩
        have HO5 := hid ho5
        have HRel := hid (release_any S h w5 db 0 0 0 ps cs po co ord rb _ wb _ _ R5 T5 hdw5 hT5 ok hl (Nat.le_refl _) (by omega) (Nat.le_refl _) (fun _ _ => Nat.zero_le _))
        clear ho5 hdw5 hT5 HArm
        go_wp2_with fail
        refine HRel.out.mono ?_
        rintro e w6 ⟨rfl, ho6, R6, T6, hdw6, hT6⟩
        have HF := hid (And.intro ho6 (And.intro hdw6 hT6))
        clear ho6 hdw6 hT6 HRel
        go_wp2_with fail
        go_ret2
        obtain ⟨ho6, hdw6, hT6⟩ := HF.out
        have s1 := HO1.out.size
        have s4 := HO4.out.size
        have s5 := HO5.out.size
        have hdb := HDb.out
        have hrb := HRb.out
        refine ⟨db, ps, cs, po, co, ord, rb, rfl, ?_, by omega, by omega, _, _, ?_, ?_, wb, 0, R6, T6, ⟨hdw6.dp.congr (fun j hj => ?_), hdw6.at_, hdw6.inv, hdw6.dj⟩, Nat.le_refl _, hT6⟩
        · refine ((HO1.out.trans HO4.out (fun _ _ e => e)).trans HO5.out fun x hx e => ?_).trans ho6 fun x hx e => ?_
          · have e' : x = db := e
            omega
          · rcases e with e | e
            · have := (e.resolve_left id).1; omega
            · omega
        · intro b hb; have := hb.1; omega
        · intro b hb
          rcases hb with hb | hb
          · have := (hb.resolve_left id).1; omega
          · have := hb.1; omega
        · show (if (sysOf S).rel j ((0 : Nat) : Int) then (sysOf S).B j else 0) = (sysOf S).st 0 j
          rfl
end Go.Proofs.YtlmnojbghgnniaaGreatDoor.On
