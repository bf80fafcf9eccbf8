/- Memory in blocks: what a call may have turned ('Only'), a map of ints, slices that a call owns. -/
import Derived.WalkKit
import Derived.Deep.Draws
import Derived.Test.YtlmnojbghgnniaaGreatDoorWheelM
namespace Bulk
open Go Go.RowKit

/-- Of what was there nothing has turned but the blocks of F. -/
structure Only (F : Nat → Prop) (w w' : World) : Prop where
  os : w'.os = w.os
  tape : w'.tape = w.tape
  output : w'.output = w.output
  size : w.heap.size ≤ w'.heap.size
  block : ∀ k, k < w.heap.size → ¬ F k → w'.heap[k]? = w.heap[k]?

theorem hid {p : Prop} (h : p) : Hid p := h

/-- F, and the blocks that have been made since. -/
def Fr (F : Nat → Prop) (w w' : World) : Nat → Prop := fun b => F b ∨ (w.heap.size ≤ b ∧ b < w'.heap.size)

def noB : Nat → Prop := fun _ => False

theorem Only.refl (F : Nat → Prop) (w : World) : Only F w w := ⟨rfl, rfl, rfl, Nat.le_refl _, fun _ _ _ => rfl⟩

theorem Only.mono {F G : Nat → Prop} {w w' : World} (h : Only F w w') (hFG : ∀ b, b < w.heap.size → F b → G b) : Only G w w' :=
  ⟨h.os, h.tape, h.output, h.size, fun k hk hn => h.block k hk fun hf => hn (hFG k hk hf)⟩

theorem Only.trans {F G : Nat → Prop} {a b c : World} (h : Only F a b) (k : Only G b c) (hG : ∀ x, x < a.heap.size → G x → F x) : Only F a c :=
  ⟨k.os.trans h.os, k.tape.trans h.tape, k.output.trans h.output, Nat.le_trans h.size k.size, fun i hi hn => (k.block i (Nat.lt_of_lt_of_le hi h.size) fun hg => hn (hG i hi hg)).trans (h.block i hi hn)⟩

theorem Only.step {F : Nat → Prop} {a b c : World} (h : Only F a b) (k : Only (Fr F a b) b c) : Only F a c :=
  h.trans k fun x hx hf => hf.resolve_right fun e => by omega

theorem Only.drew {F : Nat → Prop} {a w : World} (h : Only F a w) : Only F a w.drew := ⟨h.os, h.tape, h.output, h.size, h.block⟩
theorem Only.drewN {F : Nat → Prop} {a w : World} (h : Only F a w) (n : Nat) : Only F a (w.drewN n) := ⟨h.os, h.tape, h.output, h.size, h.block⟩

theorem Only.grown {F : Nat → Prop} {a w w' : World} {row : Option Nat} (h : Only F a w) (hg : w.grownBy w' row) (hr : ∀ k, row = some k → F k ∨ a.heap.size ≤ k) : Only F a w' :=
  ⟨hg.os.trans h.os, hg.tape.trans h.tape, hg.output.trans h.output, Nat.le_trans h.size hg.size, fun k hk hn => (hg.block k (by have := h.size; omega) fun e => by
    rcases hr k e.symm with h1 | h1
    · exact hn h1
    · omega).trans (h.block k hk hn)⟩

theorem Only.alloc {F : Nat → Prop} {a w : World} (h : Only F a w) (o : Obj) : Only F a (w.alloc o) := h.grown (World.grownBy_alloc w o Option.none) (fun _ e => by cases e)

theorem Only.setCell {F : Nat → Prop} {a w : World} (h : Only F a w) {p : Addr} (hp : F p.block ∨ a.heap.size ≤ p.block) (u : Value) : Only F a (w.setCell p u) :=
  ⟨h.os, h.tape, h.output, by simpa [World.setCell] using h.size, fun k hk hn => (Below.heap_setCell w p u k (fun e => by subst e; rcases hp with h1 | h1; exact hn h1; omega)).trans (h.block k hk hn)⟩

theorem Only.setObj {F : Nat → Prop} {a w : World} (h : Only F a w) {b : Nat} (hp : F b ∨ a.heap.size ≤ b) (o : Obj) : Only F a { w with heap := w.heap.setIfInBounds b o } :=
  ⟨h.os, h.tape, h.output, by simpa using h.size, fun k hk hn => by
    have hne : b ≠ k := fun e => by subst e; rcases hp with h1 | h1; exact hn h1; omega
    show (w.heap.setIfInBounds b o)[k]? = _
    rw [Array.getElem?_setIfInBounds_ne hne]; exact h.block k hk hn⟩

theorem Only.cell {F : Nat → Prop} {w w' : World} (h : Only F w w') {p : Addr} {v : Value} (hv : w.cell? p = some v) (hp : ¬ F p.block) : w'.cell? p = some v :=
  (World.cell?_of_block (h.block p.block (World.block_lt_of_cell? w p hv) hp)).trans hv

theorem Only.below {w w' : World} (h : Only noB w w') : Below w.heap.size w w' := ⟨h.os, h.tape, h.output, h.size, fun k hk => h.block k hk id⟩

theorem Only.of_below {F : Nat → Prop} {w w' : World} (h : Below w.heap.size w w') : Only F w w' := ⟨h.os, h.tape, h.output, h.size, fun k hk _ => h.block k hk⟩

/-- What a call owns is seen in its own block alone. -/
theorem own_of_blocks {w w' : World} {v : Value} {base e sz n : Nat} {xs : List Value} (h : w.ownsRow base e sz v n xs) (hb : ∀ b, v.ownBlock = some b → w'.heap[b]? = w.heap[b]?) : w'.ownsRow base e sz v n xs := by
  refine ⟨h.1, ?_⟩
  rcases h.2 with hn | ⟨g, cap, cur, rfl, hbg, hg, rest⟩
  · exact .inl hn
  · exact .inr ⟨g, cap, cur, rfl, hbg, by rw [hb g rfl]; exact hg, rest⟩

theorem _root_.Go.RowKit.Below.drewN {B : Nat} {a w : World} (h : Below B a w) (n : Nat) : Below B a (w.drewN n) := ⟨h.os, h.tape, h.output, h.size, h.block⟩

/-! ### A map of ints -/
def intEntry (p : Int × Int) : Value × Value := (.int .i64 p.1, .int .i64 p.2)

def IntMap (w : World) (mb : Nat) (T : List (Int × Int)) : Prop :=
  ∃ es clock, w.heap[mb]? = some (.map es clock) ∧ es.toList.map (fun e => (e.key, e.val)) = T.map intEntry

theorem IntMap.lt {w : World} {mb : Nat} {T : List (Int × Int)} (h : IntMap w mb T) : mb < w.heap.size := by
  obtain ⟨es, c, h1, _⟩ := h
  exact (Array.getElem?_eq_some_iff.1 h1).1

theorem IntMap.of_block {w w' : World} {mb : Nat} {T : List (Int × Int)} (h : IntMap w mb T) (he : w'.heap[mb]? = w.heap[mb]?) : IntMap w' mb T := by
  obtain ⟨es, c, h1, h2⟩ := h
  exact ⟨es, c, by rw [he]; exact h1, h2⟩

theorem IntMap.kept {F : Nat → Prop} {w w' : World} {mb : Nat} {T : List (Int × Int)} (h : IntMap w mb T) (ho : Only F w w') (hn : ¬ F mb) : IntMap w' mb T :=
  h.of_block (ho.block mb h.lt hn)

theorem map_eraseIdx {α β : Type} (f : α → β) : ∀ (l : List α) (i : Nat), (l.eraseIdx i).map f = (l.map f).eraseIdx i
  | [], _ => by simp
  | _ :: _, 0 => by simp
  | _ :: l, i + 1 => by simp [map_eraseIdx f l i]

/-- Where a key stands. -/
theorem findNow_int : ∀ (es : List MapEntry) (T : List (Int × Int)) (k : Int) (i : Nat), es.map (fun e => (e.key, e.val)) = T.map intEntry →
    Instr.findNow (.int .i64) (.int .i64 k) es i = some ((aidx T k i).map fun x => (x.1, .int .i64 x.2))
  | [], [], k, i, _ => rfl
  | [], _ :: _, _, _, h => by cases h
  | _ :: _, [], _, _, h => by cases h
  | e :: es, (a, b) :: T, k, i, h => by
    simp only [List.map_cons, List.cons.injEq, intEntry, Prod.mk.injEq] at h
    obtain ⟨⟨h1, h2⟩, h3⟩ := h
    simp only [Instr.findNow, h1, Instr.sameNow, aidx]
    by_cases hk : k = a
    · subst hk; simp [h2]
    · have hb : (k == a) = false := by simpa using hk
      simp only [hb, if_true, if_neg hk]
      exact findNow_int es T k (i + 1) h3

theorem aidx_get : ∀ (T : List (Int × Int)) (k : Int) (i : Nat), (aidx T k i).map (·.2) = aget T k
  | [], _, _ => rfl
  | (a, b) :: T, k, i => by
    simp only [aidx, aget]
    by_cases h : k = a
    · subst h; simp
    · rw [if_neg h, if_neg (fun e => h e.symm)]; exact aidx_get T k (i + 1)

section
variable {P : Program} {w : World} {mb : Nat} {T : List (Int × Int)} {m : TypeId}

theorem run_lookup_ok (hm : P.underlying m = some (.map 3 3)) (h3 : P.underlying 3 = some (.int .i64)) (hz : (zeroValue 3).run P w = .ok (.int .i64 0) w) (h : IntMap w mb T) (k : Int) :
    (Instr.lookup m (.map (some mb)) (.int .i64 k) true).run P w = .ok (.tuple #[.int .i64 ((aget T k).getD 0), .bool (aget T k).isSome]) w := by
  obtain ⟨es, c, hb, he⟩ := h
  have hf := findNow_int es.toList T k 0 he
  have hg := aidx_get T k 0
  have hk : MapKept.IsKey (.int .i64) (.int .i64 k) := rfl
  cases ha : aidx T k 0 with
  | none =>
    rw [ha] at hf hg
    simp only [Option.map_none] at hf hg
    rw [← hg]
    simp [Instr.lookup, run_underlying hm, MapKept.run_getObj_map hb, MapKept.run_checkKey h3 hk, MapKept.run_findKey h3 hf, hz, Result.andThen]
  | some x =>
    rw [ha] at hf hg
    simp only [Option.map_some] at hf hg
    rw [← hg]
    simp [Instr.lookup, run_underlying hm, MapKept.run_getObj_map hb, MapKept.run_checkKey h3 hk, MapKept.run_findKey h3 hf, Result.andThen]

theorem run_lookup (hm : P.underlying m = some (.map 3 3)) (h3 : P.underlying 3 = some (.int .i64)) (hz : (zeroValue 3).run P w = .ok (.int .i64 0) w) (h : IntMap w mb T) (k : Int) :
    (Instr.lookup m (.map (some mb)) (.int .i64 k) false).run P w = .ok (.int .i64 ((aget T k).getD 0)) w := by
  obtain ⟨es, c, hb, he⟩ := h
  have hf := findNow_int es.toList T k 0 he
  have hg := aidx_get T k 0
  have hk : MapKept.IsKey (.int .i64) (.int .i64 k) := rfl
  cases ha : aidx T k 0 with
  | none =>
    rw [ha] at hf hg
    simp only [Option.map_none] at hf hg
    rw [← hg]
    simp [Instr.lookup, run_underlying hm, MapKept.run_getObj_map hb, MapKept.run_checkKey h3 hk, MapKept.run_findKey h3 hf, hz, Result.andThen]
  | some x =>
    rw [ha] at hf hg
    simp only [Option.map_some] at hf hg
    rw [← hg]
    simp [Instr.lookup, run_underlying hm, MapKept.run_getObj_map hb, MapKept.run_checkKey h3 hk, MapKept.run_findKey h3 hf, Result.andThen]

theorem aidx_none {T : List (Int × Int)} {k v : Int} : ∀ {i : Nat}, aidx T k i = Option.none → aset T k v = T ++ [(k, v)] ∧ adel T k = T := by
  induction T with
  | nil => intro i _; simp [aset, adel]
  | cons x T ih =>
    intro i h
    obtain ⟨a, b⟩ := x
    simp only [aidx] at h
    split at h
    · cases h
    · rename_i hne
      have := ih h
      have hne' : ¬ a = k := fun e => hne e.symm
      refine ⟨?_, ?_⟩
      · simp only [aset, if_neg hne', this.1, List.cons_append]
      · simp only [adel, if_neg hne', this.2]

theorem aidx_some {T : List (Int × Int)} {k v : Int} : ∀ {i j : Nat} {z : Int}, aidx T k i = some (j, z) → i ≤ j ∧ j - i < T.length ∧ aset T k v = T.set (j - i) (k, v) ∧ adel T k = T.eraseIdx (j - i) ∧ T[j - i]? = some (k, z) := by
  induction T with
  | nil => intro i j z h; cases h
  | cons x T ih =>
    intro i j z h
    obtain ⟨a, b⟩ := x
    simp only [aidx] at h
    split at h
    · rename_i e; subst e
      simp only [Option.some.injEq, Prod.mk.injEq] at h
      obtain ⟨rfl, rfl⟩ := h
      simp [aset, adel]
    · rename_i hne
      obtain ⟨h1, h2, h3, h4, h5⟩ := ih h
      have e : j - i = (j - (i + 1)) + 1 := by omega
      have hne' : ¬ a = k := fun e : a = k => hne e.symm
      refine ⟨by omega, by simp; omega, ?_, ?_, ?_⟩
      · rw [e]; simp only [aset, if_neg hne', h3, List.set_cons_succ]
      · rw [e]; simp only [adel, if_neg hne', h4, List.eraseIdx_cons_succ]
      · rw [e]; simpa using h5

theorem run_mapUpdate (hm : P.underlying m = some (.map 3 3)) (h3 : P.underlying 3 = some (.int .i64)) (h : IntMap w mb T) (k v : Int) :
    ∃ o, (Instr.mapUpdate m (.map (some mb)) (.int .i64 k) (.int .i64 v)).run P w = .ok () { w with heap := w.heap.setIfInBounds mb o } ∧ IntMap { w with heap := w.heap.setIfInBounds mb o } mb (aset T k v) := by
  have hlt := h.lt
  obtain ⟨es, c, hb, he⟩ := h
  have hf := findNow_int es.toList T k 0 he
  have hk : MapKept.IsKey (.int .i64) (.int .i64 k) := rfl
  cases ha : aidx T k 0 with
  | none =>
    rw [ha] at hf
    simp only [Option.map_none] at hf
    refine ⟨.map (es.push { key := .int .i64 k, val := .int .i64 v, born := c }) (c + 1), ?_, es.push { key := .int .i64 k, val := .int .i64 v, born := c }, c + 1, by simp [hlt], ?_⟩
    · simp [Instr.mapUpdate, run_underlying hm, MapKept.run_getObj_map hb, MapKept.run_checkKey h3 hk, MapKept.run_findKey h3 hf, MapKept.run_setObj_map _ hb, Result.andThen]
    · rw [(aidx_none (v := v) ha).1]; simp [he, intEntry]
  | some x =>
    obtain ⟨j, z⟩ := x
    rw [ha] at hf
    simp only [Option.map_some] at hf
    obtain ⟨_, h2, h4, _, h5⟩ := aidx_some (v := v) ha
    simp only [Nat.sub_zero] at h2 h4 h5
    have hlen : es.toList.length = T.length := by have := congrArg List.length he; simpa using this
    have hj : j < es.size := by simpa using (show j < es.toList.length by omega)
    have hkey : (es[j]?).map (·.key) = some (.int .i64 k) := by
      have e1 : (es.toList.map (fun e => (e.key, e.val)))[j]? = some (intEntry (k, z)) := by rw [he]; simp [h5]
      have e2 : es[j]? = some es[j] := Array.getElem?_eq_getElem hj
      rw [e2]
      simp [hj, intEntry] at e1
      simp [e1.1]
    refine ⟨.map (es.modify j fun e => { e with key := .int .i64 k, val := .int .i64 v }) c, ?_, (es.modify j fun e => { e with key := .int .i64 k, val := .int .i64 v }), c, by simp [hlt], ?_⟩
    · simp [Instr.mapUpdate, run_underlying hm, MapKept.run_getObj_map hb, MapKept.run_checkKey h3 hk, MapKept.run_findKey h3 hf, MapKept.run_setObj_map _ hb, hkey, MapKept.run_keyThatStays hk, Result.andThen]
    · rw [h4]
      apply List.ext_getElem?
      intro i
      have hi : (es.toList.map (fun e => (e.key, e.val)))[i]? = (T.map intEntry)[i]? := by rw [he]
      simp only [List.getElem?_map, Array.getElem?_toList, Array.getElem?_modify, List.getElem?_set] at hi ⊢
      by_cases e : j = i
      · subst e; simp [hj, h2, intEntry]
      · simp only [if_neg e]; exact hi

theorem run_delete {k2 t2 : TypeId} (hm : P.underlying m = some (.map 3 3)) (h3 : P.underlying 3 = some (.int .i64)) (h : IntMap w mb T) (k : Int) :
    ∃ o, (Builtin.delete_ #[m, k2] t2 #[.map (some mb), .int .i64 k]).run P w = .ok (.tuple #[]) { w with heap := w.heap.setIfInBounds mb o } ∧ IntMap { w with heap := w.heap.setIfInBounds mb o } mb (adel T k) := by
  have hlt := h.lt
  obtain ⟨es, c, hb, he⟩ := h
  have hf := findNow_int es.toList T k 0 he
  have hk : MapKept.IsKey (.int .i64) (.int .i64 k) := rfl
  cases ha : aidx T k 0 with
  | none =>
    rw [ha] at hf
    simp only [Option.map_none] at hf
    refine ⟨.map es c, ?_, es, c, by simp [hlt], ?_⟩
    · simp [Builtin.delete_, run_underlying hm, MapKept.run_getObj_map hb, MapKept.run_checkKey h3 hk, MapKept.run_findKey h3 hf, MapKept.run_setObj_map _ hb, Result.andThen]
    · rw [(aidx_none (v := 0) ha).2]; exact he
  | some x =>
    obtain ⟨j, z⟩ := x
    rw [ha] at hf
    simp only [Option.map_some] at hf
    obtain ⟨_, h2, _, h4, h5⟩ := aidx_some (v := 0) ha
    simp only [Nat.sub_zero] at h2 h4 h5
    refine ⟨.map (es.eraseIdxIfInBounds j) c, ?_, es.eraseIdxIfInBounds j, c, by simp [hlt], ?_⟩
    · simp [Builtin.delete_, run_underlying hm, MapKept.run_getObj_map hb, MapKept.run_checkKey h3 hk, MapKept.run_findKey h3 hf, MapKept.run_setObj_map _ hb, Result.andThen]
    · rw [h4]
      have hlen : es.toList.length = T.length := by have := congrArg List.length he; simpa using this
      have hj : j < es.size := by simpa using (show j < es.toList.length by omega)
      simp only [Array.eraseIdxIfInBounds, hj, dif_pos, Array.toList_eraseIdx, map_eraseIdx, he]
end
end Bulk
