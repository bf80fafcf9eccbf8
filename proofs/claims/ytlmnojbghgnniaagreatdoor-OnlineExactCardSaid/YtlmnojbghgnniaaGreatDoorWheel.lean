/- The wheel's walks: where a timer lies, laying it, arming it. -/
import Derived.Test.YtlmnojbghgnniaaGreatDoorProg
import Derived.Test.YtlmnojbghgnniaaGreatDoorMem
import Derived.Test.YtlmnojbghgnniaaGreatDoorShelf
import Derived.WalkKit
import Derived.BigQuiet
import Derived.Deep.QuietTactic
import Derived.Maps.AppendAt
import Derived.Maps.OwnSet
import Derived.StillTailTactics

namespace Go.Proofs.YtlmnojbghgnniaaGreatDoor.Wh
open Go.RowKit Bulk

theorem info3 : (Tryz.prog.info? 3).map (fun i => (i.zero, i.size, i.bytes)) = some (some (.int .i64 0), 1, 8) := by kernel_rfl
theorem zero3 (w : World) : (zeroValue 3).run Tryz.prog w = .ok (.int .i64 0) w := by kernel_rfl

/-- Where a slot stands in a wheel's block. -/
def so (l d : Nat) : Nat := 2 + l * 64 + d

/-- A wheel in memory: its block, its map's block, the slots' slices. -/
structure Rep (w : World) (wb mb : Nat) (V : Nat → Nat → Value) (n : Nat) (R : Nat → Nat → List Int) (T : List (Int × Int)) : Prop where
  c0 : w.cell? ⟨wb, 0, none⟩ = some (.int .i64 n)
  c1 : w.cell? ⟨wb, 1, none⟩ = some (.map (some mb))
  fz : ∀ o, w.frozen? ⟨wb, o, none⟩ = false
  mp : IntMap w mb T
  rc : ∀ l d, l < 7 → d < 64 → w.cell? ⟨wb, so l d, none⟩ = some (V l d)
  rv : ∀ l d, l < 7 → d < 64 → w.ownsRow 0 3 1 (V l d) (R l d).length ((R l d).map (Value.int .i64))
  ap : ∀ l d b, l < 7 → d < 64 → (V l d).ownBlock = some b → b ≠ wb ∧ b ≠ mb ∧ ∀ l' d', l' < 7 → d' < 64 → (V l' d').ownBlock = some b → l' = l ∧ d' = d
  mw : mb ≠ wb

def Foot (wb mb : Nat) (V : Nat → Nat → Value) (b : Nat) : Prop := b = wb ∨ b = mb ∨ ∃ l d, l < 7 ∧ d < 64 ∧ (V l d).ownBlock = some b

theorem and63 (x : Nat) : bits .and .i64 (x : Int) 63 = ((x % 64 : Nat) : Int) := by
  have h127 : (BitVec.ofInt 64 63).toNat = 2 ^ 6 - 1 := by decide
  have key : (BitVec.ofInt 64 (x : Int) &&& BitVec.ofInt 64 63).toNat = ((x : Int) % ((2 ^ 64 : Nat) : Int)).toNat % 2 ^ 6 := by
    rw [BitVec.toNat_and, BitVec.toNat_ofInt, h127, Nat.and_two_pow_sub_one_eq_mod]
  show IntKind.i64.wrap ((BitVec.ofInt 64 (x : Int) &&& BitVec.ofInt 64 63).toNat : Nat) = _
  rw [key, IntKind.wrap_i64]
  omega

theorem pw_two (l : Nat) (h : l < 7) : pw l = 2 ^ (6 * l) := by
  match l, h with
  | 0, _ => rfl
  | 1, _ => rfl
  | 2, _ => rfl
  | 3, _ => rfl
  | 4, _ => rfl
  | 5, _ => rfl
  | 6, _ => rfl

theorem digit_any (t l : Nat) (w : World) (hl : l < 7) (_ : t < 4398046511104) :
    Calls Tryz.prog 106 #[.int .i64 t, .int .i64 l] w fun e w' => e = .returned (.int .i64 (dg t l : Nat)) ∧ w' = w := by
  have key : bits BinOp.and .i64 ((t : Int) / 2 ^ (6 * l)) 63 = ((dg t l : Nat) : Int) := by
    unfold dg
    rw [pw_two l hl, ← and63, Int.natCast_ediv, Int.natCast_pow]
    rfl
  go_enter Tryz.func106, Tryz.ntmps106
  go_wp2
  go_ret
  exact ⟨rfl, rfl⟩

theorem len_any (x : Nat) (w : World) (hx : x < 18446744073709551616) :
    Calls Tryz.prog 44 #[.int .u64 x] w fun e w' => e = .returned (.int .i64 (Lib.bitLen x : Nat)) ∧ w' = w := by
  have h := Any.bits_Len Tryz.lays125 x w (by omega) (by omega)
  rw [Int.toNat_natCast] at h
  exact h

theorem xor_key (t n : Nat) (ht : t < 4398046511104) (hn : n < 4398046511104) : IntKind.u64.wrap (bits BinOp.xor .i64 (t : Int) (n : Int)) = ((t ^^^ n : Nat) : Int) := by
  have hx : t ^^^ n < 4398046511104 := Nat.xor_lt_two_pow (n := 42) ht hn
  have h1 : (BitVec.ofInt 64 (t : Int)).toNat = t := by
    rw [BitVec.ofInt_natCast, BitVec.toNat_ofNat]; exact Nat.mod_eq_of_lt (by omega)
  have h2 : (BitVec.ofInt 64 (n : Int)).toNat = n := by
    rw [BitVec.ofInt_natCast, BitVec.toNat_ofNat]; exact Nat.mod_eq_of_lt (by omega)
  show IntKind.u64.wrap (IntKind.i64.wrap ((BitVec.ofInt 64 (t : Int) ^^^ BitVec.ofInt 64 (n : Int)).toNat : Int)) = _
  rw [BitVec.toNat_xor, h1, h2, IntKind.wrap_u64, IntKind.wrap_i64]
  omega

set_option maxHeartbeats 400000 in
theorem slot_any (wb : Nat) (t n : Nat) (w : World) (hc : w.cell? ⟨wb, 0, none⟩ = some (.int .i64 n)) (hn : n < 4398046511104) (ht : t < 4398046511104) :
    Calls Tryz.prog 102 #[.pointer (some ⟨wb, 0, none⟩), .int .i64 t] w fun e w' => e = .returned (.pointer (some ⟨wb, so (lv t n) (dg t (lv t n)), none⟩)) ∧ ∃ q, w' = w.drewN q := by
  have hx := xor_key t n ht hn
  have hx2 : t ^^^ n < 4398046511104 := Nat.xor_lt_two_pow (n := 42) ht hn
  have hlv := lv_bits ht hn
  have hl6 := lv_le t n
  have hL := len_any (t ^^^ n) w (by omega)
  generalize Lib.bitLen (t ^^^ n) = L at hlv hL
  have hlvi : (L : Int) - 1 < 0 ∧ lv t n = 0 ∨ 0 ≤ (L : Int) - 1 ∧ ((L : Int) - 1) / 6 = (lv t n : Int) := by omega
  have hL2 : (L : Int) ≤ 42 := by omega
  generalize lv t n = k at *
  have hd := dg_lt t k
  have hq := fun W => digit_any t k W (by omega) ht
  unfold so
  generalize dg t k = d at *
  go_enter Tryz.func102, Tryz.ntmps102
  go_wp2_with fail
  refine hL.mono ?_
  rintro e w' ⟨rfl, rfl⟩
  clear hL
  have e : max ((L : Int) - 1) 0 / 6 = (k : Int) := by omega
  clear hlvi hlv hx
  go_wp2_with fail
  go_quiet ((go_at_call 106; exact Calls.quiet_of_same (hq _)))
  go_wp2
  go_ret
  exact ⟨by simp, nq, rfl⟩

theorem so_ne {l d l' d' : Nat} (hd : d < 64) (hd' : d' < 64) (h : ¬ (l' = l ∧ d' = d)) : so l' d' ≠ so l d := by unfold so; omega
theorem so_ge (l d : Nat) : 2 ≤ so l d := by unfold so; omega

theorem Rep.wlt {w : World} {wb mb : Nat} {V : Nat → Nat → Value} {n : Nat} {R : Nat → Nat → List Int} {T : List (Int × Int)} (h : Rep w wb mb V n R T) : wb < w.heap.size := World.block_lt_of_cell? w _ h.c0

theorem own_lt {w : World} {v : Value} {e sz n : Nat} {xs : List Value} {b : Nat} (h : w.ownsRow 0 e sz v n xs) (hb : v.ownBlock = some b) : b < w.heap.size := (h.lt b hb).2

theorem Rep.foot_lt {w : World} {wb mb : Nat} {V : Nat → Nat → Value} {n : Nat} {R : Nat → Nat → List Int} {T : List (Int × Int)} (h : Rep w wb mb V n R T) {b : Nat} (hb : Foot wb mb V b) : b < w.heap.size := by
  rcases hb with rfl | rfl | ⟨l, d, hl, hd, hb⟩
  · exact h.wlt
  · exact h.mp.lt
  · exact own_lt (h.rv l d hl hd) hb

/-- What reads blocks alone does not see other ones turn. -/
theorem Rep.of_blocks {w w' : World} {wb mb : Nat} {V : Nat → Nat → Value} {n : Nat} {R : Nat → Nat → List Int} {T : List (Int × Int)} (h : Rep w wb mb V n R T) (hb : ∀ b, Foot wb mb V b → w'.heap[b]? = w.heap[b]?) : Rep w' wb mb V n R T := by
  have hw := hb wb (.inl rfl)
  exact ⟨(World.cell?_of_block (w := w) hw).trans h.c0, (World.cell?_of_block (w := w) hw).trans h.c1, fun o => (World.frozen?_of_block (w := w) hw).trans (h.fz o), h.mp.of_block (hb mb (.inr (.inl rfl))),
    fun l d hl hd => (World.cell?_of_block (w := w) hw).trans (h.rc l d hl hd), fun l d hl hd => own_of_blocks (h.rv l d hl hd) fun b e => hb b (.inr (.inr ⟨l, d, hl, hd, e⟩)), h.ap, h.mw⟩

/-- A slot's slice is another: the rest of the wheel stays. -/
theorem Rep.turn {w w1 : World} {wb mb : Nat} {V : Nat → Nat → Value} {n : Nat} {R : Nat → Nat → List Int} {T : List (Int × Int)} (h : Rep w wb mb V n R T) {l d : Nat} (hl : l < 7) (hd : d < 64)
    {v : Value} {xs : List Int} (hg : w.grownBy w1 (V l d).ownBlock) (ho : w1.ownsRow 0 3 1 v xs.length (xs.map (Value.int .i64))) (hat : ∀ b, v.ownBlock = some b → (V l d).ownBlock = some b ∨ w.heap.size ≤ b) :
    Rep (w1.setCell ⟨wb, so l d, none⟩ v) wb mb (fun a b => if a = l ∧ b = d then v else V a b) n (rput R l d xs) T := by
  have hwne : some wb ≠ (V l d).ownBlock := fun e => (h.ap l d wb hl hd e.symm).1 rfl
  have hmne : some mb ≠ (V l d).ownBlock := fun e => (h.ap l d mb hl hd e.symm).2.1 rfl
  have hcell : ∀ o u, w.cell? ⟨wb, o, none⟩ = some u → w1.cell? ⟨wb, o, none⟩ = some u := fun o u hu => hg.cell hu hwne
  have hvw : ∀ b, v.ownBlock = some b → b ≠ wb ∧ b ≠ mb := fun b hb => by
    rcases hat b hb with e | e
    · exact ⟨(h.ap l d b hl hd e).1, (h.ap l d b hl hd e).2.1⟩
    · have h1 := h.wlt; have h2 := h.mp.lt; omega
  have hblk : ∀ k, k < w.heap.size → k ≠ wb → some k ≠ (V l d).ownBlock → (w1.setCell ⟨wb, so l d, none⟩ v).heap[k]? = w.heap[k]? := fun k hk hkw hkr => by
    rw [Below.heap_setCell _ _ _ _ (by exact hkw)]; exact hg.block k hk hkr
  have h2 := so_ge l d
  refine ⟨?_, ?_, fun o => ?_, h.mp.of_block (hblk mb h.mp.lt h.mw hmne), fun a b ha hb => ?_, fun a b ha hb => ?_, fun a b k ha hb hk => ?_, h.mw⟩
  · rw [World.cell?_setCell_other _ _ _ _ (fun e => by have := congrArg Addr.off e; simp at this; omega)]; exact hcell _ _ h.c0
  · rw [World.cell?_setCell_other _ _ _ _ (fun e => by have := congrArg Addr.off e; simp at this; omega)]; exact hcell _ _ h.c1
  · rw [World.frozen?_setCell, World.frozen?_of_block (w := w) (hg.block wb h.wlt hwne)]; exact h.fz o
  · by_cases e : a = l ∧ b = d
    · obtain ⟨rfl, rfl⟩ := e
      simp only [and_self, if_true]
      exact World.cell?_setCell_same _ _ _ (hcell _ _ (h.rc a b ha hb))
    · simp only [if_neg e]
      rw [World.cell?_setCell_other _ _ _ _ (fun e2 => by have := congrArg Addr.off e2; simp at this; exact so_ne hd hb e this.symm)]
      exact hcell _ _ (h.rc a b ha hb)
  · by_cases e : a = l ∧ b = d
    · obtain ⟨rfl, rfl⟩ := e
      simp only [and_self, if_true, rput_same]
      exact own_of_blocks ho fun k hk => Below.heap_setCell _ _ _ _ (hvw k hk).1
    · simp only [if_neg e, rput_ne _ _ e]
      refine own_of_blocks (h.rv a b ha hb) fun k hk => hblk k (own_lt (h.rv a b ha hb) hk) (h.ap a b k ha hb hk).1 fun e2 => ?_
      exact e (by have := (h.ap l d k hl hd e2.symm).2.2 a b ha hb hk; exact this)
  · by_cases e : a = l ∧ b = d
    · obtain ⟨rfl, rfl⟩ := e
      simp only [and_self, if_true] at hk
      refine ⟨(hvw k hk).1, (hvw k hk).2, fun a' b' ha' hb' hk' => ?_⟩
      by_cases e' : a' = a ∧ b' = b
      · exact e'
      · simp only [if_neg e'] at hk'
        rcases hat k hk with e2 | e2
        · exact (h.ap a b k ha hb e2).2.2 a' b' ha' hb' hk'
        · have := own_lt (h.rv a' b' ha' hb') hk'; omega
    · simp only [if_neg e] at hk
      have h3 := h.ap a b k ha hb hk
      refine ⟨h3.1, h3.2.1, fun a' b' ha' hb' hk' => ?_⟩
      by_cases e' : a' = l ∧ b' = d
      · obtain ⟨rfl, rfl⟩ := e'
        simp only [and_self, if_true] at hk'
        rcases hat k hk' with e2 | e2
        · exact h3.2.2 a' b' hl hd e2
        · have := own_lt (h.rv a b ha hb) hk; omega
      · simp only [if_neg e'] at hk'
        exact h3.2.2 a' b' ha' hb' hk'

/-- The map's block is another. -/
theorem Rep.map {w : World} {wb mb : Nat} {V : Nat → Nat → Value} {n : Nat} {R : Nat → Nat → List Int} {T T' : List (Int × Int)} (h : Rep w wb mb V n R T) {o : Obj} (hm : IntMap { w with heap := w.heap.setIfInBounds mb o } mb T') :
    Rep { w with heap := w.heap.setIfInBounds mb o } wb mb V n R T' := by
  have hb : ∀ b, b ≠ mb → ({ w with heap := w.heap.setIfInBounds mb o } : World).heap[b]? = w.heap[b]? := fun b hne => Array.getElem?_setIfInBounds_ne (Ne.symm hne)
  have hw := hb wb (Ne.symm h.mw)
  exact ⟨(World.cell?_of_block (w := w) hw).trans h.c0, (World.cell?_of_block (w := w) hw).trans h.c1, fun o => (World.frozen?_of_block (w := w) hw).trans (h.fz o), hm,
    fun l d hl hd => (World.cell?_of_block (w := w) hw).trans (h.rc l d hl hd), fun l d hl hd => own_of_blocks (h.rv l d hl hd) fun b e => hb b (h.ap l d b hl hd e).2.1, h.ap, h.mw⟩

set_option maxHeartbeats 1000000 in
set_option maxRecDepth 100000 in
theorem lay_any (wb mb : Nat) (V : Nat → Nat → Value) (n : Nat) (R : Nat → Nat → List Int) (T : List (Int × Int)) (w : World) (h : Rep w wb mb V n R T) (i : Int) (t : Nat) (hn : n < 4398046511104) (ht : t < 4398046511104)
    (hlen : (R (lv t n) (dg t (lv t n))).length ≤ 1000000) :
    Calls Tryz.prog 105 #[.pointer (some ⟨wb, 0, none⟩), .int .i64 i, .int .i64 t] w fun e w' => e = .returned (.tuple #[]) ∧ Only (Foot wb mb V) w w' ∧
      ∃ V', Rep w' wb mb V' n (rput R (lv t n) (dg t (lv t n)) (R (lv t n) (dg t (lv t n)) ++ [i])) (aset T i t) ∧ ∀ b, Foot wb mb V' b → Fr (Foot wb mb V) w w' b := by
  obtain ⟨i0, hi, hz0, hz1, hz2⟩ := info_parts info3
  have hl6 := lv_le t n
  have hd := dg_lt t (lv t n)
  have hs := slot_any wb t n w h.c0 hn ht
  have hrc := h.rc (lv t n) (dg t (lv t n)) (by omega) hd
  have hown := h.rv (lv t n) (dg t (lv t n)) (by omega) hd
  generalize lv t n = l at *
  generalize dg t l = d at *
  generalize hv : V l d = v at *
  go_enter Tryz.func105, Tryz.ntmps105
  go_wp2_with fail
  refine hs.mono ?_
  rintro e w' ⟨rfl, q, rfl⟩
  clear hs
  have hown1 : (w.drewN q).ownsRow 0 3 1 v _ _ := hown
  go_wp2_with (at_builtin; refine wpList_append_own_at _ rfl (.tmp 13) (.tmp 15) 23 rfl 0 3 i0 (.int .i64 0) 1 8 Tryz.underlying23 hi hz0 hz1 hz2 rfl (by decide) v _ _ rfl (hown1.alloc _) ⟨w.heap.size, 0, none⟩ 1 1 [.int .i64 i] rfl rfl ?c1 ?c2 ?c3 ?c4 ?c5 ?_)
  case c1 => exact cell_one_new _ _ _
  case c2 => intro u hu; simp at hu; subst hu; rfl
  case c3 => unfold maxLen; omega
  case c4 => omega
  case c5 => omega
  intro v1 w1 ho1 hg1 _ hat1
  obtain ⟨g, cap', rfl⟩ : ∃ g cap', v1 = .slice (some ⟨g, 0, none⟩) ((R l d).length + 1) cap' := by
    rcases ho1.2 with ⟨_, h⟩ | ⟨g, cap', _, h, _⟩
    · omega
    · exact ⟨g, cap', h⟩
  have hgw : w.grownBy w1 v.ownBlock := ⟨hg1.os, hg1.tape, hg1.output, by have := hg1.size; simp at this; omega, fun k hk hne => (hg1.block k (by simp; omega) hne).trans (by
    show ((w.drewN q).heap.push _)[k]? = _
    rw [Array.getElem?_push, if_neg (by have : (w.drewN q).heap.size = w.heap.size := rfl
                                        omega)]; rfl)⟩
  have hs1 : w.heap.size + 1 ≤ w1.heap.size := by have := hg1.size; simpa using this
  have hat2 : ∀ b, (Value.slice (some ⟨g, 0, none⟩) ((R l d).length + 1) cap').ownBlock = some b → (V l d).ownBlock = some b ∨ w.heap.size ≤ b := fun b hb => by
    rw [hv]
    rcases hat1 with e | e
    · rw [e] at hb; exact .inl hb
    · rw [e] at hb; have := Option.some.inj hb; right; have e2 : w.heap.size + 1 = b := this; omega
  have hR := h.turn (l := l) (d := d) (by omega) hd (xs := R l d ++ [i]) (by rw [hv]; exact hgw) (by simpa using ho1) hat2
  have hne : some wb ≠ v.ownBlock := fun e => by rw [← hv] at e; exact (h.ap l d wb (by omega) hd e.symm).1 rfl
  have hc : w1.cell? ⟨wb, so l d, none⟩ = some v := hgw.cell hrc hne
  have hf : w1.frozen? ⟨wb, so l d, none⟩ = false := by
    rw [World.frozen?_of_block (w := w) (hgw.block wb (World.block_lt_of_cell? w _ hrc) hne)]; exact h.fz _
  have hc1 := hR.c1
  obtain ⟨o, hrun, hmap⟩ := run_mapUpdate (P := Tryz.prog) Tryz.underlying91 Tryz.underlying3 hR.mp i t
  have HR := hid hR
  have HG := hid hgw
  have HA := hid hat2
  have HV := hid hv
  have HM := hid hmap
  have h' := h
  clear ho1 hg1 hat1 hown1 hown hR hgw hat2 hne hv h hrc hs1 hmap
  go_wp2_with fail
  go_end0
  have hr := HR.out.map HM.out
  have hw := HG.out
  have hv := HV.out
  have hlt := h'.wlt
  refine ⟨rfl, ?_, _, hr, fun b hb => ?_⟩
  · refine Only.setObj (Only.setCell ((Only.refl _ w).grown hw fun k e => .inl (.inr (.inr ⟨l, d, by omega, hd, by rw [hv]; exact e⟩))) (.inl (.inl rfl)) _) (.inl (.inr (.inl rfl))) _
  · have hlt2 := hr.foot_lt hb
    by_cases e : w.heap.size ≤ b
    · exact .inr ⟨e, hlt2⟩
    · left
      rcases hb with rfl | rfl | ⟨a, c, ha, hcc, hb⟩
      · exact .inl rfl
      · exact .inr (.inl rfl)
      · by_cases e2 : a = l ∧ c = d
        · obtain ⟨rfl, rfl⟩ := e2
          simp only [and_self, if_true] at hb
          rcases HA.out b hb with e3 | e3
          · exact .inr (.inr ⟨a, c, ha, hcc, e3⟩)
          · omega
        · simp only [if_neg e2] at hb
          exact .inr (.inr ⟨a, c, ha, hcc, hb⟩)

/-- A wheel in memory, its blocks among those of F. -/
def At (w : World) (wb n : Nat) (R : Nat → Nat → List Int) (T : List (Int × Int)) (F : Nat → Prop) : Prop :=
  ∃ mb V, Rep w wb mb V n R T ∧ ∀ b, Foot wb mb V b → F b

theorem At.kept {w w' : World} {wb n : Nat} {R : Nat → Nat → List Int} {T : List (Int × Int)} {F G : Nat → Prop} (h : At w wb n R T F) (ho : Only G w w') (hd : ∀ b, F b → ¬ G b) : At w' wb n R T F := by
  obtain ⟨mb, V, hr, hf⟩ := h
  exact ⟨mb, V, hr.of_blocks fun b hb => ho.block b (hr.foot_lt hb) (hd b (hf b hb)), hf⟩

theorem At.mono {w : World} {wb n : Nat} {R : Nat → Nat → List Int} {T : List (Int × Int)} {F G : Nat → Prop} (h : At w wb n R T F) (hFG : ∀ b, b < w.heap.size → F b → G b) : At w wb n R T G := by
  obtain ⟨mb, V, hr, hf⟩ := h
  exact ⟨mb, V, hr, fun b hb => hFG b (hr.foot_lt hb) (hf b hb)⟩

theorem At.lay {wb n : Nat} {R : Nat → Nat → List Int} {T : List (Int × Int)} {F : Nat → Prop} {w : World} (h : At w wb n R T F) (i : Int) (t : Nat) (hn : n < 4398046511104) (ht : t < 4398046511104)
    (hlen : (R (lv t n) (dg t (lv t n))).length ≤ 1000000) :
    Calls Tryz.prog 105 #[.pointer (some ⟨wb, 0, none⟩), .int .i64 i, .int .i64 t] w fun e w' => e = .returned (.tuple #[]) ∧ Only F w w' ∧
      At w' wb n (rput R (lv t n) (dg t (lv t n)) (R (lv t n) (dg t (lv t n)) ++ [i])) (aset T i t) (Fr F w w') := by
  obtain ⟨mb, V, hr, hf⟩ := h
  refine (lay_any wb mb V n R T w hr i t hn ht hlen).mono fun e w' ⟨he, ho, V', hr', hf'⟩ => ⟨he, ho.mono fun b _ => hf b, mb, V', hr', fun b hb => ?_⟩
  rcases hf' b hb with h1 | h1
  · exact .inl (hf b h1)
  · exact .inr h1

set_option maxHeartbeats 400000 in
/-- A timer that is not there is not cancelled. -/
theorem cancel_none (wb n : Nat) (R : Nat → Nat → List Int) (T : List (Int × Int)) (F : Nat → Prop) (w : World) (h : At w wb n R T F) (i : Int) (hi : aget T i = none) :
    Calls Tryz.prog 104 #[.pointer (some ⟨wb, 0, none⟩), .int .i64 i] w fun e w' => e = .returned (.bool false) ∧ Below w.heap.size w w' := by
  obtain ⟨mb, V, hr, hf⟩ := h
  have hc1 := hr.c1
  have hlt := hr.wlt
  have hrun : ∀ (q : Nat), (Instr.lookup 91 (.map (some mb)) (.int .i64 i) true).run Tryz.prog (((w.alloc (.cells #[.int .i64 i] 3))).drewN q) = .ok (.tuple #[.int .i64 0, .bool false]) (((w.alloc (.cells #[.int .i64 i] 3))).drewN q) := fun q => by
    have hm : IntMap (((w.alloc (.cells #[.int .i64 i] 3))).drewN q) mb T := hr.mp.of_block (Below.heap_alloc w _ _ hr.mp.lt)
    rw [run_lookup_ok Tryz.underlying91 Tryz.underlying3 (zero3 _) hm i, hi]; rfl
  clear hr hf
  go_enter Tryz.func104, Tryz.ntmps104
  go_wp2_with fail
  go_quiet (fail)
  go_wp2
  go_ret
  exact ⟨rfl, ((Below.refl _ w).alloc (Nat.le_refl _) _).drewN _⟩

theorem At.below {w w' : World} {wb n : Nat} {R : Nat → Nat → List Int} {T : List (Int × Int)} {F : Nat → Prop} (h : At w wb n R T F) (hb : Below w.heap.size w w') : At w' wb n R T F := by
  obtain ⟨mb, V, hr, hf⟩ := h
  exact ⟨mb, V, hr.of_blocks fun b hfb => hb.block b (hr.foot_lt hfb), hf⟩

set_option maxHeartbeats 400000 in
set_option maxRecDepth 100000 in
/-- Arming a timer that is not there. -/
theorem arm_new (wb n : Nat) (R : Nat → Nat → List Int) (T : List (Int × Int)) (F : Nat → Prop) (w : World) (h : At w wb n R T F) (i : Int) (t : Nat) (hi : aget T i = none) (h0 : 0 ≤ i) (h1 : i ≤ 65535) (hnt : n ≤ t) (ht : t < 1099511627776)
    (hlen : (R (lv t n) (dg t (lv t n))).length ≤ 1000000) :
    Calls Tryz.prog 98 #[.pointer (some ⟨wb, 0, none⟩), .int .i64 i, .int .i64 t] w fun e w' => e = .returned (.int .i64 0) ∧ Only F w w' ∧
      At w' wb n (rput R (lv t n) (dg t (lv t n)) (R (lv t n) (dg t (lv t n)) ++ [i])) (aset T i t) (Fr F w w') := by
  have hc0 : w.cell? ⟨wb, 0, none⟩ = some (.int .i64 n) := by obtain ⟨mb, V, hr, hf⟩ := h; exact hr.c0
  have hC := cancel_none wb n R T F w h i hi
  have hnt' : (n : Int) ≤ t := by omega
  have ht' : (t : Int) < 1099511627776 := by omega
  have H := hid h
  have HI := hid hi
  have HL := hid hlen
  have HC := hid hC
  have d1 : decide (i < 0) = false := by simp; omega
  have d2 : decide (65535 < i) = false := by simp; omega
  have d3 : decide (t < n) = false := by simp; omega
  have d4 : decide (1099511627776 ≤ (t : Int)) = false := by simp; omega
  have HN := hid (show n < 4398046511104 ∧ t < 4398046511104 by have : n ≤ t := hnt; omega)
  clear h hi hlen hC ht hnt ht' hnt' h0 h1
  go_enter Tryz.func98, Tryz.ntmps98
  go_wp2_with fail
  refine HC.out.mono ?_
  rintro e w1 ⟨rfl, hb⟩
  clear HC
  have hL := (H.out.below hb).lay i t HN.out.1 HN.out.2 HL.out
  go_wp2_with fail
  refine hL.mono ?_
  rintro e w2 ⟨rfl, ho, hA⟩
  go_wp2
  go_ret
  have hs := hb.size
  exact ⟨rfl, (Only.of_below hb).trans ho (fun _ _ h => h), hA.mono fun b _ hf => by
    rcases hf with hf | hf
    · exact .inl hf
    · exact .inr ⟨by omega, hf.2⟩⟩

/-- A new wheel's cells. -/
def newCells (n : Int) (mb : Nat) : Array Value := #[.int .i64 n, .map (some mb)] ++ Array.replicate 448 (.slice none 0 0)

theorem build_wheel (n : Int) (mb : Nat) (w : World) : (Instr.build 95 #[(0, .int .i64 n), (1, .map (some mb))]).run Tryz.prog w = .ok (.agg (newCells n mb)) w := by kernel_rfl

set_option maxHeartbeats 400000 in
theorem new_any (n : Nat) (w : World) (hn : n ≤ 1099511627776) :
    Calls Tryz.prog 39 #[.int .i64 n] w fun e w' => ∃ wb, e = .returned (.tuple #[.pointer (some ⟨wb, 0, none⟩), .int .i64 0]) ∧ Below w.heap.size w w' ∧ w.heap.size ≤ wb ∧ At w' wb n (fun _ _ => []) [] (Fr noB w w') := by
  have hb := build_wheel n
  have hmm := @run_makeMap Tryz.prog
  have hn' : (n : Int) ≤ 1099511627776 := by omega
  go_enter Tryz.func39, Tryz.ntmps39
  go_wp2
  go_ret2
  have hz : Tryz.zeroCells95 = #[.int .i64 0, .map none] ++ Array.replicate 448 (.slice none 0 0) := by kernel_rfl
  generalize Tryz.zeroCells95 = Z at hz
  have hN : ((w.alloc (Obj.map #[] 0)).alloc (Obj.cells ((Z.setIfInBounds 0 (Value.int .i64 n)).setIfInBounds 1 (.map (some w.heap.size))) 95)).heap[w.heap.size + 1]? = some (Obj.cells ((Z.setIfInBounds 0 (Value.int .i64 n)).setIfInBounds 1 (.map (some w.heap.size))) 95) := by
    have := heap_alloc_new (w.alloc (Obj.map #[] 0)) (Obj.cells ((Z.setIfInBounds 0 (Value.int .i64 n)).setIfInBounds 1 (.map (some w.heap.size))) 95)
    simpa using this
  have hM : ((w.alloc (Obj.map #[] 0)).alloc (Obj.cells ((Z.setIfInBounds 0 (Value.int .i64 n)).setIfInBounds 1 (.map (some w.heap.size))) 95)).heap[w.heap.size]? = some (Obj.map #[] 0) := by
    rw [Below.heap_alloc _ _ _ (by simp)]; exact heap_alloc_new w _
  have hs : Z.size = 450 := by rw [hz]; simp
  have c0 : ((Z.setIfInBounds 0 (Value.int .i64 n)).setIfInBounds 1 (.map (some w.heap.size)))[0]? = some (.int .i64 n) := by
    rw [Array.getElem?_setIfInBounds_ne (by omega), Array.getElem?_setIfInBounds_self_of_lt (by omega)]
  have c1 : ((Z.setIfInBounds 0 (Value.int .i64 n)).setIfInBounds 1 (.map (some w.heap.size)))[1]? = some (.map (some w.heap.size)) := by
    rw [Array.getElem?_setIfInBounds_self_of_lt (by simp; omega)]
  have c2 : ∀ j, 2 ≤ j → j < 450 → ((Z.setIfInBounds 0 (Value.int .i64 n)).setIfInBounds 1 (.map (some w.heap.size)))[j]? = some (.slice none 0 0) := fun j h1 h2 => by
    rw [Array.getElem?_setIfInBounds_ne (by omega), Array.getElem?_setIfInBounds_ne (by omega), hz, Array.getElem?_append_right (by simp; omega), Array.getElem?_replicate, if_pos (by simp; omega)]
  refine ⟨w.heap.size + 1, rfl, ((Below.refl _ w).alloc (Nat.le_refl _) _).alloc (by simp) _, by omega, w.heap.size, fun _ _ => .slice none 0 0, ?_, fun b hb => ?_⟩
  · refine ⟨?_, ?_, fun o => ?_, ⟨#[], 0, hM, rfl⟩, fun l d hl hd => ?_, fun l d _ _ => World.ownsRow_nil _ _ _ _, fun l d b _ _ hb => by simp [Value.ownBlock] at hb, by omega⟩
    · simp only [World.cell?, hN]; exact c0
    · simp only [World.cell?, hN]; exact c1
    · simp only [World.frozen?, hN]; simp
    · simp only [World.cell?, hN]; exact c2 _ (so_ge l d) (by unfold so; omega)
  · right
    rcases hb with rfl | rfl | ⟨l, d, _, _, hb⟩
    · simp
    · simp; omega
    · simp [Value.ownBlock] at hb
end Go.Proofs.YtlmnojbghgnniaaGreatDoor.Wh
