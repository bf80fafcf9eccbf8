/- The wheel's walks: moving on. -/
import Derived.Test.YtlmnojbghgnniaaGreatDoorNext
namespace Go.Proofs.YtlmnojbghgnniaaGreatDoor.Wh
open Go.RowKit Bulk

theorem Rep.now {w : World} {wb mb : Nat} {V : Nat → Nat → Value} {n : Nat} {R : Nat → Nat → List Int} {T : List (Int × Int)} (h : Rep w wb mb V n R T) (m : Nat) : Rep (w.setCell ⟨wb, 0, none⟩ (.int .i64 m)) wb mb V m R T := by
  have hb : ∀ b, b ≠ wb → (w.setCell ⟨wb, 0, none⟩ (.int .i64 m)).heap[b]? = w.heap[b]? := fun b hne => Below.heap_setCell _ _ _ _ hne
  have hcell : ∀ o u, 0 < o → w.cell? ⟨wb, o, none⟩ = some u → (w.setCell ⟨wb, 0, none⟩ (.int .i64 m)).cell? ⟨wb, o, none⟩ = some u := fun o u ho hu => by
    rw [World.cell?_setCell_other _ _ _ _ (fun e => by have := congrArg Addr.off e; simp at this; omega)]; exact hu
  exact ⟨World.cell?_setCell_same _ _ _ h.c0, hcell _ _ (by omega) h.c1, fun o => by rw [World.frozen?_setCell]; exact h.fz o, h.mp.of_block (hb mb h.mw),
    fun l d hl hd => hcell _ _ (by have := so_ge l d; omega) (h.rc l d hl hd), fun l d hl hd => own_of_blocks (h.rv l d hl hd) fun b e => hb b (h.ap l d b hl hd e).1, h.ap, h.mw⟩

/-- What holds while the wheel is led on. -/
structure MoveSt (F : Nat → Prop) (w wr : World) (wb mb m k : Nat) (T : List (Int × Int)) (V : Nat → Nat → Value) (R : Nat → Nat → List Int) : Prop where
  rep : Rep wr wb mb V m R T
  mv : WMove m k R T
  ft : ∀ b, Foot wb mb V b → Fr F w wr b
  only : Only F w wr

/-- .. and within a slot: the timers from j on of 'ids' are to be laid down; they stand in block g. -/
structure MidSt (F : Nat → Prop) (w wr : World) (wb mb m k : Nat) (T : List (Int × Int)) (ids : List Int) (ao : Option Addr) (j : Nat) (V : Nat → Nat → Value) (R : Nat → Nat → List Int) : Prop where
  rep : Rep wr wb mb V m R T
  mid : WMid m k R T (ids.drop j)
  ft : ∀ b, Foot wb mb V b → Fr F w wr b
  only : Only F w wr
  src : 0 < ids.length → ∃ g, ao = some ⟨g, 0, none⟩ ∧ ¬ Foot wb mb V g ∧ ∀ i (hi : i < ids.length), wr.cell? ⟨g, i, none⟩ = some (.int .i64 ids[i])

theorem MidSt.drewN {F : Nat → Prop} {w wr : World} {wb mb m k : Nat} {T : List (Int × Int)} {ids : List Int} {ao : Option Addr} {j : Nat} {V : Nat → Nat → Value} {R : Nat → Nat → List Int} (h : MidSt F w wr wb mb m k T ids ao j V R) (q : Nat) : MidSt F w (wr.drewN q) wb mb m k T ids ao j V R :=
  ⟨h.rep.of_blocks fun _ _ => rfl, h.mid, h.ft, h.only.drewN q, h.src⟩

/-- The slot is emptied. -/
theorem MoveSt.take {F : Nat → Prop} {w wr : World} {wb mb m k : Nat} {T : List (Int × Int)} {V : Nat → Nat → Value} {R : Nat → Nat → List Int} (h : MoveSt F w wr wb mb m k T V R) (hk : 1 ≤ k ∧ k ≤ 6) {ao : Option Addr}
    (hA : 0 < (R k (dg m k)).length → ∃ g, ao = some ⟨g, 0, none⟩ ∧ (V k (dg m k)).ownBlock = some g ∧ ∀ i (hi : i < (R k (dg m k)).length), wr.cell? ⟨g, i, none⟩ = some (.int .i64 (R k (dg m k))[i])) :
    MidSt F w (wr.setCell ⟨wb, so k (dg m k), none⟩ (.slice none 0 0)) wb mb m k T (R k (dg m k)) ao 0 (fun a b => if a = k ∧ b = dg m k then .slice none 0 0 else V a b) (rput R k (dg m k) []) := by
  have hd := dg_lt m k
  have hr := h.rep.turn (l := k) (d := dg m k) (by omega) hd (v := .slice none 0 0) (xs := []) (World.grownBy.refl _ _) (World.ownsRow_nil _ _ _ _) (fun b hb => by simp [Value.ownBlock] at hb)
  have hft : ∀ b, Foot wb mb (fun a b => if a = k ∧ b = dg m k then .slice none 0 0 else V a b) b → Foot wb mb V b := fun b hb => by
    rcases hb with e | e | ⟨l, d, hl, hd, e⟩
    · exact .inl e
    · exact .inr (.inl e)
    · by_cases e2 : l = k ∧ d = dg m k
      · simp [if_pos e2, Value.ownBlock] at e
      · simp only [if_neg e2] at e
        exact .inr (.inr ⟨l, d, hl, hd, e⟩)
  refine ⟨hr, h.mv.take hk, fun b hb => ?_, ?_, fun hp => ?_⟩
  · rcases h.ft b (hft b hb) with e | e
    · exact .inl e
    · exact .inr ⟨e.1, by simpa [World.setCell] using e.2⟩
  · exact h.only.setCell (by rcases h.ft wb (.inl rfl) with e | e; exact .inl e; exact .inr e.1) _
  · obtain ⟨g, h1, h2, h3⟩ := hA hp
    have hap := h.rep.ap k (dg m k) g (by omega) hd h2
    refine ⟨g, h1, fun hf => ?_, fun i hi => ?_⟩
    · rcases hf with e | e | ⟨l, d, hl, hd', e⟩
      · exact hap.1 e
      · exact hap.2.1 e
      · by_cases e2 : l = k ∧ d = dg m k
        · simp [if_pos e2, Value.ownBlock] at e
        · simp only [if_neg e2] at e
          exact e2 (hap.2.2 l d hl hd' e)
    · rw [World.cell?_of_block (w := wr) (Below.heap_setCell _ _ _ _ hap.1)]; exact h3 i hi

/-- One more is laid down. -/
theorem MidSt.next {F : Nat → Prop} {w wr w2 : World} {wb mb m k : Nat} {T : List (Int × Int)} {ids : List Int} {ao : Option Addr} {j : Nat} {V V2 : Nat → Nat → Value} {R R2 : Nat → Nat → List Int} (h : MidSt F w wr wb mb m k T ids ao j V R)
    (ho : Only (Foot wb mb V) wr w2) (hr : Rep w2 wb mb V2 m R2 T) (hf : ∀ b, Foot wb mb V2 b → Fr (Foot wb mb V) wr w2 b) (hm : WMid m k R2 T (ids.drop (j + 1))) : MidSt F w w2 wb mb m k T ids ao (j + 1) V2 R2 := by
  have hs := h.only.size
  have hs2 := ho.size
  refine ⟨hr, hm, fun b hb => ?_, h.only.trans ho fun x hx hfx => ?_, fun hp => ?_⟩
  · rcases hf b hb with e | e
    · rcases h.ft b e with e | e
      · exact .inl e
      · exact .inr ⟨e.1, by omega⟩
    · exact .inr ⟨by omega, e.2⟩
  · rcases h.ft x hfx with e | e
    · exact e
    · omega
  · obtain ⟨g, h1, h2, h3⟩ := h.src hp
    refine ⟨g, h1, fun hfg => ?_, fun i hi => ho.cell (h3 i hi) h2⟩
    rcases hf g hfg with e | e
    · exact h2 e
    · have := World.block_lt_of_cell? wr _ (h3 0 hp)
      simp at this; omega

theorem MidSt.finish {F : Nat → Prop} {w wr : World} {wb mb m k : Nat} {T : List (Int × Int)} {ids : List Int} {ao : Option Addr} {V : Nat → Nat → Value} {R : Nat → Nat → List Int} (h : MidSt F w wr wb mb m k T ids ao ids.length V R) : MoveSt F w wr wb mb m (k - 1) T V R :=
  ⟨h.rep, WMid.finish (by have := h.mid; rwa [List.drop_length] at this), h.ft, h.only⟩

set_option maxHeartbeats 2000000 in
set_option maxRecDepth 100000 in
theorem move_any (wb n m : Nat) (R : Nat → Nat → List Int) (T : List (Int × Int)) (F : Nat → Prop) (w : World) (h : At w wb n R T F) (hI : WInv n R T) (hnm : n ≤ m) (hm : m ≤ 1099511627776) (hlow : ∀ i z, aget T i = some z → (m : Int) ≤ z) (hT : T.length ≤ 1000000) :
    Calls Tryz.prog 101 #[.pointer (some ⟨wb, 0, none⟩), .int .i64 m] w fun e w' => e = .returned (.tuple #[]) ∧ Only F w w' ∧ ∃ R', At w' wb m R' T (Fr F w w') ∧ WInv m R' T := by
  obtain ⟨mb, V, hr, hf⟩ := h
  have hc0 := hr.c0
  have hf0 := hr.fz 0
  have hwl := hr.wlt
  have HS := hid (show MoveSt F w (w.setCell ⟨wb, 0, none⟩ (.int .i64 m)) wb mb m 6 T V R from
    ⟨hr.now m, hI.begin hnm hm hlow, fun b hb => .inl (hf b hb), (Only.refl F w).setCell (.inl (hf wb (.inl rfl))) _⟩)
  clear hr hf hI hlow hwl
  go_enter Tryz.func101, Tryz.ntmps101
  go_wp2_with fail
  clear hc0 hf0
  go_loopg [13] 6 (fun g v wr => ∃ j : Nat, j ≤ 6 ∧ g = 6 - j ∧ v = .int .i64 j ∧ Hid (∃ V R, MoveSt F w wr wb mb m (6 - j) T V R))
  case atStart => exact ⟨0, by omega, rfl, rfl, hid ⟨V, R, HS.out⟩⟩
  case round =>
    obtain ⟨j, hj, rfl, rfl, HS1⟩ := hrel
    clear HS
    by_cases hj6 : j < 6
    · obtain ⟨V1, R1, S⟩ := HS1.out
      clear HS1
      obtain ⟨k, hk⟩ : ∃ k : Nat, k = 6 - j := ⟨_, rfl⟩
      have hkz : (6 : Int) - (j : Int) = (k : Int) := by omega
      have hk1 : 1 ≤ k ∧ k ≤ 6 := by omega
      rw [← hk] at S
      have hd := dg_lt m k
      have hq := fun W => digit_any m k W (by omega) (by omega)
      have hjz : (j : Int) < 6 := by omega
      have hrc := S.rep.rc k (dg m k) (by omega) hd
      have hrv := S.rep.rv k (dg m k) (by omega) hd
      have hfz := S.rep.fz (so k (dg m k))
      unfold so at hrc hfz
      obtain ⟨ao, cap, hV, hA⟩ : ∃ ao cap, V1 k (dg m k) = .slice ao (R1 k (dg m k)).length cap ∧ (0 < (R1 k (dg m k)).length → ∃ g, ao = some ⟨g, 0, none⟩ ∧ (V1 k (dg m k)).ownBlock = some g ∧ ∀ i (hi : i < (R1 k (dg m k)).length), wr.cell? ⟨g, i, none⟩ = some (.int .i64 (R1 k (dg m k))[i])) := by
        rcases hrv.2 with ⟨e, e0⟩ | ⟨g, cap, cur, e, rest⟩
        · exact ⟨none, 0, by rw [e0]; exact e, fun hp => by omega⟩
        · refine ⟨_, cap, e, fun _ => ⟨g, rfl, by rw [e]; rfl, fun i hi => ?_⟩⟩
          have := hrv.cells (g := g) (by rw [e]; rfl) i (.int .i64 (R1 k (dg m k))[i]) (by simp [hi])
          rwa [Addr.add_lit, Nat.zero_add] at this
      rw [hV] at hrc
      have hM := S.take hk1 hA
      have hll : (R1 k (dg m k)).length ≤ 1000000 := Nat.le_trans (S.mv.len (by omega) hd) hT
      generalize hids : R1 k (dg m k) = ids at *
      unfold so at hM
      have HM := hid hM
      have HK := hid hk
      clear hM hA hV hrv S hids hk
      go_wp2_with fail
      go_quiet ((go_at_call 106; exact Calls.quiet_of_same (hq _)))
      go_wp2_with fail
      obtain ⟨wq, hwq⟩ : ∃ x : World, x = (wr.drewN nq).setCell ⟨wb, 2 + k * 64 + dg m k, none⟩ (.slice none 0 0) := ⟨_, rfl⟩
      rw [← hwq]
      have hM : MidSt F w wq wb mb m k T ids ao 0 (fun a b => if a = k ∧ b = dg m k then .slice none 0 0 else V1 a b) (rput R1 k (dg m k) []) := by rw [hwq]; exact HM.out.drewN nq
      have HM := hid hM
      clear hM hwq hrc hfz
      go_loopg [34] ids.length (fun g v wx => ∃ i : Nat, i ≤ ids.length ∧ g = ids.length - i ∧ v = .int .i64 i ∧ Hid (∃ V R, MidSt F w wx wb mb m k T ids ao i V R))
      case atStart => exact ⟨0, by omega, rfl, rfl, hid ⟨_, _, HM.out⟩⟩
      case round =>
        obtain ⟨i, hi, rfl, rfl, HM1⟩ := hrel
        clear HM
        by_cases hi2 : i < ids.length
        · obtain ⟨V2, R2, S⟩ := HM1.out
          clear HM1
          obtain ⟨g, rfl, hgf, hgc⟩ := S.src (by omega)
          have hdrop : ids.drop i = ids[i] :: ids.drop (i + 1) := List.drop_eq_getElem_cons hi2
          have hmid := S.mid
          rw [hdrop] at hmid
          obtain ⟨t, ht, hmt, ht2, hmid2⟩ := hmid.lay
          rw [aset_same ht] at hmid2
          have hlay := lay_any wb mb V2 m R2 T wr S.rep ids[i] t (by omega) (by omega) (Nat.le_trans (S.mid.len (by have := lv_le t m; omega) (dg_lt _ _)) hT)
          rw [aset_same ht] at hlay
          have f1 : wr.cell? ⟨g, i, none⟩ = some (.int .i64 ids[i]) := hgc i hi2
          have f2 := S.rep.c1
          have f3 : (Instr.lookup 91 (.map (some mb)) (.int .i64 ids[i]) false).run Tryz.prog wr = .ok (.int .i64 t) wr := by
            have := run_lookup Tryz.underlying91 Tryz.underlying3 (zero3 wr) S.rep.mp ids[i]
            rw [ht] at this; exact this
          have HS := hid S
          have HL := hid hlay
          have H2 := hid hmid2
          have HT := hid ht
          clear S hgc hgf hmid hmid2 hlay hdrop ht
          generalize hx : ids[i] = x at *
          have HX := hid hx
          clear hx
          go_wp2_with fail
          refine HL.out.mono ?_
          rintro e w2 ⟨rfl, ho, V3, hr3, hf3⟩
          go_wp2
          go_roundg (ids.length - (i + 1))
          case measure => omega
          case rel => exact ⟨i + 1, by omega, rfl, by go_num, hid ⟨_, _, HS.out.next ho hr3 hf3 H2.out⟩⟩
        · obtain rfl : i = ids.length := by omega
          go_wp2
          go_roundg (6 - (j + 1))
          case measure => omega
          case rel =>
            obtain ⟨V2, R2, S⟩ := HM1.out
            have hk' : k = 6 - j := HK.out
            exact ⟨j + 1, by omega, rfl, by go_num, hid ⟨_, _, by have := S.finish; rwa [show k - 1 = 6 - (j + 1) by omega] at this⟩⟩
    · obtain rfl : j = 6 := by omega
      go_wp2
      go_end0
      obtain ⟨V2, R2, S⟩ := HS1.out
      exact ⟨rfl, S.only, R2, ⟨mb, V2, S.rep, S.ft⟩, S.mv.finish⟩
end Go.Proofs.YtlmnojbghgnniaaGreatDoor.Wh
