/- The wheel's walks: who has run out. -/
import Derived.Test.YtlmnojbghgnniaaGreatDoorMove
import Derived.Lib.SortBridge
namespace Go.Proofs.YtlmnojbghgnniaaGreatDoor.Wh
open Go.RowKit Bulk

theorem info75 : (Tryz.prog.info? 86).map (fun i => (i.zero, i.size, i.bytes)) = some (some (.agg #[.int .i64 0, .int .i64 0]), 2, 16) := by kernel_rfl

/-- slices.Sort of a row of ints of its own block. -/
theorem sort_any (g cap : Nat) (zs : List Int) (w : World) (hc : ∀ j (hj : j < zs.length), w.cell? ⟨g, j, none⟩ = some (.int .i64 zs[j])) (hf : ∀ o, w.frozen? ⟨g, o, none⟩ = false) (hpos : 0 < zs.length) (hlen : zs.length ≤ 1000000) :
    Calls Tryz.prog 103 #[.slice (some ⟨g, 0, none⟩) zs.length cap] w fun e w' => e = .returned (.tuple #[]) ∧ Only (fun b => b = g) w w' ∧
      ∀ j (hj : j < (zs.mergeSort fun x y => decide (x ≤ y)).length), w'.cell? ⟨g, j, none⟩ = some (.int .i64 ((zs.mergeSort fun x y => decide (x ≤ y))[j])) := by
  have hg : g < w.heap.size := World.block_lt_of_cell? w _ (hc 0 hpos)
  have hH : Sort.Holds (Value.int .i64) w g 0 zs.toArray := fun j hj => by
    have hj' : j < zs.length := by simpa using hj
    exact ⟨by rw [Nat.zero_add, hc j hj']; simp [hj'], hf _⟩
  refine (Any.slices_Sort_int Tryz.lays189 g 0 cap zs w hH hg (by omega)).mono ?_
  rintro e w' ⟨he, q, os, rfl⟩
  have hl : (zs.mergeSort fun x y => decide (x ≤ y)).length = zs.length := List.length_mergeSort _
  generalize zs.mergeSort (fun x y => decide (x ≤ y)) = ys at *
  have hP := Sort.holds_putRow (Value.int .i64) (Sort.ahead w q) g 0 zs.toArray ys.toArray hH (by simpa using hl)
  refine ⟨he, ⟨rfl, rfl, rfl, ?_, fun k hk hn => ?_⟩, fun j hj => ?_⟩
  · show w.heap.size ≤ ((Sort.putRow (Value.int .i64) (Sort.ahead w q) g 0 ys.toArray).heap ++ os).size
    rw [Array.size_append, Sort.size_putRow]; exact Nat.le_add_right _ _
  · rw [Sort.heap_grow_old _ _ (by rw [Sort.size_putRow]; exact hk)]
    show (w.heap.modify g _)[k]? = w.heap[k]?
    rw [Array.getElem?_modify, if_neg (fun e => hn e.symm)]
  · have := (hP j (by simpa using hj)).1
    rw [Nat.zero_add] at this
    rw [Sort.cell?_grow _ _ _ (by rw [Sort.size_putRow]; exact hg), this]
    simp [hj]

/-- The list of those who have run out, as it lies in memory. -/
def fired (m : Nat) (l : List Int) : List Value := l.flatMap fun i => [.int .i64 m, .int .i64 i]

theorem fired_snoc (m : Nat) (l : List Int) (i : Int) : fired m (l ++ [i]) = fired m l ++ [.int .i64 m, .int .i64 i] := by simp [fired]

theorem adels_snoc : ∀ (T : List (Int × Int)) (l : List Int) (i : Int), adels T (l ++ [i]) = adel (adels T l) i
  | _, [], _ => rfl
  | T, a :: l, i => by simp only [List.cons_append, adels]; exact adels_snoc (adel T a) l i

theorem adel_len : ∀ (T : List (Int × Int)) (i : Int), (adel T i).length ≤ T.length
  | [], _ => Nat.le_refl _
  | (a, b) :: T, i => by
    simp only [adel]; split
    · simp
    · have := adel_len T i; simp; omega

theorem adels_len : ∀ (l : List Int) (T : List (Int × Int)), (adels T l).length ≤ T.length
  | [], _ => Nat.le_refl _
  | i :: l, T => Nat.le_trans (adels_len l _) (adel_len T i)

/-- While those who have run out are told: i of 'ids' are told. -/
structure FireSt (F : Nat → Prop) (w wr : World) (B wb mb m g : Nat) (T : List (Int × Int)) (ids : List Int) (V : Nat → Nat → Value) (R : Nat → Nat → List Int) (i : Nat) (v : Value) : Prop where
  rep : Rep wr wb mb V m R (adels T (ids.take i))
  ft : ∀ b, Foot wb mb V b → Fr F w wr b
  fb : ∀ b, Foot wb mb V b → b < B
  only : Only F w wr
  wB : w.heap.size ≤ B
  Bw : B ≤ wr.heap.size
  own : wr.ownsRow B 86 2 v i (fired m (ids.take i))
  gB : g < B
  gf : ¬ Foot wb mb V g
  src : ∀ j (hj : j < ids.length), wr.cell? ⟨g, j, none⟩ = some (.int .i64 ids[j])

theorem FireSt.next {F : Nat → Prop} {w wr w1 w2 : World} {B wb mb m g : Nat} {T : List (Int × Int)} {ids : List Int} {V : Nat → Nat → Value} {R : Nat → Nat → List Int} {i : Nat} {v v1 : Value} {o : Obj} (h : FireSt F w wr B wb mb m g T ids V R i v) (hi : i < ids.length)
    (hg : wr.grownBy w1 v.ownBlock) (ho : w1.ownsRow B 86 2 v1 (i + 1) (fired m (ids.take i) ++ [.int .i64 m, .int .i64 ids[i]]))
    (hw2 : w2 = { w1 with heap := w1.heap.setIfInBounds mb o }) (hm : IntMap { w1 with heap := w1.heap.setIfInBounds mb o } mb (adel (adels T (ids.take i)) ids[i])) : FireSt F w w2 B wb mb m g T ids V R (i + 1) v1 := by
  subst hw2
  have hs := hg.size
  have hvB : ∀ b, v.ownBlock = some b → B ≤ b := fun b hb => (h.own.lt b hb).1
  have hv1B : ∀ b, v1.ownBlock = some b → B ≤ b := fun b hb => (ho.lt b hb).1
  have hBw := h.Bw
  have hold : ∀ b, b < B → w1.heap[b]? = wr.heap[b]? := fun b hb => hg.block b (by omega) (fun e => by have := hvB b e.symm; omega)
  have hmF := h.fb mb (.inr (.inl rfl))
  have htake : ids.take (i + 1) = ids.take i ++ [ids[i]] := List.take_succ_eq_append_getElem hi
  have hr1 : Rep w1 wb mb V m R (adels T (ids.take i)) := h.rep.of_blocks fun b hb => hold b (h.fb b hb)
  have hset : ∀ b, b ≠ mb → ({ w1 with heap := w1.heap.setIfInBounds mb o } : World).heap[b]? = w1.heap[b]? := fun b hne => Array.getElem?_setIfInBounds_ne (Ne.symm hne)
  have hsz : ({ w1 with heap := w1.heap.setIfInBounds mb o } : World).heap.size = w1.heap.size := by simp
  refine ⟨?_, fun b hb => ?_, h.fb, ?_, h.wB, by rw [hsz]; omega, ?_, h.gB, h.gf, fun j hj => ?_⟩
  · rw [htake, adels_snoc]; exact hr1.map hm
  · rcases h.ft b hb with e | e
    · exact .inl e
    · exact .inr ⟨e.1, by rw [hsz]; omega⟩
  · refine Only.setObj (h.only.grown hg fun k e => .inr (by have := hvB k e; have := h.wB; omega)) ?_ _
    rcases h.ft mb (.inr (.inl rfl)) with e | e
    · exact .inl e
    · exact .inr e.1
  · rw [htake, fired_snoc]
    exact own_of_blocks ho fun b hb => hset b (by have := hv1B b hb; omega)
  · have h1 := h.src j hj
    have hne : g ≠ mb := fun e => h.gf (.inr (.inl e))
    rw [World.cell?_of_block (w := wr) ((hset g hne).trans (hold g h.gB))]; exact h1

/-- What holds at the head of the great loop: L are told. -/
structure HeadSt (F : Nat → Prop) (w wr : World) (wb m : Nat) (T : List (Int × Int)) (v : Value) (L : List Int) : Prop where
  at_ : ∃ n R, n ≤ m ∧ At wr wb n R (adels T L) (fun b => Fr F w wr b ∧ v.ownBlock ≠ some b) ∧ WInv n R (adels T L)
  only : Only F w wr
  own : wr.ownsRow w.heap.size 86 2 v L.length (fired m L)
  mem : ∀ i ∈ L, aget T i = some (m : Int)
  srt : L.Pairwise (fun a b => a < b)

/-- What Advance leaves. -/
def AdvPost (F : Nat → Prop) (w w' : World) (wb m : Nat) (T : List (Int × Int)) (v : Value) (L : List Int) (R : Nat → Nat → List Int) : Prop :=
  Only F w w' ∧ w'.ownsRow w.heap.size 86 2 v L.length (fired m L) ∧ At w' wb m R (adels T L) (fun b => Fr F w w' b ∧ v.ownBlock ≠ some b) ∧ WInv m R (adels T L) ∧ (∀ i, i ∈ L ↔ aget T i = some (m : Int)) ∧ L.Pairwise (fun a b => a < b)

theorem HeadSt.done {F G : Nat → Prop} {w wr w2 : World} {wb m : Nat} {T : List (Int × Int)} {v : Value} {L : List Int} (h : HeadSt F w wr wb m T v L) (hK : AKeys T) (q : Nat) {R : Nat → Nat → List Int}
    (hG : ∀ b, G b → Fr F w wr b ∧ v.ownBlock ≠ some b) (ho : Only G (wr.drewN q) w2) (ha : At w2 wb m R (adels T L) (Fr G (wr.drewN q) w2)) (hI : WInv m R (adels T L)) (hno : ∀ i, aget (adels T L) i ≠ some (m : Int)) : AdvPost F w w2 wb m T v L R := by
  have hs := h.only.size
  have hs2 : wr.heap.size ≤ w2.heap.size := ho.size
  refine ⟨(h.only.drewN q).trans ho fun x hx hg => ?_, own_of_blocks h.own fun b hb => ho.block b (h.own.lt b hb).2 (fun hg => (hG b hg).2 hb), ha.mono fun b _ hb => ?_, hI, fun i => ⟨h.mem i, fun hi => ?_⟩, h.srt⟩
  · rcases (hG x hg).1 with e | e
    · exact e
    · omega
  · rcases hb with hb | hb
    · obtain ⟨h1, h2⟩ := hG b hb
      refine ⟨?_, h2⟩
      rcases h1 with e | e
      · exact .inl e
      · exact .inr ⟨e.1, by omega⟩
    · have hb1 : wr.heap.size ≤ b := hb.1
      exact ⟨.inr ⟨by omega, hb.2⟩, fun e => by have := (h.own.lt b e).2; omega⟩
  · by_cases e : i ∈ L
    · exact e
    · exact absurd (by rw [aget_dels hK, if_neg e]; exact hi) (hno i)

set_option maxHeartbeats 4000000 in
set_option maxRecDepth 100000 in
theorem adv_any (wb n m : Nat) (R : Nat → Nat → List Int) (T : List (Int × Int)) (F : Nat → Prop) (w : World) (h : At w wb n R T F) (hI : WInv n R T) (hnm : n ≤ m) (hm : m ≤ 1099511627776) (hlow : ∀ i z, aget T i = some z → (m : Int) ≤ z) (hT : T.length ≤ 1000000) :
    Calls Tryz.prog 97 #[.pointer (some ⟨wb, 0, none⟩), .int .i64 m] w fun e w' => ∃ v L R', e = .returned (.tuple #[v, .int .i64 0]) ∧ AdvPost F w w' wb m T v L R' := by
  have hc0 : w.cell? ⟨wb, 0, none⟩ = some (.int .i64 n) := by obtain ⟨mb, V, hr, hf⟩ := h; exact hr.c0
  have d1 : decide (m < n) = false := by simp; omega
  have d2 : decide (1099511627776 < (m : Int)) = false := by simp; omega
  have HK := hid hI.keys
  have HLow := hid hlow
  have H0 := hid (show HeadSt F w w wb m T (.slice none 0 0) [] from
    ⟨⟨n, R, hnm, h.mono fun b _ hb => ⟨.inl hb, by simp [Value.ownBlock]⟩, hI⟩, Only.refl _ _, World.ownsRow_nil _ _ _ _, by simp, List.Pairwise.nil⟩)
  have HM := hid (show m < 4398046511104 ∧ m ≤ 1099511627776 by omega)
  clear h hI hlow hnm hm
  go_enter Tryz.func97, Tryz.ntmps97
  go_wp2_with fail
  clear hc0 d1 d2
  go_loopg [6] 1 (fun g v wr => ∃ L : List Int, g ≤ 1 ∧ Hid (HeadSt F w wr wb m T v L) ∧ Hid (g = 0 → ∀ i, aget (adels T L) i ≠ some (m : Int)) ∧ Hid (g = 1 → L = [] ∧ v = .slice none 0 0))
  case atStart => exact ⟨[], by omega, H0, hid (fun e => absurd e (by omega)), hid fun _ => ⟨rfl, rfl⟩⟩
  case round =>
    obtain ⟨L, hg1, HS, HZ, HO⟩ := hrel
    clear H0
    obtain ⟨n1, R1, hn1, ha1, hI1⟩ := HS.out.at_
    have hT1 : (adels T L).length ≤ 1000000 := Nat.le_trans (adels_len L T) hT
    have hlow1 : ∀ i z, aget (adels T L) i = some z → (m : Int) ≤ z := fun i z hz => by
      rw [aget_dels HK.out] at hz
      split at hz
      · cases hz
      · exact HLow.out i z hz
    have hnx := next_any wb n1 R1 _ _ wr ha1 hI1 hT1
    have HA := hid ha1
    have HI := hid hI1
    have HL := hid hlow1
    have HN := hid hnx
    have HN1 := hid hn1
    clear ha1 hI1 hlow1 hnx hn1
    generalize hTT : adels T L = T1 at *
    have HTT := hid hTT
    clear hTT
    go_wp2_with fail
    refine HN.out.mono ?_
    rintro e w1 ⟨⟨q, rfl⟩, hcase⟩
    clear HN
    rcases hcase with ⟨hT0, rfl⟩ | ⟨i, t, hit, hmin, rfl⟩
    · have hmv := move_any wb n1 m R1 T1 _ (wr.drewN q) (HA.out.below ((Below.refl _ _).drewN q)) HI.out HN1.out HM.out.2 HL.out hT1
      have HMv := hid hmv
      have HT0 := hid hT0
      clear hmv hT0
      go_wp2_with fail
      refine HMv.out.mono ?_
      rintro e w2 ⟨rfl, ho, R2, ha2, hI2⟩
      go_wp2
      go_ret2
      have hTT : adels T L = T1 := HTT.out
      have hT0 : T1 = [] := HT0.out
      rw [← hTT] at ha2 hI2
      exact ⟨_, L, R2, rfl, HS.out.done HK.out q (fun b hb => hb) ho ha2 hI2 (by rw [hTT, hT0]; simp [aget])⟩
    · by_cases htm : t = m
      · have htm' := htm.symm
        subst htm'
        clear htm
        have hg : gk = 1 := by
          by_cases e : gk = 0
          · exact absurd hit (HZ.out e i)
          · omega
        obtain ⟨hL0, hv0⟩ := HO.out hg
        have HG := hid hg
        have hTeq : T1 = T := by have := HTT.out; rw [hL0] at this; exact this.symm
        subst hL0
        subst hTeq
        have hmv := move_any wb n1 m R1 T1 _ (wr.drewN q) (HA.out.below ((Below.refl _ _).drewN q)) HI.out HN1.out HM.out.2 HL.out hT1
        have HMv := hid hmv
        have HIt := hid hit
        have HV0 := hid hv0
        have d1 : decide (m < m) = false := by simp
        clear hmv hmin hg hit hv0 HTT
        go_wp2_with fail
        refine HMv.out.mono ?_
        rintro e w2 ⟨rfl, ho, R2, ⟨mb, V, hr, hf⟩, hI2⟩
        clear HMv d1
        have hsl := slot_any wb m m w2 hr.c0 HM.out.1 HM.out.1
        have hlv : lv m m = 0 := by simp [lv]
        rw [hlv] at hsl
        have hd := dg_lt m 0
        have hmem : i ∈ R2 0 (dg m 0) := (hI2.due i).2 HIt.out
        have hrc := hr.rc 0 (dg m 0) (by omega) hd
        have hrv := hr.rv 0 (dg m 0) (by omega) hd
        have hfz := hr.fz (so 0 (dg m 0))
        obtain ⟨g, cap, cur, hV, hgg⟩ : ∃ g cap cur, V 0 (dg m 0) = .slice (some ⟨g, 0, none⟩) (R2 0 (dg m 0)).length cap ∧ w2.heap[g]? = some (.cells cur 3 (0, 0)) := by
          rcases hrv.2 with ⟨_, e⟩ | ⟨g, cap, cur, e, _, e2, rest⟩
          · have := List.length_pos_of_mem hmem; omega
          · exact ⟨g, cap, cur, e, e2⟩
        rw [hV] at hrc
        have HR := hid hr
        have HF := hid hf
        have HI2 := hid hI2
        have HSl := hid hsl
        have HV := hid hV
        have HRv := hid hrv
        have HGG := hid hgg
        have HMem := hid hmem
        have HO2 := hid ho
        clear hr hf hI2 hsl hlv hV hrv hgg hmem ho
        generalize hids : R2 0 (dg m 0) = ids at *
        have HIds := hid hids
        clear hids
        go_wp2_with fail
        refine HSl.out.mono ?_
        rintro e w3 ⟨rfl, q3, rfl⟩
        clear HSl
        go_wp2_with fail
        obtain ⟨w3, hw3⟩ : ∃ x : World, x = (w2.drewN q3).setCell ⟨wb, so 0 (dg m 0), none⟩ (.slice none 0 0) := ⟨_, rfl⟩
        rw [← hw3]
        have hblk3 : ∀ b, b ≠ wb → w3.heap[b]? = w2.heap[b]? := fun b hb => by rw [hw3]; exact Below.heap_setCell _ _ _ _ hb
        have hap := HR.out.ap 0 (dg m 0) g (by omega) hd (by rw [HV.out]; rfl)
        have hr3 : Rep w3 wb mb (fun a b => if a = 0 ∧ b = dg m 0 then .slice none 0 0 else V a b) m (rput R2 0 (dg m 0) []) T1 := by
          rw [hw3]
          exact (show Rep (w2.drewN q3) wb mb V m R2 T1 from HR.out.of_blocks fun _ _ => rfl).turn (l := 0) (d := dg m 0) (by omega) hd (v := .slice none 0 0) (xs := []) (World.grownBy.refl _ _) (World.ownsRow_nil _ _ _ _) (fun b hb => by simp [Value.ownBlock] at hb)
        have hsub : ∀ b, Foot wb mb (fun a b => if a = 0 ∧ b = dg m 0 then .slice none 0 0 else V a b) b → Foot wb mb V b ∧ b ≠ g := fun b hb => by
          rcases hb with e | e | ⟨a, c, ha, hc, e⟩
          · exact ⟨.inl e, fun e2 => hap.1 (e2 ▸ e)⟩
          · exact ⟨.inr (.inl e), fun e2 => hap.2.1 (e2 ▸ e)⟩
          · by_cases e3 : a = 0 ∧ c = dg m 0
            · simp [if_pos e3, Value.ownBlock] at e
            · simp only [if_neg e3] at e
              exact ⟨.inr (.inr ⟨a, c, ha, hc, e⟩), fun e2 => e3 (hap.2.2 a c ha hc (e2 ▸ e))⟩
        generalize (fun a b => if a = 0 ∧ b = dg m 0 then Value.slice none 0 0 else V a b) = V3 at hr3 hsub
        have hcg : ∀ j (hj : j < ids.length), w3.cell? ⟨g, j, none⟩ = some (.int .i64 ids[j]) := fun j hj => by
          rw [World.cell?_of_block (w := w2) (hblk3 g hap.1)]
          have := HRv.out.cells (g := g) (by rw [HV.out]; rfl) j (.int .i64 ids[j]) (by simp [hj])
          rwa [Addr.add_lit, Nat.zero_add] at this
        have hfg : ∀ o, w3.frozen? ⟨g, o, none⟩ = false := fun o => by
          rw [World.frozen?_of_block (w := w2) (hblk3 g hap.1)]
          simp [World.frozen?, HGG.out]
        have hpos : 0 < ids.length := List.length_pos_of_mem HMem.out
        have hlen : ids.length ≤ 1000000 := by
          have := HI2.out.len (l := 0) (d := dg m 0) (by omega) hd
          rw [HIds.out] at this; omega
        have hsort := sort_any g cap ids w3 hcg hfg hpos hlen
        have hyl : (ids.mergeSort fun x y => decide (x ≤ y)).length = ids.length := List.length_mergeSort _
        have hys : ∀ x, x ∈ (ids.mergeSort fun x y => decide (x ≤ y)) ↔ x ∈ ids := fun x => List.mem_mergeSort
        have hyp : (ids.mergeSort fun x y => decide (x ≤ y)).Pairwise (fun a b => a < b) := by
          have p1 := List.pairwise_mergeSort (le := fun x y : Int => decide (x ≤ y)) (fun a b c h1 h2 => by simp at *; omega) (fun a b => by simp; omega) ids
          have p2 : (ids.mergeSort fun x y => decide (x ≤ y)).Nodup := (List.mergeSort_perm ids _).nodup_iff.2 (by rw [← HIds.out]; exact HI2.out.nd 0 _ (by omega) hd)
          exact (p1.and p2).imp fun ⟨h1, h2⟩ => by simp at h1; omega
        generalize (ids.mergeSort fun x y => decide (x ≤ y)) = ys at hsort hyl hys hyp
        have HSo := hid hsort
        have HC := hid (show Only (fun b => Fr F w wr b ∧ u6.ownBlock ≠ some b) (wr.drewN q) w3 ∧ Rep w3 wb mb V3 m (rput R2 0 (dg m 0) []) T1 ∧ (∀ b, Foot wb mb V3 b → Foot wb mb V b ∧ b ≠ g) ∧ g < w3.heap.size from
          ⟨by rw [hw3]; exact (HO2.out.drewN q3).setCell (by rcases HF.out wb (.inl rfl) with h1 | h1; exact .inl h1; exact .inr h1.1) _, hr3, hsub, World.block_lt_of_cell? w3 _ (hcg 0 hpos)⟩)
        have HY := hid (And.intro hys hyp)
        have HYl := hid hyl
        clear hw3 hblk3 hap hr3 hsub hcg hfg hsort hys hyp hrc hfz hyl
        refine HSo.out.mono ?_
        rintro e w4 ⟨rfl, ho4, hc4⟩
        clear HSo
        obtain ⟨hoc, hrc3, hsc, hgc⟩ := HC.out
        have hs1 : wr.heap.size ≤ w3.heap.size := hoc.size
        have hs2 : w3.heap.size ≤ w4.heap.size := ho4.size
        have hs0 := HS.out.only.size
        have hs3 : wr.heap.size ≤ w2.heap.size := HO2.out.size
        have hgfoot : Foot wb mb V g := .inr (.inr ⟨0, dg m 0, by omega, hd, by rw [HV.out]; rfl⟩)
        have hup : ∀ b, Foot wb mb V b → F b ∨ w.heap.size ≤ b := fun b hb => by
          rcases HF.out b hb with h1 | h1
          · exact h1.1.imp id And.left
          · right; have h2 : wr.heap.size ≤ b := h1.1; omega
        have hr4 : Rep w4 wb mb V3 m (rput R2 0 (dg m 0) []) T1 := hrc3.of_blocks fun b hb => ho4.block b (hrc3.foot_lt hb) (hsc b hb).2
        have hF4 : FireSt F w w4 w4.heap.size wb mb m g T1 ys V3 (rput R2 0 (dg m 0) []) 0 u6 := by
          refine ⟨hr4, fun b hb => ?_, fun b hb => hr4.foot_lt hb, ?_, by omega, Nat.le_refl _, ?_, by omega, fun hf => (hsc g hf).2 rfl, hc4⟩
          · rcases hup b (hsc b hb).1 with h1 | h1
            · exact .inl h1
            · exact .inr ⟨h1, hr4.foot_lt hb⟩
          · have h3 : Only F w w3 := (HS.out.only.drewN q).trans hoc fun x hx hG => by
              rcases hG.1 with h1 | h1
              · exact h1
              · omega
            refine h3.trans ho4 fun x hx e => ?_
            subst e
            rcases hup x hgfoot with h1 | h1
            · exact h1
            · omega
          · rw [HV0.out]; exact World.ownsRow_nil _ _ _ _
        have HF4 := hid hF4
        clear hoc hrc3 hsc hgc hs1 hs2 hs0 hs3 hgfoot hup hr4 hF4 ho4 hc4
        generalize hB : w4.heap.size = B at HF4
        clear hB
        obtain ⟨i0, hi, hz0, hz1, hz2⟩ := info_parts info75
        go_wp2_with fail
        go_loopg [6, 54] ids.length (fun gg v6 v54 wx => ∃ i : Nat, i ≤ ids.length ∧ gg = ids.length - i ∧ v54 = .int .i64 i ∧ Hid (FireSt F w wx B wb mb m g T1 ys V3 (rput R2 0 (dg m 0) []) i v6))
        case atStart => exact ⟨0, by omega, rfl, rfl, HF4⟩
        case round =>
          obtain ⟨i, hi1, rfl, rfl, HS2⟩ := hrel
          clear HF4
          by_cases hi2 : i < ids.length
          · have hyi : i < ys.length := by rw [HYl.out]; exact hi2
            have f1 := HS2.out.src i hyi
            have hown := HS2.out.own
            have hBw := HS2.out.Bw
            have hil : ys.length ≤ 1000000 := by rw [HYl.out]; exact hlen
            generalize hx : ys[i] = x at *
            have HX := hid hx
            have HB := hid (And.intro hil hyi)
            clear hx hil
            go_wp2_with (at_builtin; refine wpList_append_own _ rfl (.tmp 58) (.tmp 62) 82 rfl B 86 i0 (.agg #[.int .i64 0, .int .i64 0]) 2 16 Tryz.underlying82 hi hz0 hz1 hz2 rfl (by decide) _ i _ rfl (hown.alloc _) ⟨wr.heap.size, 0, none⟩ 1 1 [.int .i64 m, .int .i64 x] rfl rfl ?c1 ?c2 ?c3 ?c4 ?c5 ?_)
            case c1 =>
              intro j u hj
              match j, hj with
              | 0, hj => simp at hj; subst hj; simp [Addr.add]
              | 1, hj => simp at hj; subst hj; simp [Addr.add]
            case c2 => intro u hu; simp at hu; rcases hu with rfl | rfl <;> rfl
            case c3 => unfold maxLen; omega
            case c4 => omega
            case c5 => simp; omega
            intro v1 w1 ho1 hg1 _
            have hgw : wr.grownBy w1 u6.ownBlock := ⟨hg1.os, hg1.tape, hg1.output, by have := hg1.size; simp at this; omega, fun k hk hne => (hg1.block k (by simp; omega) hne).trans (Below.heap_alloc wr _ k hk)⟩
            have hold : ∀ b, b < B → w1.heap[b]? = wr.heap[b]? := fun b hb => hgw.block b (by omega) (fun e => by have := (hown.lt b e.symm).1; omega)
            have hwB := HS2.out.fb wb (.inl rfl)
            have hmB := HS2.out.fb mb (.inr (.inl rfl))
            have f2 : w1.cell? ⟨wb, 1, none⟩ = some (.map (some mb)) := by rw [World.cell?_of_block (w := wr) (hold wb hwB)]; exact HS2.out.rep.c1
            have hm1 : IntMap w1 mb (adels T1 (ys.take i)) := HS2.out.rep.mp.of_block (hold mb hmB)
            obtain ⟨o, hrun, hmap⟩ := run_delete (k2 := 3) (t2 := 0) Tryz.underlying91 Tryz.underlying3 hm1 x
            have HG1 := hid hgw
            have HM1 := hid hmap
            have HO1 := hid ho1
            clear ho1 hg1 hgw hold hwB hmB hm1 hmap hown
            go_wp2_with fail
            go_roundg (ids.length - (i + 1))
            case measure => omega
            case rel =>
              have hXx := HX.out
              subst hXx
              exact ⟨i + 1, by omega, rfl, by go_num, hid (HS2.out.next hyi HG1.out (by simpa using HO1.out) rfl HM1.out)⟩
          · obtain rfl : i = ids.length := by omega
            go_wp2_with fail
            go_roundg 0
            case measure => rw [HG.out]; omega
            case rel =>
              have S := HS2.out
              have htake : ys.take ids.length = ys := List.take_of_length_le (by rw [HYl.out]; omega)
              have hmemy : ∀ x, x ∈ ys ↔ x ∈ R2 0 (dg m 0) := fun x => by rw [HIds.out]; exact HY.out.1 x
              have hown := S.own
              rw [htake, ← HYl.out] at hown
              have hrep := S.rep
              rw [htake] at hrep
              have hown' : wr.ownsRow w.heap.size 86 2 u6 ys.length (fired m ys) := by
                refine ⟨hown.1, ?_⟩
                rcases hown.2 with h1 | ⟨g1, c1, cu1, h1, h2, h3⟩
                · exact .inl h1
                · exact .inr ⟨g1, c1, cu1, h1, by have := S.wB; omega, h3⟩
              refine ⟨ys, by omega, hid ⟨⟨m, rput R2 0 (dg m 0) [], Nat.le_refl _, ⟨mb, V3, hrep, fun b hb => ⟨S.ft b hb, fun e => ?_⟩⟩, HI2.out.fire hmemy⟩, S.only, hown', fun x hx => (HI2.out.due x).1 ((hmemy x).1 hx), HY.out.2⟩, hid fun _ x hx => ?_, hid fun e => absurd e (by omega)⟩
              · have h1 := S.fb b hb
                have h2 := (hown.lt b e).1
                omega
              · rw [aget_dels HK.out] at hx
                split at hx
                · cases hx
                · rename_i hnx
                  exact hnx ((hmemy x).2 ((HI2.out.due x).2 hx))
      · have hlt : m < t := by
          have := HL.out i t hit; omega
        have d1 : decide (m < t) = true := by simpa using hlt
        have hmv := move_any wb n1 m R1 T1 _ (wr.drewN q) (HA.out.below ((Below.refl _ _).drewN q)) HI.out HN1.out HM.out.2 HL.out hT1
        have HMv := hid hmv
        have HMin := hid hmin
        clear hmv hmin hit htm hlt
        go_wp2_with fail
        refine HMv.out.mono ?_
        rintro e w2 ⟨rfl, ho, R2, ha2, hI2⟩
        go_wp2
        go_ret2
        have hTT : adels T L = T1 := HTT.out
        rw [← hTT] at ha2 hI2
        exact ⟨_, L, R2, rfl, HS.out.done HK.out q (fun b hb => hb) ho ha2 hI2 (fun j hj => by
          rw [hTT] at hj
          have := HMin.out j m hj
          have d1' : m < t := by simpa using d1
          omega)⟩
end Go.Proofs.YtlmnojbghgnniaaGreatDoor.Wh
