/- check.servers, hyper, face, Hyper. -/
import Derived.Test.YtlmnojbghgnniaaGreatDoorCheckA
import Derived.Test.YtlmnojbghgnniaaGreatDoorAs
namespace Bulk
open Go Go.RowKit
/-- A server: period, budget, offset, priority. -/
structure Srv where
  p : Int
  b : Int
  o : Int
  q : Int

def Srv.ok (s : Srv) : Prop := (1 ≤ s.p ∧ s.p ≤ 1048576) ∧ (1 ≤ s.b ∧ s.b ≤ s.p) ∧ (0 ≤ s.o ∧ s.o ≤ s.p - 1) ∧ (0 ≤ s.q ∧ s.q ≤ 255)

def okL (S : List Srv) : Prop := (∀ s ∈ S, s.ok) ∧ (S.map Srv.q).Nodup

open Classical in
noncomputable def servErr (S : List Srv) : Int := if 32 < S.length then 100 else if okL S then 0 else 101

/-- A server's four cells. -/
def Srv.At (w : World) (c : Addr) (s : Srv) : Prop :=
  w.cell? c = some (.int .i64 s.p) ∧ w.cell? ⟨c.block, c.off + 1, none⟩ = some (.int .i64 s.b) ∧ w.cell? ⟨c.block, c.off + 2, none⟩ = some (.int .i64 s.o) ∧ w.cell? ⟨c.block, c.off + 3, none⟩ = some (.int .i64 s.q)

theorem Srv.At.kept {F : Nat → Prop} {w w' : World} {c : Addr} {s : Srv} (h : s.At w c) (ho : Only F w w') (hn : ¬ F c.block) : s.At w' c :=
  ⟨ho.cell h.1 hn, ho.cell h.2.1 hn, ho.cell h.2.2.1 hn, ho.cell h.2.2.2 hn⟩

/-- A slice of servers, as it is read. -/
def SrvAt (w : World) (v : Value) (S : List Srv) : Prop :=
  ∃ (p : Option Addr) (cap : Nat), v = .slice p S.length cap ∧ ∀ j (hj : j < S.length), ∃ a : Addr, p = some a ∧ S[j].At w (a.add (j * 4))

theorem okL_take {S : List Srv} {i : Nat} (hi : i < S.length) (h : okL (S.take i)) (h1 : S[i].ok) (h2 : S[i].q ∉ (S.take i).map Srv.q) : okL (S.take (i + 1)) := by
  rw [List.take_succ_eq_append_getElem hi]
  refine ⟨fun s hs => ?_, ?_⟩
  · rcases List.mem_append.1 hs with h' | h'
    · exact h.1 s h'
    · rw [List.mem_singleton.1 h']; exact h1
  · rw [List.map_append, List.nodup_append]
    refine ⟨h.2, by simp, fun a ha b hb => ?_⟩
    simp only [List.map_cons, List.map_nil, List.mem_singleton] at hb
    subst hb
    exact fun e => h2 (e ▸ ha)

theorem not_okL_mem {S : List Srv} {i : Nat} (hi : i < S.length) (h : ¬ S[i].ok) : ¬ okL S := fun h' => h (h'.1 _ (List.getElem_mem _))

theorem not_okL_seen {S : List Srv} {i : Nat} (hi : i < S.length) (h : S[i].q ∈ (S.take i).map Srv.q) : ¬ okL S := fun h' => by
  have h2 := h'.2
  rw [← List.take_append_drop i S, List.map_append, List.nodup_append] at h2
  refine h2.2.2 _ h _ ?_ rfl
  rw [List.drop_eq_getElem_cons hi, List.map_cons]; exact List.mem_cons_self
end Bulk

namespace Go.Proofs.YtlmnojbghgnniaaGreatDoor.Ch
open Go.RowKit Bulk

/-- An error of the package: its number, 0: none. -/
def ErrAt (w w' : World) (k : Int) (v : Value) : Prop :=
  (k = 0 ∧ v = .nilIface) ∨ ∃ (b : Nat) (x : Int), k ≠ 0 ∧ w.heap.size ≤ b ∧ v = .iface 98 (.pointer (some ⟨b, 0, none⟩)) ∧ w'.heap[b]? = some (.cells #[.int .i64 k, .int .i64 x] 100)

/-- In the loop of servers: i are looked at. -/
structure SeenSt (w wr : World) (S : List Srv) (i : Nat) : Prop where
  only : Only noB w wr
  ok : okL (S.take i)
  seen : ∃ cs : Array Value, wr.heap[w.heap.size]? = some (.cells cs 117 (0, 0)) ∧ cs.size = 256 ∧ ∀ q : Nat, q < 256 → cs[q]? = some (.bool (decide ((q : Int) ∈ (S.take i).map Srv.q)))

theorem heap_alloc_at0 (w : World) (o : Obj) : (w.alloc o).heap[w.heap.size]? = some o := (MapKept.heap_alloc w o).1

theorem heap_alloc_at1 (w : World) (o o1 : Obj) : ((w.alloc o).alloc o1).heap[w.heap.size + 1]? = some o1 := by
  have := heap_alloc_at0 (w.alloc o) o1
  rwa [show (w.alloc o).heap.size = w.heap.size + 1 by simp] at this

theorem zero256 : Tryz.zeroCells117 = Array.replicate 256 (.bool false) := by kernel_rfl

theorem SeenSt.start (w : World) (S : List Srv) : SeenSt w (w.alloc (.cells Tryz.zeroCells117 117)) S 0 :=
  ⟨(Only.refl _ _).alloc _, ⟨by simp, by simp⟩, Tryz.zeroCells117, heap_alloc_at0 _ _, by rw [zero256]; simp only [Array.size_replicate], fun q hq => by rw [zero256, Array.getElem?_replicate, if_pos hq]; simp⟩

theorem SeenSt.next {w wr : World} {S : List Srv} {i n : Nat} (h : SeenSt w wr S i) (o : Obj) (hn : n < 256) (hq : (S.take (i + 1)).map Srv.q = (S.take i).map Srv.q ++ [(n : Int)]) (ok : okL (S.take (i + 1))) :
    SeenSt w ((wr.alloc o).setCell ⟨w.heap.size, n, none⟩ (.bool true)) S (i + 1) := by
  obtain ⟨cs, hcs, hsz, hc⟩ := h.seen
  have hlt : w.heap.size < wr.heap.size := (Array.getElem?_eq_some_iff.1 hcs).1
  refine ⟨(h.only.alloc o).setCell (.inr (Nat.le_refl _)) _, ok, cs.setIfInBounds n (.bool true), ?_, by simpa using hsz, fun q hq' => ?_⟩
  · have h1 : (wr.alloc o).heap[w.heap.size]? = some (.cells cs 117 (0, 0)) := ((MapKept.heap_alloc wr o).2 _ hlt).trans hcs
    simp only [World.setCell, Array.getElem?_modify, if_true, h1]
    rfl
  · rw [hq, Array.getElem?_setIfInBounds]
    by_cases e : n = q
    · subst e; simp [hsz, hn]
    · rw [if_neg e, hc q hq']
      have : ¬ (q : Int) = n := by omega
      simp [this]

set_option maxHeartbeats 4000000 in
set_option maxRecDepth 100000 in
theorem servers_any (S : List Srv) (v : Value) (w : World) (hv : SrvAt w v S) (hl : S.length ≤ 9223372036854775807) :
    Calls Tryz.prog 47 #[v] w fun e w' => ∃ r, e = .returned r ∧ Only noB w w' ∧ ErrAt w w' (servErr S) r := by
  obtain ⟨p, cap, rfl, hc⟩ := hv
  have HC := hid hc
  clear hc
  by_cases h32 : 32 < S.length
  · have d1 : decide ((32 : Int) < S.length) = true := by simp; omega
    have d2 : servErr S = 100 := by simp [servErr, h32]
    have HE := hid d2
    clear h32 d2
    go_enter Tryz.func47, Tryz.ntmps47
    go_wp2_with fail
    go_ret
    exact ⟨_, rfl, (Only.refl _ _).alloc _, .inr ⟨w.heap.size, 0, by rw [HE.out]; decide, Nat.le_refl _, rfl, by rw [HE.out]; exact heap_alloc_at0 _ _⟩⟩
  · have d1 : decide ((32 : Int) < S.length) = false := by simp; omega
    have H32 := hid h32
    clear h32
    go_enter Tryz.func47, Tryz.ntmps47
    go_wp2_with fail
    go_loopg [14] S.length (fun g v14 wr => ∃ i : Nat, i ≤ S.length ∧ g = S.length - i ∧ v14 = .int .i64 i ∧ Hid (SeenSt w wr S i))
    case atStart => exact ⟨0, by omega, rfl, rfl, hid (SeenSt.start w S)⟩
    case round =>
      obtain ⟨i, hi, rfl, rfl, HS⟩ := hrel
      by_cases hi2 : i < S.length
      · obtain ⟨a, rfl, hat⟩ := HC.out i hi2
        obtain ⟨hc1, hc2, hc3, hc4⟩ := hat.kept HS.out.only id
        have d2 : decide (i < S.length) = true := by simpa using hi2
        have HBad := hid (not_okL_mem hi2)
        have HSeen := hid (not_okL_seen hi2)
        have HTake := hid (okL_take hi2)
        have HMap := hid (show (S.take (i + 1)).map Srv.q = (S.take i).map Srv.q ++ [S[i].q] by rw [List.take_succ_eq_append_getElem hi2, List.map_append]; rfl)
        generalize S[i] = s at *
        obtain ⟨sp, sb, so, sq⟩ := s
        simp only at hc1 hc2 hc3 hc4
        clear hat
        by_cases t1 : 1 ≤ sp ∧ sp ≤ 1048576
        rotate_left
        · have P1 := hid (show false = decide (1 ≤ sp ∧ sp ≤ 1048576) by simp only [decide_eq_false t1])
          have HE := hid (show ¬ Srv.ok ⟨sp, sb, so, sq⟩ from fun h => t1 h.1)
          clear t1
          go_wp2_with (go_at_call 63; refine (within_any _ _ _ _ _ (by first | exact P1.out)).mono ?_; rintro e w' ⟨rfl, rfl⟩)
          go_ret
          have hE : servErr S = 101 := by rw [servErr, if_neg H32.out, if_neg (HBad.out HE.out)]
          refine ⟨_, rfl, (HS.out.only.alloc _).alloc _, .inr ⟨_, _, by rw [hE]; decide, ?_, rfl, by rw [hE]; exact heap_alloc_at1 _ _ _⟩⟩
          have := HS.out.only.size; simp; omega
        have P1 := hid (show true = decide (1 ≤ sp ∧ sp ≤ 1048576) by simp only [decide_eq_true t1])
        have T1 := hid t1
        have e1 : IntKind.i64.wrap (sp - 1) = sp - 1 := IntWalk.i64_in _ (by omega)
        clear t1
        by_cases t2 : 1 ≤ sb ∧ sb ≤ sp
        rotate_left
        · have P2 := hid (show false = decide (1 ≤ sb ∧ sb ≤ sp) by simp only [decide_eq_false t2])
          have HE := hid (show ¬ Srv.ok ⟨sp, sb, so, sq⟩ from fun h => t2 h.2.1)
          clear t2
          go_wp2_with (go_at_call 63; refine (within_any _ _ _ _ _ (by first | exact P1.out | exact P2.out)).mono ?_; rintro e w' ⟨rfl, rfl⟩)
          go_ret
          have hE : servErr S = 101 := by rw [servErr, if_neg H32.out, if_neg (HBad.out HE.out)]
          refine ⟨_, rfl, (HS.out.only.alloc _).alloc _, .inr ⟨_, _, by rw [hE]; decide, ?_, rfl, by rw [hE]; exact heap_alloc_at1 _ _ _⟩⟩
          have := HS.out.only.size; simp; omega
        have P2 := hid (show true = decide (1 ≤ sb ∧ sb ≤ sp) by simp only [decide_eq_true t2])
        have T2 := hid t2
        clear t2
        by_cases t3 : 0 ≤ so ∧ so ≤ sp - 1
        rotate_left
        · have P3 := hid (show false = decide (0 ≤ so ∧ so ≤ sp - 1) by simp only [decide_eq_false t3])
          have HE := hid (show ¬ Srv.ok ⟨sp, sb, so, sq⟩ from fun h => t3 h.2.2.1)
          clear t3
          go_wp2_with (go_at_call 63; refine (within_any _ _ _ _ _ (by first | exact P1.out | exact P2.out | exact P3.out)).mono ?_; rintro e w' ⟨rfl, rfl⟩)
          go_ret
          have hE : servErr S = 101 := by rw [servErr, if_neg H32.out, if_neg (HBad.out HE.out)]
          refine ⟨_, rfl, (HS.out.only.alloc _).alloc _, .inr ⟨_, _, by rw [hE]; decide, ?_, rfl, by rw [hE]; exact heap_alloc_at1 _ _ _⟩⟩
          have := HS.out.only.size; simp; omega
        have P3 := hid (show true = decide (0 ≤ so ∧ so ≤ sp - 1) by simp only [decide_eq_true t3])
        have T3 := hid t3
        clear t3
        by_cases t4 : 0 ≤ sq ∧ sq ≤ 255
        rotate_left
        · have P4 := hid (show false = decide (0 ≤ sq ∧ sq ≤ 255) by simp only [decide_eq_false t4])
          have HE := hid (show ¬ Srv.ok ⟨sp, sb, so, sq⟩ from fun h => t4 h.2.2.2)
          clear t4
          go_wp2_with (go_at_call 63; refine (within_any _ _ _ _ _ (by first | exact P1.out | exact P2.out | exact P3.out | exact P4.out)).mono ?_; rintro e w' ⟨rfl, rfl⟩)
          go_ret
          have hE : servErr S = 101 := by rw [servErr, if_neg H32.out, if_neg (HBad.out HE.out)]
          refine ⟨_, rfl, (HS.out.only.alloc _).alloc _, .inr ⟨_, _, by rw [hE]; decide, ?_, rfl, by rw [hE]; exact heap_alloc_at1 _ _ _⟩⟩
          have := HS.out.only.size; simp; omega
        have P4 := hid (show true = decide (0 ≤ sq ∧ sq ≤ 255) by simp only [decide_eq_true t4])
        have T4 := hid t4
        obtain ⟨n, rfl⟩ : ∃ n : Nat, sq = n := ⟨sq.toNat, by omega⟩
        have hn : n < 256 := by omega
        have HOk := hid (show Srv.ok ⟨sp, sb, so, n⟩ from ⟨T1.out, T2.out, T3.out, t4⟩)
        obtain ⟨cs, hcs, hsz, hq⟩ := HS.out.seen
        have hqn := hq n hn
        have hcell : wr.cell? ⟨w.heap.size, n, none⟩ = cs[n]? := by simp [World.cell?, hcs]
        have hlt : w.heap.size < wr.heap.size := (Array.getElem?_eq_some_iff.1 hcs).1
        have hs2 : wr.heap.size ≠ w.heap.size := by omega
        rw [hqn] at hcell
        have hcA : ∀ o, (wr.alloc o).cell? ⟨w.heap.size, n, none⟩ = some (.bool (decide ((n : Int) ∈ (S.take i).map Srv.q))) := fun o => by
          rw [World.cell?_alloc_lt _ _ _ hlt]; exact hcell
        have hfA : ∀ o, (wr.alloc o).frozen? ⟨w.heap.size, n, none⟩ = false := fun o => by
          rw [World.frozen?_alloc_old _ _ _ (Nat.ne_of_lt hlt)]; simp [World.frozen?, hcs]
        have HM := hid (show ∀ q : Nat, q < 256 → cs[q]? = some (.bool (decide ((q : Int) ∈ (S.take i).map Srv.q))) from hq)
        have HCs := hid hcs
        have HSz := hid hsz
        have HLt := hid hlt
        by_cases hb : (n : Int) ∈ (S.take i).map Srv.q
        · rw [decide_eq_true hb] at hcA
          have HB := hid hb
          clear t4 hq hqn hcs hsz hb hlt hcell
          go_wp2_with (go_at_call 63; refine (within_any _ _ _ _ _ (by first | exact P1.out | exact P2.out | exact P3.out | exact P4.out)).mono ?_; rintro e w' ⟨rfl, rfl⟩)
          go_ret
          have hE : servErr S = 101 := by rw [servErr, if_neg H32.out, if_neg (HSeen.out HB.out)]
          refine ⟨_, rfl, (HS.out.only.alloc _).alloc _, .inr ⟨_, _, by rw [hE]; decide, ?_, rfl, by rw [hE]; exact heap_alloc_at1 _ _ _⟩⟩
          have := HS.out.only.size; simp; omega
        · rw [decide_eq_false hb] at hcA
          have HB := hid hb
          clear t4 hq hqn hcs hsz hb hlt hcell
          go_wp2_with (go_at_call 63; refine (within_any _ _ _ _ _ (by first | exact P1.out | exact P2.out | exact P3.out | exact P4.out)).mono ?_; rintro e w' ⟨rfl, rfl⟩)
          go_roundg (S.length - (i + 1))
          case measure => omega
          case rel => exact ⟨i + 1, by omega, rfl, by go_num, hid (HS.out.next _ hn HMap.out (HTake.out HS.out.ok HOk.out HB.out))⟩
      · obtain rfl : i = S.length := by omega
        go_wp2_with fail
        go_ret
        have hok := HS.out.ok
        rw [List.take_length] at hok
        exact ⟨_, rfl, HS.out.only, .inl ⟨by rw [servErr, if_neg H32.out, if_pos hok], rfl⟩⟩
end Go.Proofs.YtlmnojbghgnniaaGreatDoor.Ch
