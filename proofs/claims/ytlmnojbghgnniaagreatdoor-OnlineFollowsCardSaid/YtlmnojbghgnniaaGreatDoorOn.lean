/- The dispatcher: how it lies in memory; occupant, Until. -/
import Derived.Test.YtlmnojbghgnniaaGreatDoorHyper
import Derived.Test.YtlmnojbghgnniaaGreatDoorAdv
import Derived.Test.YtlmnojbghgnniaaGreatDoorSched
namespace Bulk
open Go Go.RowKit

def sysOf (S : List Srv) : Sys where
  n := S.length
  P i := (S[i]?.map Srv.p).getD 0
  B i := (S[i]?.map Srv.b).getD 0
  O i := (S[i]?.map Srv.o).getD 0
  Q i := (S[i]?.map Srv.q).getD 0

theorem sysOf_at {S : List Srv} {i : Nat} (hi : i < S.length) : (sysOf S).P i = S[i].p ∧ (sysOf S).B i = S[i].b ∧ (sysOf S).O i = S[i].o ∧ (sysOf S).Q i = S[i].q := by simp [sysOf, hi]

/-- The servers' places, by falling priority. -/
structure Ord (S : List Srv) (ord : List Nat) : Prop where
  len : ord.length = S.length
  mem : ∀ i, i ∈ ord ↔ i < S.length
  srt : ord.Pairwise fun a b => (sysOf S).Q b < (sysOf S).Q a

/-- A dispatcher in memory, without its wheel. -/
structure DP (S : List Srv) (H : Nat) (w : World) (db : Nat) (now : Nat) (ps : Option Addr) (cs : Nat) (po : Option Addr) (co : Nat) (ord : List Nat) (rb : Nat) (r : Nat → Int) (wv : Value) (K : Nat → Prop) : Prop where
  c0 : w.cell? ⟨db, 0, none⟩ = some (.slice ps S.length cs)
  c1 : w.cell? ⟨db, 1, none⟩ = some (.slice po S.length co)
  c2 : w.cell? ⟨db, 2, none⟩ = some (.int .i64 H)
  c3 : w.cell? ⟨db, 3, none⟩ = some (.int .i64 now)
  c4 : w.cell? ⟨db, 4, none⟩ = some (.slice (some ⟨rb, 0, none⟩) S.length S.length)
  c5 : w.cell? ⟨db, 5, none⟩ = some wv
  fz : ∀ o, w.frozen? ⟨db, o, none⟩ = false
  srv : ∀ j (hj : j < S.length), ∃ a, ps = some a ∧ S[j].At w (a.add (j * 4)) ∧ K (a.add (j * 4)).block
  od : ∀ j (hj : j < ord.length), ∃ a, po = some a ∧ w.cell? (a.add j) = some (.int .i64 ord[j]) ∧ K (a.add j).block
  rs : ∀ j, j < S.length → w.cell? ⟨rb, j, none⟩ = some (.int .i64 (r j))
  rf : ∀ o, w.frozen? ⟨rb, o, none⟩ = false
  kd : ¬ K db
  kr : ¬ K rb
  kl : ∀ b, K b → b < w.heap.size
  rl : rb < w.heap.size
  ne : db ≠ rb
  ord : Ord S ord

/-- The next release of server j from f on. -/
def nx (S : List Srv) (j f : Nat) : Nat := Go.Proofs.YtlmnojbghgnniaaGreatDoor.Ch.nextN ((sysOf S).O j).toNat ((sysOf S).P j).toNat f

/-- The timers: each server's next release from f on, while it is below the end of ticks. -/
structure Tm (S : List Srv) (T : List (Int × Int)) (f : Nat) : Prop where
  fr : ∀ i z, aget T i = some z → ∃ j : Nat, i = j ∧ j < S.length ∧ z = nx S j f ∧ nx S j f < 1099511627776
  to : ∀ j : Nat, j < S.length → nx S j f < 1099511627776 → aget T j = some (nx S j f : Int)

def relMin (S : List Srv) (f : Nat) : Nat → Nat
  | 0 => 1099511627776
  | k + 1 => min (relMin S f k) (nx S k f)

theorem relMin_top (S : List Srv) (f : Nat) : ∀ k, relMin S f k ≤ 1099511627776
  | 0 => Nat.le_refl _
  | k + 1 => Nat.le_trans (Nat.min_le_left _ _) (relMin_top S f k)

theorem relMin_le (S : List Srv) (f : Nat) : ∀ k j, j < k → relMin S f k ≤ nx S j f
  | k + 1, j, h => by
    rcases Nat.lt_succ_iff_lt_or_eq.1 h with e | e
    · exact Nat.le_trans (Nat.min_le_left _ _) (relMin_le S f k j e)
    · subst e; exact Nat.min_le_right _ _

theorem relMin_ge (S : List Srv) (f x : Nat) (hx : x ≤ 1099511627776) : ∀ k, (∀ j, j < k → x ≤ nx S j f) → x ≤ relMin S f k
  | 0, _ => hx
  | k + 1, h => Nat.le_min.2 ⟨relMin_ge S f x hx k fun j hj => h j (by omega), h k (by omega)⟩

theorem Tm.nil {S : List Srv} {f : Nat} (h : Tm S [] f) : relMin S f S.length = 1099511627776 := by
  refine Nat.le_antisymm (relMin_top S f _) (relMin_ge S f _ (Nat.le_refl _) _ fun j hj => ?_)
  rcases Nat.lt_or_ge (nx S j f) 1099511627776 with e | e
  · have := h.to j hj e; simp [aget] at this
  · exact e

theorem Tm.least {S : List Srv} {T : List (Int × Int)} {f : Nat} (h : Tm S T f) {i : Int} {t : Nat} (hi : aget T i = some (t : Int)) (hm : ∀ j z, aget T j = some z → (t : Int) ≤ z) : relMin S f S.length = t ∧ t < 1099511627776 := by
  obtain ⟨j, rfl, hj, hz, hlt⟩ := h.fr i t hi
  have htj : t = nx S j f := by omega
  refine ⟨Nat.le_antisymm ?_ (relMin_ge S f t (by omega) _ fun k hk => ?_), by omega⟩
  · rw [htj]; exact relMin_le S f _ j hj
  · rcases Nat.lt_or_ge (nx S k f) 1099511627776 with e | e
    · have := hm k _ (h.to k hk e); omega
    · omega

theorem Tm.length {S : List Srv} {T : List (Int × Int)} {f : Nat} (h : Tm S T f) (hk : AKeys T) : T.length ≤ S.length := by
  have h1 : (T.map (·.1)).length ≤ ((List.range S.length).map fun j : Nat => (j : Int)).length := nodup_len hk fun x hx => by
    have hne : aget T x ≠ none := fun e => aget_none.1 e hx
    obtain ⟨z, hz⟩ := Option.ne_none_iff_exists'.1 hne
    obtain ⟨j, rfl, hj, _⟩ := h.fr x z hz
    exact List.mem_map.2 ⟨j, List.mem_range.2 hj, rfl⟩
  simpa using h1

/-- What Until tells. -/
def untilOf (S : List Srv) (now : Nat) (r : Nat → Int) (f : Nat) : Int :=
  match (sysOf S).pick r S.length with
  | none => relMin S f S.length
  | some i => min (relMin S f S.length : Int) (now + r i)

def optI : Option Nat → Int
  | none => -1
  | some i => i
end Bulk

namespace Go.Proofs.YtlmnojbghgnniaaGreatDoor.On
open Go.RowKit Bulk

set_option maxHeartbeats 1000000 in
set_option maxRecDepth 100000 in
theorem occupant_any (S : List Srv) (H : Nat) (w : World) (db now : Nat) (ps : Option Addr) (cs : Nat) (po : Option Addr) (co : Nat) (ord : List Nat) (rb : Nat) (r : Nat → Int) (wv : Value) (K : Nat → Prop)
    (h : DP S H w db now ps cs po co ord rb r wv K) (hl : S.length ≤ 1000000) {k : Int} (ok : (sysOf S).Ok k) :
    Calls Tryz.prog 28 #[.pointer (some ⟨db, 0, none⟩)] w fun e w' => e = .returned (.int .i64 (optI ((sysOf S).pick r S.length))) ∧ w' = w := by
  have HD := hid h
  have c1 := h.c1
  have c4 := h.c4
  clear h
  go_enter Tryz.func28, Tryz.ntmps28
  go_wp2_with fail
  go_loopg [10] S.length (fun g v10 wr => ∃ i : Nat, i ≤ S.length ∧ g = S.length - i ∧ v10 = .int .i64 i ∧ Hid (∀ j (hj : j < ord.length), j < i → r ord[j] ≤ 0) ∧ wr = w)
  case atStart => exact ⟨0, by omega, rfl, rfl, hid (fun j _ h => absurd h (Nat.not_lt_zero _)), rfl⟩
  case round =>
    obtain ⟨i, hi, rfl, rfl, HZ, rfl⟩ := hrel
    by_cases hi2 : i < S.length
    · have hio : i < ord.length := by rw [HD.out.ord.len]; exact hi2
      obtain ⟨a, rfl, ha, hk⟩ := HD.out.od i hio
      have hx : ord[i] < S.length := (HD.out.ord.mem _).1 (List.getElem_mem _)
      have hr := HD.out.rs _ hx
      have d2 : decide (i < S.length) = true := by simpa using hi2
      by_cases hp : 0 < r ord[i]
      · have HP := hid (show (sysOf S).pick r S.length = some ord[i] from (sysOf S).pick_of ok (show ord[i] < (sysOf S).n from hx) hp fun j hj hq => by
          obtain ⟨m, hm, rfl⟩ := List.getElem_of_mem ((HD.out.ord.mem j).2 hj)
          rcases Nat.lt_trichotomy m i with e | e | e
          · exact HZ.out m hm e
          · subst e; omega
          · have := List.pairwise_iff_getElem.1 HD.out.ord.srt i m hio hm e; omega)
        have d1 : decide (0 < r ord[i]) = true := by simpa using hp
        generalize r ord[i] = z at *
        generalize ord[i] = x at *
        clear hk hp
        go_wp2_with fail
        go_ret
        rw [HP.out]
        exact ⟨rfl, rfl⟩
      · have d1 : decide (0 < r ord[i]) = false := by simpa using hp
        have HN := hid (show ∀ j (hj : j < ord.length), j < i + 1 → r ord[j] ≤ 0 from fun j hj hji => by
          rcases Nat.lt_succ_iff_lt_or_eq.1 hji with e | e
          · exact HZ.out j hj e
          · subst e; omega)
        generalize r ord[i] = z at *
        generalize ord[i] = x at *
        clear hk hp
        go_wp2_with fail
        go_roundg (S.length - (i + 1))
        case measure => omega
        case rel => exact ⟨i + 1, by omega, rfl, by go_num, HN, rfl⟩
    · obtain rfl : i = S.length := by omega
      clear hi hi2
      go_wp2_with fail
      go_ret
      have : (sysOf S).pick r S.length = none := Sys.pick_none.2 fun j hj => by
        obtain ⟨m, hm, rfl⟩ := List.getElem_of_mem ((HD.out.ord.mem j).2 hj)
        exact HZ.out m hm (by rw [← HD.out.ord.len]; exact hm)
      rw [this]
      exact ⟨rfl, rfl⟩

theorem mNext (v : Value) (w : World) : (Go.method 300 68 v "Next").run Tryz.prog w = .ok (100, v) w := by kernel_rfl
theorem mArm (v : Value) (w : World) : (Go.method 300 68 v "Arm").run Tryz.prog w = .ok (98, v) w := by kernel_rfl
theorem mAdvance (v : Value) (w : World) : (Go.method 300 68 v "Advance").run Tryz.prog w = .ok (97, v) w := by kernel_rfl

theorem _root_.Bulk.DP.drewN {S : List Srv} {H : Nat} {w : World} {db now : Nat} {ps : Option Addr} {cs : Nat} {po : Option Addr} {co : Nat} {ord : List Nat} {rb : Nat} {r : Nat → Int} {wv : Value} {K : Nat → Prop}
    (h : DP S H w db now ps cs po co ord rb r wv K) (q : Nat) : DP S H (w.drewN q) db now ps cs po co ord rb r wv K :=
  ⟨h.c0, h.c1, h.c2, h.c3, h.c4, h.c5, h.fz, h.srv, h.od, h.rs, h.rf, h.kd, h.kr, h.kl, h.rl, h.ne, h.ord⟩

set_option maxHeartbeats 1000000 in
set_option maxRecDepth 100000 in
theorem until_any (S : List Srv) (H : Nat) (w : World) (db now f n : Nat) (ps : Option Addr) (cs : Nat) (po : Option Addr) (co : Nat) (ord : List Nat) (rb : Nat) (r : Nat → Int) (wb : Nat) (K F : Nat → Prop) (R : Nat → Nat → List Int) (T : List (Int × Int))
    (h : DP S H w db now ps cs po co ord rb r (.iface 68 (.pointer (some ⟨wb, 0, none⟩))) K) (ha : Wh.At w wb n R T F) (hI : WInv n R T) (hn0 : now ≤ 1099511627776) (hT : Tm S T f) (hl : S.length ≤ 32) {k : Int} (ok : (sysOf S).Ok k) (hr : ∀ i, i < S.length → 0 ≤ r i ∧ r i ≤ 1048576) :
    Calls Tryz.prog 11 #[.pointer (some ⟨db, 0, none⟩)] w fun e w' => e = .returned (.int .i64 (untilOf S now r f)) ∧ ∃ q, w' = w.drewN q := by
  have hnx := Wh.next_any wb n R T F w ha hI (by have := hT.length hI.keys; omega)
  have HNx := hid hnx
  have HTm := hid hT
  have HD := hid h
  have HR := hid hr
  have c5 := h.c5
  have mN := mNext
  clear h ha hI hT hr hnx
  go_enter Tryz.func11, Tryz.ntmps11
  go_wp2_with fail
  refine HNx.out.mono ?_
  rintro e w1 ⟨⟨q, rfl⟩, hcase⟩
  clear HNx c5 mN
  have HDq := hid (HD.out.drewN q)
  have HOcc := hid (occupant_any S H _ db now ps cs po co ord rb r _ K HDq.out (by omega) ok)
  have HP := hid (show ∀ i, (sysOf S).pick r S.length = some i → i < S.length from fun i hi => (Sys.pick_some hi).1)
  have HU := hid (show untilOf S now r f = match (sysOf S).pick r S.length with | none => (relMin S f S.length : Int) | some i => min (relMin S f S.length : Int) (now + r i) from rfl)
  rcases hcase with ⟨rfl, rfl⟩ | ⟨i, t, hit, hmin, rfl⟩
  · rw [HTm.out.nil] at HU
    go_wp2_with fail
    refine HOcc.out.mono ?_
    rintro e w2 ⟨rfl, rfl⟩
    clear HOcc
    cases hpk : (sysOf S).pick r S.length with
    | none =>
      rw [hpk] at HU
      rw [show optI none = -1 from rfl]
      have HN := hid hpk
      clear hpk
      go_wp2_with fail
      go_ret
      exact ⟨by rw [HU.out]; rfl, q, rfl⟩
    | some i =>
      rw [hpk] at HU
      rw [show optI (some i) = (i : Int) from rfl]
      have hi := HP.out i hpk
      have hi' : (i : Int) < (S.length : Int) := by omega
      have hri := HD.out.rs i hi
      have c3 := HD.out.c3
      have c4 := HD.out.c4
      obtain ⟨hr0, hr1⟩ := HR.out i hi
      have e2 : IntKind.i64.wrap ((now : Int) + r i) = now + r i := IntWalk.i64_in _ (by omega)
      have d1 : decide ((0 : Int) ≤ (i : Int)) = true := by simp
      have HN := hid hpk
      generalize hE : r i = ri at *
      have HE := hid hE
      clear hpk hE
      go_wp2_with fail
      go_quiet (fail)
      go_wp2
      go_ret
      refine ⟨?_, _, World.drewN_drewN _ _ _⟩
      rw [HU.out]
      try rw [HE.out]
      rfl
  · obtain ⟨hm1, hm2⟩ := HTm.out.least hit hmin
    rw [hm1] at HU
    have em : min (1099511627776 : Int) (t : Int) = t := by omega
    clear hit hmin hm1
    go_wp2_with fail
    refine HOcc.out.mono ?_
    rintro e w2 ⟨rfl, rfl⟩
    clear HOcc
    cases hpk : (sysOf S).pick r S.length with
    | none =>
      rw [hpk] at HU
      rw [show optI none = -1 from rfl]
      have HN := hid hpk
      clear hpk
      go_wp2_with fail
      go_ret
      exact ⟨by rw [HU.out]; rfl, q, rfl⟩
    | some i =>
      rw [hpk] at HU
      rw [show optI (some i) = (i : Int) from rfl]
      have hi := HP.out i hpk
      have hi' : (i : Int) < (S.length : Int) := by omega
      have hri := HD.out.rs i hi
      have c3 := HD.out.c3
      have c4 := HD.out.c4
      obtain ⟨hr0, hr1⟩ := HR.out i hi
      have e2 : IntKind.i64.wrap ((now : Int) + r i) = now + r i := IntWalk.i64_in _ (by omega)
      have d1 : decide ((0 : Int) ≤ (i : Int)) = true := by simp
      have HN := hid hpk
      generalize hE : r i = ri at *
      have HE := hid hE
      clear hpk hE
      go_wp2_with fail
      go_quiet (fail)
      go_wp2
      go_ret
      refine ⟨?_, _, World.drewN_drewN _ _ _⟩
      rw [HU.out]
      try rw [HE.out]
      rfl
end Go.Proofs.YtlmnojbghgnniaaGreatDoor.On
