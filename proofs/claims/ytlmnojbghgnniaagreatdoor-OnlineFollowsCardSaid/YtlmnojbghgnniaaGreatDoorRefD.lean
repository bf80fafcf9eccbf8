/- The document's dispatcher: how it reads; led. -/
import Derived.Test.YtlmnojbghgnniaaGreatDoorRefC
import Derived.Test.YtlmnojbghgnniaaGreatDoorFit
namespace Bulk
open Go Go.RowKit

/-- A list of rests of the call's own. -/
structure RestSt (S : List Srv) (B : Nat) (w wr : World) (v : Value) (r : Nat → Int) : Prop where
  only : Only noB w wr
  own : wr.ownsRow B 3 1 v S.length ((rList S r).map (Value.int .i64))

theorem RestSt.set {S : List Srv} {B : Nat} {w wr : World} {v : Value} {r : Nat → Int} (h : RestSt S B w wr v r) (hB : w.heap.size ≤ B) {i g : Nat} (hg : v.ownBlock = some g) (z : Int) :
    RestSt S B w (wr.setCell ⟨g, i, none⟩ (.int .i64 z)) v (fun k => if k = i then z else r k) := by
  refine ⟨h.only.setCell (.inr (Nat.le_trans hB (h.own.lt g hg).1)) _, ?_⟩
  have h1 := own_set h.own (i := i) hg (.int .i64 z)
  have e : (List.map (Value.int .i64) (rList S r)).set i (.int .i64 z) = (rList S (fun k => if k = i then z else r k)).map (Value.int .i64) := by
    rw [← List.map_set]
    refine congrArg _ (List.ext_getElem (by simp [rList]) fun j h1 h2 => ?_)
    rw [List.getElem_set]
    simp only [rList, List.getElem_map, List.getElem_range]
    by_cases hj : i = j
    · subst hj; simp
    · rw [if_neg hj, if_neg (fun e => hj e.symm)]
  rw [e] at h1
  exact h1

theorem RestSt.congr {S : List Srv} {B : Nat} {w wr : World} {v : Value} {r r' : Nat → Int} (h : RestSt S B w wr v r) (e : ∀ k, k < S.length → r k = r' k) : RestSt S B w wr v r' := by
  refine ⟨h.only, ?_⟩
  have : rList S r = rList S r' := List.map_congr_left fun k hk => e k (List.mem_range.1 hk)
  rw [← this]; exact h.own

theorem RestSt.alloc {S : List Srv} {B : Nat} {w wr : World} {v : Value} {r : Nat → Int} (h : RestSt S B w wr v r) (o : Obj) : RestSt S B w (wr.alloc o) v r := ⟨h.only.alloc _, h.own.alloc _⟩

theorem RestSt.drewN {S : List Srv} {B : Nat} {w wr : World} {v : Value} {r : Nat → Int} (h : RestSt S B w wr v r) (q : Nat) : RestSt S B w (wr.drewN q) v r :=
  ⟨h.only.drewN q, own_of_blocks h.own fun _ _ => rfl⟩

theorem RestSt.shape {S : List Srv} {B : Nat} {w wr : World} {v : Value} {r : Nat → Int} (h : RestSt S B w wr v r) : ∃ p c, v = .slice p S.length c := by
  rcases h.own.2 with ⟨h1, h2⟩ | ⟨g, cap, cur, h1, _⟩
  · exact ⟨none, 0, by rw [h1, h2]⟩
  · exact ⟨_, _, h1⟩

theorem RestSt.iat {S : List Srv} {B : Nat} {w wr : World} {v : Value} {r : Nat → Int} (h : RestSt S B w wr v r) : Go.Proofs.YtlmnojbghgnniaaGreatDoor.Ch.IntsAt wr v (rList S r) := Go.Proofs.YtlmnojbghgnniaaGreatDoor.On.intsAt_own (rList_len S _) h.own

theorem RestSt.form {S : List Srv} {B n : Nat} {w wr : World} {p : Option Addr} {c : Nat} {r : Nat → Int} (h : RestSt S B w wr (.slice p n c) r) {i : Nat} (hi : i < S.length) :
    ∃ g, p = some ⟨g, 0, none⟩ ∧ ((∀ o, (wr.alloc o).cell? ⟨g, i, none⟩ = some (.int .i64 (r i))) ∧ ∀ o, (wr.alloc o).frozen? ⟨g, i, none⟩ = false) ∧ wr.cell? ⟨g, i, none⟩ = some (.int .i64 (r i)) ∧ wr.frozen? ⟨g, i, none⟩ = false := by
  have hc := fun {g} => h.own.cells (g := g)
  rcases h.own.2 with ⟨_, h2⟩ | ⟨g, cap, cur, h1, h2, h3, _⟩
  · omega
  · injection h1 with e1 e2 e3
    subst e1; subst e2; subst e3
    have hc' : wr.cell? ⟨g, i, none⟩ = some (.int .i64 (r i)) := by
      have := hc rfl i (.int .i64 (r i)) (by simp [rList, hi])
      rwa [Addr.add_lit, Nat.zero_add] at this
    exact ⟨g, rfl, ⟨fun o => Go.Proofs.YtlmnojbghgnniaaGreatDoor.On.cell_alloc_keep hc' o, fun o => by rw [World.frozen?_alloc_old _ _ _ (Nat.ne_of_lt (Array.getElem?_eq_some_iff.1 h3).1)]; simp [World.frozen?, h3]⟩, hc', by simp [World.frozen?, h3]⟩

/-- The occupant has lost one. -/
def decF (S : List Srv) (r : Nat → Int) (k : Nat) : Int := if (sysOf S).pick r S.length = some k then r k - 1 else r k
/-- The first so many have had their releases. -/
def mixF (S : List Srv) (r : Nat → Int) (t i k : Nat) : Int := if k < i ∧ (sysOf S).rel k ((t : Int) + 1) then (sysOf S).B k else r k

theorem mix_step_yes {S : List Srv} {r : Nat → Int} {t i : Nat} (h : (sysOf S).rel i ((t : Int) + 1)) (k : Nat) : (if k = i then (sysOf S).B i else mixF S r t i k) = mixF S r t (i + 1) k := by
  unfold mixF
  by_cases e : k = i
  · subst e; rw [if_pos rfl, if_pos ⟨by omega, h⟩]
  · rw [if_neg e]
    by_cases e2 : k < i ∧ (sysOf S).rel k ((t : Int) + 1)
    · rw [if_pos e2, if_pos ⟨by omega, e2.2⟩]
    · rw [if_neg e2, if_neg (fun h3 => e2 ⟨by omega, h3.2⟩)]

theorem mix_step_no {S : List Srv} {r : Nat → Int} {t i : Nat} (h : ¬ (sysOf S).rel i ((t : Int) + 1)) (k : Nat) : mixF S r t i k = mixF S r t (i + 1) k := by
  unfold mixF
  by_cases e2 : k < i ∧ (sysOf S).rel k ((t : Int) + 1)
  · rw [if_pos e2, if_pos ⟨by omega, e2.2⟩]
  · rw [if_neg e2, if_neg fun h3 => ?_]
    by_cases e : k = i
    · subst e; exact h h3.2
    · exact e2 ⟨by omega, h3.2⟩

theorem mix_end {S : List Srv} {t : Nat} (k : Nat) (hk : k < S.length) : mixF S (decF S ((sysOf S).st t)) t S.length k = (sysOf S).st (t + 1) k := by
  unfold mixF decF
  rw [Sys.st_succ]
  by_cases e : (sysOf S).rel k ((t : Int) + 1)
  · rw [if_pos ⟨hk, e⟩, if_pos e]
  · rw [if_neg (fun h => e h.2), if_neg e]; rfl
end Bulk

namespace Go.Proofs.YtlmnojbghgnniaaGreatDoor.Ref
open Go.RowKit Bulk Ch On

set_option maxHeartbeats 4000000 in
set_option maxRecDepth 100000 in
theorem led_any (S : List Srv) (at0 t1 : Nat) (v v1 : Value) (w : World) (hv : SrvAt w v S) (hr : IntsF w v1 (rList S ((sysOf S).st at0))) (ok : okL S) (hl : S.length ≤ 32) (ha : at0 ≤ t1) (ht : t1 < 1099511627776)
    (hbd : ∀ t i, i < S.length → 0 ≤ (sysOf S).st t i ∧ (sysOf S).st t i ≤ 1048576) :
    Calls Tryz.prog 27 #[v, v1, .int .i64 at0, .int .i64 t1] w fun e w' => ∃ v', e = .returned v' ∧ RestSt S w.heap.size w w' v' ((sysOf S).st t1) := by
  have HS0 := hid hr.src
  have HSA := hid hv
  obtain ⟨pv, cv, rfl, hsv⟩ := hv
  have HV := hid hsv
  have HR0 := hid hr
  have HA := hid (And.intro ha ht)
  have HB := hid hbd
  clear hsv hr ha ht hbd
  obtain ⟨i0, hii, hz0, hz1, hz2⟩ := info_parts Ch.info3
  go_enter Tryz.func27, Tryz.ntmps27
  go_wp2_with (at_builtin; refine wpList_append_src rfl _ _ 23 rfl w.heap.size 3 i0 _ 1 8 Tryz.underlying23 hii hz0 hz1 hz2 rfl (by decide) _ _ _ rfl (World.ownsRow_made w #[] 0 (Nat.le_refl _) (Nat.zero_le _) rfl) _ _ _ rfl (HS0.out.kept (F := noB) ((Only.refl noB w).alloc _) (fun _ _ _ _ _ => id)) (ints_one _) ?c3 ?c4 ?c5 ?_)
  case c3 => rw [rList_len]; unfold maxLen; omega
  case c4 => rw [rList_len]; omega
  case c5 => simp
  intro vx w1 ho1 hg1
  have HL := hid (show RestSt S w.heap.size w w1 vx ((sysOf S).st at0) from ⟨((Only.refl _ w).alloc _).grown hg1 fun k e => .inr (by simp [Value.ownBlock] at e; omega), by simpa [rList_len] using ho1⟩)
  obtain ⟨pX, cX, rfl⟩ := HL.out.shape
  clear ho1 hg1 HS0 HR0
  go_wp2_with fail
  go_loopg [10] (t1 - at0) (fun g v10 wr => ∃ t : Nat, at0 ≤ t ∧ t ≤ t1 ∧ g = t1 - t ∧ v10 = .int .i64 t ∧ Hid (RestSt S w.heap.size w wr (.slice pX S.length cX) ((sysOf S).st t)))
  case atStart => exact ⟨at0, by omega, HA.out.1, rfl, rfl, HL⟩
  case round =>
    obtain ⟨t, ht1, ht2, rfl, rfl, HR⟩ := hrel
    clear HL
    by_cases ht3 : t < t1
    · have d1 : decide (t < t1) = true := by simpa using ht3
      have htb : t < 1099511627776 := by have := HA.out; omega
      have HCh := hid (chosen_any S ((sysOf S).st t) _ _ wr (SrvAt.kept HSA.out HR.out.only) HR.out.iat hl)
      have HRun := hid (show t < t1 from ht3)
      clear ht3
      go_wp2_with fail
      refine HCh.out.mono ?_
      rintro e wq ⟨rfl, q, rfl⟩
      have HRq := hid (HR.out.drewN q)
      generalize wr.drewN q = wq at *
      clear HCh HR
      have HDec := hid (show decF S ((sysOf S).st t) = decF S ((sysOf S).st t) from rfl)
      rcases hp : (sysOf S).pick ((sysOf S).st t) S.length with _ | j
      case' none =>
        rw [show optI none + 1 = (0 : Int) from rfl]
        obtain ⟨wd, hwd⟩ : ∃ x : World, x = wq := ⟨_, rfl⟩
        have HD := hid (show RestSt S w.heap.size w wd (.slice pX S.length cX) (decF S ((sysOf S).st t)) from by
          rw [hwd]
          exact HRq.out.congr fun k _ => by unfold decF; rw [hp]; simp)
        rw [← hwd]
        clear hp hwd HRq HDec
        go_wp2_with fail
        obtain ⟨pY, hpY⟩ : ∃ p : Option Addr, p = pX := ⟨_, rfl⟩
        rw [← hpY]
        rw [← hpY] at HD
        have HPY := hid hpY
        clear hpY
      case' some =>
        rw [show optI (some j) + 1 = (j : Int) + 1 from rfl]
        have hj : j < S.length := (Sys.pick_some hp).1
        have hjI : (j : Int) < (S.length : Int) := by omega
        obtain ⟨g, rfl, _, hcell, hfz⟩ := HRq.out.form hj
        have d2 : decide ((0 : Int) < (j : Int) + 1) = true := decide_eq_true (by omega)
        have e2 : IntKind.i64.wrap ((j : Int) + 1 - 1) = (j : Int) := by rw [IntWalk.i64_in _ (by omega)]; omega
        obtain ⟨z0, z1⟩ := HB.out t j hj
        have e3 : IntKind.i64.wrap ((sysOf S).st t j - 1) = (sysOf S).st t j - 1 := IntWalk.i64_in _ (by omega)
        obtain ⟨wd, hwd⟩ : ∃ x : World, x = wq.setCell ⟨g, j, none⟩ (.int .i64 ((sysOf S).st t j - 1)) := ⟨_, rfl⟩
        have HD := hid (show RestSt S w.heap.size w wd (.slice (some ⟨g, 0, none⟩) S.length cX) (decF S ((sysOf S).st t)) from by
          rw [hwd]
          exact (HRq.out.set (Nat.le_refl _) (i := j) (g := g) rfl ((sysOf S).st t j - 1)).congr fun k _ => by
            unfold decF
            by_cases e : k = j
            · subst e; rw [hp]; simp
            · rw [if_neg e, if_neg (fun e2 => e (by rw [hp] at e2; exact (Option.some.inj e2).symm))])
        have HWd := hid hwd
        generalize (sysOf S).st t j = zz at *
        clear hp hwd HRq HDec z0 z1
        go_wp2_with fail
        rw [← HWd.out]
        obtain ⟨pY, hpY⟩ : ∃ p : Option Addr, p = some ⟨g, 0, none⟩ := ⟨_, rfl⟩
        rw [← hpY]
        rw [← hpY] at HD
        have HPY := hid hpY
        clear hpY
      all_goals
        go_loopg [12] S.length (fun g v12 wi => ∃ i : Nat, i ≤ S.length ∧ g = S.length - i ∧ v12 = .int .i64 i ∧ Hid (RestSt S w.heap.size w wi (.slice pY S.length cX) (mixF S (decF S ((sysOf S).st t)) t i)))
        case atStart => exact ⟨0, by omega, rfl, rfl, hid (HD.out.congr fun k _ => by unfold mixF; simp)⟩
        case round =>
          obtain ⟨i, hi, rfl, rfl, HR⟩ := hrel
          obtain ⟨t', ht'⟩ : ∃ t' : Nat, t' = t + 1 := ⟨_, rfl⟩
          have e0 : (t : Int) + 1 = (t' : Int) := by omega
          have htb' : t' < 2199023255552 := by omega
          have HTt := hid ht'
          have htlt := HRun.out
          clear ht'
          by_cases hi2 : i < S.length
          · have d3 : decide (i < S.length) = true := by simpa using hi2
            have hin : (i : Int) < (S.length : Int) := by omega
            obtain ⟨a, rfl, hat⟩ := HV.out i hi2
            obtain ⟨s1, s2, s3, s4⟩ := hat.kept HR.out.only id
            have hsrv := ok.1 S[i] (List.getElem_mem hi2)
            obtain ⟨f1, f2, f3, f4⟩ := sysOf_at hi2
            obtain ⟨⟨p1, p2⟩, _, ⟨o1, o2⟩, _⟩ := hsrv
            obtain ⟨pn, hp⟩ : ∃ pn : Nat, S[i].p = pn := ⟨_, (Int.toNat_of_nonneg (show 0 ≤ S[i].p by omega)).symm⟩
            obtain ⟨ofs, ho⟩ : ∃ ofs : Nat, S[i].o = ofs := ⟨_, (Int.toNat_of_nonneg o1).symm⟩
            rw [hp] at s1 p1 p2 o2 f1
            rw [ho] at s3 o2 f3
            generalize hBi : S[i].b = bi at *
            generalize S[i].q = qi at *
            have hrel : (sysOf S).rel i ((t : Int) + 1) ↔ ofs ≤ t' ∧ (t' - ofs) % pn = 0 := by
              unfold Sys.rel
              rw [f1, f3, e0]
              constructor
              · rintro ⟨h1, h2⟩
                refine ⟨by omega, ?_⟩
                rw [show ((t' : Int) - (ofs : Int)) = ((t' - ofs : Nat) : Int) by omega, ← Int.natCast_emod] at h2
                omega
              · rintro ⟨h1, h2⟩
                refine ⟨by omega, ?_⟩
                rw [show ((t' : Int) - (ofs : Int)) = ((t' - ofs : Nat) : Int) by omega, ← Int.natCast_emod, h2]
                rfl
            by_cases h1 : ofs ≤ t'
            · have d4 : decide (ofs ≤ t') = true := by simpa using h1
              have e5 : IntKind.i64.wrap ((t' : Int) - ofs) = ((t' - ofs : Nat) : Int) := by rw [IntWalk.i64_in _ (by omega)]; omega
              have e6 : Int.tmod ((t' - ofs : Nat) : Int) (pn : Int) = (((t' - ofs) % pn : Nat) : Int) := (Int.ofNat_tmod _ _).symm
              have e7 : ¬ (pn : Int) = 0 := by omega
              by_cases h2 : (t' - ofs) % pn = 0
              · obtain ⟨g0, hge, ⟨hfa, hfb⟩, hcl, hfr⟩ := HR.out.form hi2
                have HX := hid (hrel.2 ⟨h1, h2⟩)
                rw [h2, Int.natCast_zero] at e6
                generalize t' - ofs = df at *
                obtain ⟨mi, hmi⟩ : ∃ m : Int, m = mixF S (decF S ((sysOf S).st t)) t i i := ⟨_, rfl⟩
                rw [← hmi] at hcl hfa
                subst hge
                clear hrel h1 h2 f1 f3 f4 p1 p2 o1 o2 hp ho hBi hat hmi
                go_wp2_with fail
                have HN := hid (show RestSt S w.heap.size w ((wr.alloc (.cells #[.int .i64 pn, .int .i64 bi, .int .i64 ofs, .int .i64 qi] 44)).setCell ⟨g0, i, none⟩ (.int .i64 bi)) (.slice (some ⟨g0, 0, none⟩) S.length cX) (mixF S (decF S ((sysOf S).st t)) t (i + 1)) from
                  (((HR.out.alloc _).set (Nat.le_refl _) (i := i) (g := g0) rfl bi).congr fun k _ => by rw [← f2]; exact mix_step_yes HX.out k))
                go_roundg (S.length - (i + 1))
                case measure => omega
                case rel => exact ⟨i + 1, by omega, rfl, by go_num, HN⟩
              · have d5 : ((((t' - ofs) % pn : Nat) : Int) == 0) = false := by simp; omega
                have HX := hid (show ¬ (sysOf S).rel i ((t : Int) + 1) from fun h => h2 (hrel.1 h).2)
                generalize (t' - ofs) % pn = md at *
                generalize t' - ofs = df at *
                clear hrel h1 h2 f1 f3 f4 p1 p2 o1 o2 hp ho hBi hat
                go_wp2_with fail
                have HN := hid (show RestSt S w.heap.size w (wr.alloc (.cells #[.int .i64 pn, .int .i64 bi, .int .i64 ofs, .int .i64 qi] 44)) (.slice _ S.length cX) (mixF S (decF S ((sysOf S).st t)) t (i + 1)) from
                  (HR.out.alloc _).congr fun k _ => mix_step_no HX.out k)
                go_roundg (S.length - (i + 1))
                case measure => omega
                case rel => exact ⟨i + 1, by omega, rfl, by go_num, HN⟩
            · have d4 : decide (ofs ≤ t') = false := by simpa using h1
              have HX := hid (show ¬ (sysOf S).rel i ((t : Int) + 1) from fun h => h1 (hrel.1 h).1)
              clear hrel h1 f1 f3 f4 p1 p2 o1 o2 hp ho hBi hat
              go_wp2_with fail
              have HN := hid (show RestSt S w.heap.size w (wr.alloc (.cells #[.int .i64 pn, .int .i64 bi, .int .i64 ofs, .int .i64 qi] 44)) (.slice _ S.length cX) (mixF S (decF S ((sysOf S).st t)) t (i + 1)) from
                (HR.out.alloc _).congr fun k _ => mix_step_no HX.out k)
              go_roundg (S.length - (i + 1))
              case measure => omega
              case rel => exact ⟨i + 1, by omega, rfl, by go_num, HN⟩
          · obtain rfl : i = S.length := by omega
            have d3 : decide (S.length < S.length) = false := by simp
            have HN := hid (HR.out.congr (fun k hk => mix_end k hk))
            rw [← HTt.out] at HN
            clear hi hi2
            go_wp2_with fail
            have hpe := HPY.out
            subst hpe
            go_roundg (t1 - t')
            case measure => have := HTt.out; omega
            case rel => exact ⟨t', by have := HTt.out; omega, by have := HTt.out; omega, rfl, rfl, HN⟩
    · obtain rfl : t = t1 := by omega
      have d1 : decide (t < t) = false := by simp
      clear ht1 ht2 ht3
      go_wp2_with fail
      go_ret
      exact ⟨_, rfl, HR.out⟩
end Go.Proofs.YtlmnojbghgnniaaGreatDoor.Ref
