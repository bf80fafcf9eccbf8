/- OnlineApart: the walk. -/
import Derived.Test.YtlmnojbghgnniaaDoorSteps
import Derived.Test.YtlmnojbghgnniaaDoorSpoilt
import Derived.Test.YtlmnojbghgnniaaDoorFit
namespace Bulk
open Go Go.RowKit

/-- Three dispatchers: the blocks of the second from s1 to s2, of the third from s2 to s3, of the first from w.size to s1; from s3 on whoever makes them: each owns its own set. -/
structure TriSt (S1 S2 : List Srv) (h1 h2 : Nat) (w wr : World) (da db dc na nb nc : Nat) (A B C : Nat → Prop) : Prop where
  only : Only noB w wr
  a : Dis S1 h1 wr da na A
  b : Dis S2 h2 wr db nb B
  c : Dis S1 h1 wr dc nc C
  ab : ∀ x, A x → ¬ B x
  ac : ∀ x, A x → ¬ C x
  bc : ∀ x, B x → ¬ C x
  fa : ∀ x, A x → w.heap.size ≤ x ∧ x < wr.heap.size
  fb : ∀ x, B x → w.heap.size ≤ x ∧ x < wr.heap.size
  fc : ∀ x, C x → w.heap.size ≤ x ∧ x < wr.heap.size

theorem TriSt.stepA {S1 S2 : List Srv} {h1 h2 : Nat} {w wr w' : World} {da db dc na nb nc k : Nat} {A B C : Nat → Prop} (st : TriSt S1 S2 h1 h2 w wr da db dc na nb nc A B C) (ho : Only A wr w') (hd : Dis S1 h1 w' da k (Fr A wr w')) :
    TriSt S1 S2 h1 h2 w w' da db dc k nb nc (Fr A wr w') B C := by
  have hs := ho.size
  have h0 := st.only.size
  refine ⟨st.only.trans ho fun x hx e => by have := st.fa x e; omega, hd, st.b.kept ho fun b _ e1 e2 => st.ab b e2 e1, st.c.kept ho fun b _ e1 e2 => st.ac b e2 e1, fun x e1 e2 => ?_, fun x e1 e2 => ?_, st.bc, fun x e => ?_, fun x e => by have := st.fb x e; omega, fun x e => by have := st.fc x e; omega⟩
  · rcases e1 with e1 | e1
    · exact st.ab x e1 e2
    · have := st.fb x e2; have := e1.1; omega
  · rcases e1 with e1 | e1
    · exact st.ac x e1 e2
    · have := st.fc x e2; have := e1.1; omega
  · rcases e with e | e
    · have := st.fa x e; omega
    · have := e.1; have := e.2; omega

theorem TriSt.step {S1 S2 : List Srv} {h1 h2 : Nat} {w wr w' : World} {da db dc na nb nc : Nat} {A B C E : Nat → Prop} (st : TriSt S1 S2 h1 h2 w wr da db dc na nb nc A B C) (ho : Only E wr w') (hE : ∀ x, E x → wr.heap.size ≤ x) :
    TriSt S1 S2 h1 h2 w w' da db dc na nb nc A B C := by
  have hs := ho.size
  have h0 := st.only.size
  exact ⟨st.only.trans ho fun x hx e => by have := hE x e; omega, st.a.kept ho fun b hb _ e => by have := hE b e; omega, st.b.kept ho fun b hb _ e => by have := hE b e; omega, st.c.kept ho fun b hb _ e => by have := hE b e; omega, st.ab, st.ac, st.bc,
    fun x e => by have := st.fa x e; omega, fun x e => by have := st.fb x e; omega, fun x e => by have := st.fc x e; omega⟩

theorem TriSt.swap {S : List Srv} {h1 h2 : Nat} {w wr : World} {da db dc na nb nc : Nat} {A B C : Nat → Prop} {S2 : List Srv} (st : TriSt S S2 h1 h2 w wr da db dc na nb nc A B C) : TriSt S S2 h1 h2 w wr dc db da nc nb na C B A :=
  ⟨st.only, st.c, st.b, st.a, fun x a b => st.bc x b a, fun x a b => st.ac x b a, fun x a b => st.ab x b a, st.fc, st.fb, st.fa⟩

theorem TriSt.stepB {S1 S2 : List Srv} {h1 h2 : Nat} {w wr w' : World} {da db dc na nb nc k : Nat} {A B C : Nat → Prop} (st : TriSt S1 S2 h1 h2 w wr da db dc na nb nc A B C) (ho : Only B wr w') (hd : Dis S2 h2 w' db k (Fr B wr w')) :
    TriSt S1 S2 h1 h2 w w' da db dc na k nc A (Fr B wr w') C := by
  have hs := ho.size
  have h0 := st.only.size
  refine ⟨st.only.trans ho fun x hx e => by have := st.fb x e; omega, st.a.kept ho fun b _ e1 e2 => st.ab b e1 e2, hd, st.c.kept ho fun b _ e1 e2 => st.bc b e2 e1, fun x e1 e2 => ?_, st.ac, fun x e1 e2 => ?_, fun x e => by have := st.fa x e; omega, fun x e => ?_, fun x e => by have := st.fc x e; omega⟩
  · rcases e2 with e2 | e2
    · exact st.ab x e1 e2
    · have := st.fa x e1; have := e2.1; omega
  · rcases e1 with e1 | e1
    · exact st.bc x e1 e2
    · have := st.fc x e2; have := e1.1; omega
  · rcases e with e | e
    · have := st.fb x e; omega
    · have := e.1; have := e.2; omega
end Bulk

namespace Bulk
open Go Go.RowKit

/-- What 'able' has answered: no dispatcher, or one of S at tick 0. -/
def AbleIs (S : List Srv) (w w' : World) (pa : Option Addr) (h : Nat) : Prop :=
  (pa = none ∧ (hyperOf S).2 ≠ 0) ∨ (∃ db, pa = some ⟨db, 0, none⟩ ∧ hyperOf S = (h, 0) ∧ Dis S h w' db 0 (Fr noB w w'))

/-- Where a dispatcher stands behind a call of Advance, and what it answers. -/
def advN (now : Nat) (x : Int) : Nat := if (now : Int) ≤ x ∧ x < 1099511627776 then x.toNat else now
def advE (now : Nat) (x : Int) : Int := if (now : Int) ≤ x ∧ x < 1099511627776 then 0 else 2

theorem tri_start {S1 S2 : List Srv} {h1 h2 : Nat} {w w1 w2 w3 w4 w5 wr : World} {da db dc : Nat} (o1 : Only noB w w1) (o2 : Only noB w1 w2) (o3 : Only noB w2 w3) (o4 : Only noB w3 w4) (o5 : Only noB w4 w5)
    (hr : Only (fun b => w.heap.size ≤ b ∧ b < w1.heap.size) w5 wr) (a : Dis S1 h1 w2 da 0 (Fr noB w1 w2)) (b : Dis S2 h2 w3 db 0 (Fr noB w2 w3)) (c : Dis S1 h1 w4 dc 0 (Fr noB w3 w4)) :
    TriSt S1 S2 h1 h2 w wr da db dc 0 0 0 (Fr noB w1 w2) (Fr noB w2 w3) (Fr noB w3 w4) := by
  have z1 := o1.size
  have z2 := o2.size
  have z3 := o3.size
  have z4 := o4.size
  have z5 := o5.size
  have z6 := hr.size
  have o45 := o4.trans o5 (fun _ _ h => h)
  have o35 := o3.trans o45 (fun _ _ h => h)
  refine ⟨(((o1.trans o2 (fun _ _ h => h)).trans o35 (fun _ _ h => h)).trans hr fun x hx e => by omega), (a.kept o35 fun _ _ _ e => e).kept hr fun x _ e1 e2 => ?_, (b.kept o45 fun _ _ _ e => e).kept hr fun x _ e1 e2 => ?_, (c.kept o5 fun _ _ _ e => e).kept hr fun x _ e1 e2 => ?_, fun x e1 e2 => ?_, fun x e1 e2 => ?_, fun x e1 e2 => ?_, fun x e => ?_, fun x e => ?_, fun x e => ?_⟩
  · have := (e1.resolve_left id).1; omega
  · have := (e1.resolve_left id).1; omega
  · have := (e1.resolve_left id).1; omega
  · have := (e1.resolve_left id).2; have := (e2.resolve_left id).1; omega
  · have := (e1.resolve_left id).2; have := (e2.resolve_left id).1; omega
  · have := (e1.resolve_left id).2; have := (e2.resolve_left id).1; omega
  · have := e.resolve_left id; omega
  · have := e.resolve_left id; omega
  · have := e.resolve_left id; omega

theorem advN_lt {now : Nat} (x : Int) (h : now < 1099511627776) : advN now x < 1099511627776 := by
  unfold advN; split <;> omega

/-- The block of a list of servers of the call's own. -/
def BlkAt (w : World) (g n : Nat) : Prop := ∃ cur, w.heap[g]? = some (.cells cur 39 (0, 0)) ∧ n * 4 ≤ cur.size

theorem BlkAt.set {w : World} {g n : Nat} (h : BlkAt w g n) (i : Nat) (u : Value) : BlkAt (w.setCell ⟨g, i, none⟩ u) g n := by
  obtain ⟨cur, h1, h2⟩ := h
  refine ⟨cur.setIfInBounds i u, ?_, by simpa using h2⟩
  simp only [World.setCell, Array.getElem?_modify, if_true, h1]; rfl

theorem BlkAt.cell {w : World} {g n : Nat} (h : BlkAt w g n) {i : Nat} (hi : i < n * 4) : (∃ u, w.cell? ⟨g, i, none⟩ = some u) ∧ w.frozen? ⟨g, i, none⟩ = false := by
  obtain ⟨cur, h1, h2⟩ := h
  exact ⟨⟨cur[i]'(by omega), by simp [World.cell?, h1, show i < cur.size by omega]⟩, by simp [World.frozen?, h1]⟩
end Bulk

namespace Go.Proofs.YtlmnojbghgnniaaDoor.On
open Go.RowKit Bulk Ch

theorem able_is (S : List Srv) (v : Value) (w : World) (hv : SrvAt w v S) (hl0 : S.length ≤ 9223372036854775807) (hg : Ch.Hnd w) :
    Calls Tryd.prog 8 #[v] w fun e w' => ∃ pa h, e = .returned (.tuple #[.pointer pa, .int .i64 (h : Nat), .bool true]) ∧ Only noB w w' ∧ AbleIs S w w' pa h := by
  refine (able_any S v w hv hl0 hg).mono fun e w' ⟨ho, hc⟩ => ?_
  rcases hc with ⟨h1, h2⟩ | ⟨h, db, h1, h2, h3⟩
  · exact ⟨none, 0, h2, ho, .inl ⟨rfl, h1⟩⟩
  · exact ⟨_, h, h2, ho, .inr ⟨db, rfl, h1, h3⟩⟩

theorem dis_step {S : List Srv} {H : Nat} {w : World} {db now : Nat} {G : Nat → Prop} (h : Dis S H w db now G) (x : Int) (hh : hyperOf S = (H, 0)) :
    Calls Tryd.prog 9 #[.pointer (some ⟨db, 0, none⟩), .int .i64 x] w fun e w' => e = .returned (.int .i64 (advE now x)) ∧ Only G w w' ∧ Dis S H w' db (advN now x) (Fr G w w') := by
  by_cases hg : (now : Int) ≤ x ∧ x < 1099511627776
  · obtain ⟨k, rfl⟩ : ∃ k : Nat, x = k := ⟨x.toNat, by omega⟩
    have e1 : advE now k = 0 := by unfold advE; rw [if_pos hg]
    have e2 : advN now k = k := by unfold advN; rw [if_pos hg]; omega
    rw [e1, e2]
    exact dis_adv h (by omega) (by omega) hh
  · have e1 : advE now x = 2 := by unfold advE; rw [if_neg hg]
    have e2 : advN now x = now := by unfold advN; rw [if_neg hg]
    rw [e1, e2]
    refine (dis_bad h (by omega)).mono ?_
    rintro e w' ⟨he, rfl⟩
    exact ⟨he, Only.refl _ _, h.mono fun b _ hb => .inl hb⟩

set_option maxHeartbeats 2000000 in
set_option maxRecDepth 100000 in
theorem apart_any (S1 S2 : List Srv) (v0 v1 v2 : Value) (xs : List Int) (w : World) (hv : SrvF w v0 S1) (hl0 : S1.length * 32 ≤ 140737488351232) (hv1 : SrvAt w v1 S2) (hl1 : S2.length ≤ 9223372036854775807) (hx : IntsAt w v2 xs) (hxl : xs.length ≤ 9223372036854775807) (hg : Ch.Hnd w) :
    Calls Tryd.prog 6 #[v0, v1, v2] w fun e w' => e = .returned (.bool true) ∧ Only noB w w' := by
  have HV := hid hv
  have HV1 := hid hv1
  have HG := hid hg
  obtain ⟨px, cx, rfl, hcx⟩ := hx
  obtain ⟨p0, c0, rfl, hc0⟩ := hv.sat
  have HX := hid hcx
  clear hv1 hg hcx hc0 hv
  obtain ⟨i0, hii, hz0, hz1, hz2⟩ := info_parts info39
  go_enter Tryd.func6, Tryd.ntmps6
  go_wp2_with (at_builtin; refine wpList_append_src rfl _ _ 22 rfl w.heap.size 39 i0 _ 4 32 Tryd.underlying22 hii hz0 hz1 hz2 rfl (by decide) _ _ _ rfl (World.ownsRow_made w #[] 0 (Nat.le_refl _) (Nat.zero_le _) rfl) S1.length (flatS S1) _ rfl ((HV.out.kept ((Only.refl noB w).alloc _)).src) (flatS_one S1) ?c3 ?c4 ?c5 ?_)
  case c3 => unfold maxLen; omega
  case c4 => omega
  case c5 => simp
  intro vx w1 ho1 hg1
  have HO1 := hid (show Only noB w w1 from ((Only.refl _ w).alloc _).grown hg1 fun k e => .inr (by simp [Value.ownBlock] at e; omega))
  have HW := hid (show w1.ownsRow w.heap.size 39 4 vx S1.length (flatS S1) by simpa using ho1)
  obtain ⟨pX, cX, rfl, hX⟩ : ∃ p c, vx = .slice p S1.length c ∧ Hid (∀ j, j < S1.length → ∃ g, p = some ⟨g, 0, none⟩ ∧ w.heap.size ≤ g ∧ BlkAt w1 g S1.length) := by
    rcases HW.out.2 with ⟨h1, h2⟩ | ⟨g, cap, cur, h1, h2, h3, h4, _, h5, _⟩
    · exact ⟨none, 0, by rw [h1, h2], hid fun j hj => by omega⟩
    · exact ⟨_, cap, h1, hid fun j hj => ⟨g, rfl, h2, cur, h3, by rw [h5]; exact Nat.mul_le_mul_right 4 h4⟩⟩
  have HSx := hid (SrvF.own HW.out)
  clear ho1 hg1
  go_wp2_with fail
  refine (able_is S1 _ w1 HSx.out.sat (by omega) (HG.out.kept HO1.out id)).mono ?_
  rintro e w2 ⟨pa, ha, rfl, ho2, hA⟩
  have HO2 := hid (HO1.out.trans ho2 (fun _ _ h => h))
  have HA := hid hA
  have HI2 := hid ho2
  clear ho2 hA
  go_wp2_with fail
  refine (able_is S2 _ w2 (SrvAt.kept HV1.out HO2.out) hl1 (HG.out.kept HO2.out id)).mono ?_
  rintro e w3 ⟨pb, hb, rfl, ho3, hB⟩
  have HO3 := hid (HO2.out.trans ho3 (fun _ _ h => h))
  have HB := hid hB
  have HI3 := hid ho3
  clear ho3 hB
  go_wp2_with fail
  refine (able_is S1 _ w3 (SrvF.kept HV.out HO3.out).sat (by omega) (HG.out.kept HO3.out id)).mono ?_
  rintro e w4 ⟨pc, hc, rfl, ho4, hC⟩
  have HO4 := hid (HO3.out.trans ho4 (fun _ _ h => h))
  have HC := hid hC
  have HI4 := hid ho4
  clear ho4 hC
  go_wp2_with fail
  refine (known_any w4 (HG.out.kept HO4.out id)).mono ?_
  rintro e w5 ⟨rfl, ho5⟩
  have HO5 := hid (HO4.out.trans ho5 (fun _ _ h => h))
  have HI5 := hid ho5
  have HX5 := hid (show ∀ j, j < S1.length → ∃ g, pX = some ⟨g, 0, none⟩ ∧ w.heap.size ≤ g ∧ g < w1.heap.size ∧ BlkAt w5 g S1.length from fun j hj => by
    obtain ⟨g, h1, h2, cur, h3, h4⟩ := hX.out j hj
    have hlt : g < w1.heap.size := (Array.getElem?_eq_some_iff.1 h3).1
    have ho := ((HI2.out.trans HI3.out (fun _ _ h => h)).trans HI4.out (fun _ _ h => h)).trans HI5.out (fun _ _ h => h)
    exact ⟨g, h1, h2, hlt, cur, by rw [ho.block g hlt id]; exact h3, h4⟩)
  clear ho5 hX
  go_wp2_with fail
  go_loopg [17] S1.length (fun g v17 wr => ∃ i : Nat, i ≤ S1.length ∧ g = S1.length - i ∧ v17 = .int .i64 i ∧ Hid (Only (fun b => w.heap.size ≤ b ∧ b < w1.heap.size) w5 wr ∧ ∀ j, j < S1.length → ∃ g, pX = some ⟨g, 0, none⟩ ∧ w.heap.size ≤ g ∧ g < w1.heap.size ∧ BlkAt wr g S1.length))
  case atStart => exact ⟨0, by omega, rfl, rfl, hid ⟨Only.refl _ _, HX5.out⟩⟩
  case round =>
    obtain ⟨i, hi, rfl, rfl, HR⟩ := hrel
    by_cases hi2 : i < S1.length
    · have d1 : decide (i < S1.length) = true := by simpa using hi2
      have hin : (i : Int) < (S1.length : Int) := by omega
      obtain ⟨g, rfl, hg1, hg2, hblk⟩ := HR.out.2 i hi2
      obtain ⟨⟨u0, hu0⟩, hf0⟩ := hblk.cell (i := i * 4) (by omega)
      obtain ⟨⟨u1, hu1⟩, hf1⟩ := hblk.cell (i := i * 4 + 1) (by omega)
      obtain ⟨⟨u2, hu2⟩, hf2⟩ := hblk.cell (i := i * 4 + 2) (by omega)
      obtain ⟨⟨u3, hu3⟩, hf3⟩ := hblk.cell (i := i * 4 + 3) (by omega)
      clear hblk
      go_wp2_with fail
      have HN := hid (show Only (fun b => w.heap.size ≤ b ∧ b < w1.heap.size) w5 ((((wr.setCell ⟨g, i * 4, none⟩ (.int .i64 0)).setCell ⟨g, i * 4 + 1, none⟩ (.int .i64 0)).setCell ⟨g, i * 4 + 2, none⟩ (.int .i64 0)).setCell ⟨g, i * 4 + 3, none⟩ (.int .i64 0)) ∧ ∀ j, j < S1.length → ∃ g', some (⟨g, 0, none⟩ : Addr) = some ⟨g', 0, none⟩ ∧ w.heap.size ≤ g' ∧ g' < w1.heap.size ∧ BlkAt ((((wr.setCell ⟨g, i * 4, none⟩ (.int .i64 0)).setCell ⟨g, i * 4 + 1, none⟩ (.int .i64 0)).setCell ⟨g, i * 4 + 2, none⟩ (.int .i64 0)).setCell ⟨g, i * 4 + 3, none⟩ (.int .i64 0)) g' S1.length from by
        refine ⟨(((HR.out.1.setCell (.inl ⟨hg1, hg2⟩) _).setCell (.inl ⟨hg1, hg2⟩) _).setCell (.inl ⟨hg1, hg2⟩) _).setCell (.inl ⟨hg1, hg2⟩) _, fun j hj => ?_⟩
        obtain ⟨g', e, h1, h2, h3⟩ := HR.out.2 j hj
        obtain rfl : g = g' := by simpa using e
        exact ⟨g, rfl, h1, h2, (((h3.set _ _).set _ _).set _ _).set _ _⟩)
      go_roundg (S1.length - (i + 1))
      case measure => omega
      case rel => exact ⟨i + 1, by omega, rfl, by go_num, HN⟩
    · obtain rfl : i = S1.length := by omega
      have d1 : decide (S1.length < S1.length) = false := by simp
      have HE := hid (show Only noB w wr from HO5.out.trans HR.out.1 fun x hx h => by omega)
      clear hi hi2
      rcases HA.out with ⟨rfl, hne⟩ | ⟨da, rfl, hha, hDa⟩
      · have HNe := hid hne
        clear hne
        go_wp2_with fail
        go_ret
        exact ⟨rfl, HE.out⟩
      rcases HB.out with ⟨rfl, hne⟩ | ⟨db, rfl, hhb, hDb⟩
      · have HNe := hid hne
        clear hne hha hDa
        go_wp2_with fail
        go_ret
        exact ⟨rfl, HE.out⟩
      rcases HC.out with ⟨rfl, hne⟩ | ⟨dc, rfl, hhc, hDc⟩
      · exact absurd (by rw [hha]) hne
      obtain rfl : ha = hc := by rw [hhc] at hha; exact (congrArg Prod.fst hha).symm
      have HT := hid (tri_start HO1.out HI2.out HI3.out HI4.out HI5.out HR.out.1 hDa hDb hDc)
      obtain ⟨ok, hl, hH1, hH2, okk⟩ := sys_ok hha
      have HHa := hid hha
      have HHb := hid hhb
      generalize Fr noB w1 w2 = A0 at *
      generalize Fr noB w2 w3 = B0 at *
      generalize Fr noB w3 w4 = C0 at *
      clear hha hhb hhc hDa hDb hDc HA HB HC HR HX5 HSx HW
      go_wp2_with fail
      go_loopg [18] xs.length (fun g v18 wx => ∃ (i n m : Nat) (A B C : Nat → Prop), i ≤ xs.length ∧ g = xs.length - i ∧ v18 = .int .i64 i ∧ n < 1099511627776 ∧ m < 1099511627776 ∧ Hid (TriSt S1 S2 ha hb w wx da db dc n m n A B C))
      case atStart => exact ⟨0, 0, 0, _, _, _, by omega, rfl, rfl, by omega, by omega, HT⟩
      case round =>
        obtain ⟨i, n, m, A, B, C, hi, rfl, rfl, hn, hm, HR⟩ := hrel
        clear HT
        by_cases hi2 : i < xs.length
        · by_cases hi3 : i < 200
          · obtain ⟨a, rfl, hcx⟩ := HX.out i hi2
            obtain ⟨k, hk⟩ : ∃ k : Nat, (xs.length : Int) - 1 - i = k := ⟨xs.length - 1 - i, by omega⟩
            have hkl : k < xs.length := by omega
            obtain ⟨a', hae, hcy⟩ := HX.out k hkl
            obtain rfl := Option.some.inj hae
            have d2 : decide (i < xs.length) = true := by simpa using hi2
            have d3 : decide ((i : Int) < 200) = true := by simp; omega
            have hi4 : (i : Int) < (xs.length : Int) := by omega
            have hk4 : (k : Int) < (xs.length : Int) := by omega
            generalize xs[i] = x at *
            generalize xs[k] = y at *
            have hx1 := HR.out.only.cell hcx id
            have HCx := hid hcx
            have HCy := hid hcy
            have HAa := hid (dis_step HR.out.a x HHa.out)
            clear hae hcx hcy
            go_wp2_with fail
            refine HAa.out.mono ?_
            rintro e wa ⟨rfl, hoa, hda⟩
            have HSa := hid (HR.out.stepA hoa hda)
            have hy1 := HSa.out.only.cell HCy.out id
            have HAb := hid (dis_step HSa.out.b y HHb.out)
            clear hoa hda hx1 HAa HR
            go_wp2_with fail
            refine HAb.out.mono ?_
            rintro e wb ⟨rfl, hob, hdb⟩
            have HSb := hid (HSa.out.stepB hob hdb)
            have hx1 := HSb.out.only.cell HCx.out id
            have HAc := hid (dis_step HSb.out.c x HHa.out)
            clear hob hdb hy1 HAb HSa
            go_wp2_with fail
            refine HAc.out.mono ?_
            rintro e wc ⟨rfl, hoc, hdc⟩
            have HSc := hid (HSb.out.swap.stepA hoc hdc).swap
            have hn' := advN_lt x hn
            have hm' := advN_lt y hm
            have d4 : (advE n x != advE n x) = false := by simp
            generalize advE n x = er at *
            generalize advN n x = n' at *
            generalize advN m y = m' at *
            generalize Fr A _ wa = A' at *
            generalize Fr B _ wb = B' at *
            generalize Fr C _ wc = C' at *
            have HRa := hid (dis_rests HSc.out.a hl)
            clear hoc hdc hx1 HAc HSb hn hm
            go_wp2_with fail
            refine HRa.out.mono ?_
            rintro e wd ⟨vl, rfl, hod, hwd⟩
            have HOd := hid hod
            have HWd := hid hwd
            have HRc := hid (dis_rests (HSc.out.c.kept hod fun _ _ _ e => e) hl)
            clear hod hwd HRa
            go_wp2_with fail
            refine HRc.out.mono ?_
            rintro e we ⟨vk, rfl, hoe, hwe⟩
            have HOe := hid (HOd.out.trans hoe fun _ _ h => h)
            have HWl := hid (own_of_blocks (w' := we) HWd.out fun b hb => hoe.block b (HWd.out.lt b hb).2 id)
            have HSm := hid (sameInts_any _ _ vl vk we (intsAt_own (stList_len S1 n') HWl.out) (intsAt_own (stList_len S1 n') hwe) (by rw [stList_len]; omega) (by rw [stList_len]; omega))
            rw [show decide (stList S1 n' = stList S1 n') = true by simp] at HSm
            clear hoe hwe HRc
            go_wp2_with fail
            refine HSm.out.mono ?_
            rintro e wf ⟨rfl, q1, rfl⟩
            have HOf := hid (show Only noB wc (we.drewN q1) from HOe.out.drewN q1)
            have HWf := hid (own_of_blocks (w' := we.drewN q1) HWl.out fun b hb => rfl)
            generalize we.drewN q1 = wf at *
            have HOa := hid (dis_occ (HSc.out.a.kept HOf.out fun _ _ _ e => e) HHa.out)
            have HOc := hid (dis_occ (HSc.out.c.kept HOf.out fun _ _ _ e => e) HHa.out)
            generalize optI ((sysOf S1).occ n') + 1 = oc at *
            have d5 : (oc != oc) = false := by simp
            clear HSm
            go_wp2_with fail
            refine HOa.out.mono ?_
            rintro e w' ⟨rfl, rfl⟩
            clear HOa
            go_wp2_with fail
            refine HOc.out.mono ?_
            rintro e w' ⟨rfl, rfl⟩
            clear HOc
            have HUa := hid (dis_until (HSc.out.a.kept HOf.out fun _ _ _ e => e) hn' HHa.out)
            have HUc := hid (fun q => dis_until (HSc.out.c.kept (HOf.out.drewN q) fun _ _ _ e => e) hn' HHa.out)
            generalize untilOf S1 n' ((sysOf S1).st n') (n' + 1) = un at *
            have d6 : (un != un) = false := by simp
            go_wp2_with fail
            refine HUa.out.mono ?_
            rintro e w' ⟨rfl, q2, rfl⟩
            clear HUa
            go_wp2_with fail
            refine (HUc.out q2).mono ?_
            rintro e w' ⟨rfl, q3, rfl⟩
            clear HUc
            have HOg := hid (show Only noB wc ((w'.drewN q2).drewN q3) from (HOf.out.drewN q2).drewN q3)
            have HWg := hid (own_of_blocks (w' := (w'.drewN q2).drewN q3) HWf.out fun b hb => rfl)
            generalize (w'.drewN q2).drewN q3 = wg at *
            have HNa := hid (dis_now (HSc.out.a.kept HOg.out fun _ _ _ e => e))
            have HNc := hid (dis_now (HSc.out.c.kept HOg.out fun _ _ _ e => e))
            have d7 : ((n' : Int) != n') = false := by simp
            have HSp := hid (spoilt_any wc.heap.size S1.length vl _ wg HWg.out (by omega) HOg.out.size)
            rw [show ((S1.length + 64 : Nat) : Int) = (S1.length : Int) + 64 by omega] at HSp
            have d8 : ((S1.length : Int) + 64 != (S1.length : Int) + 64) = false := by simp
            have hlI : (S1.length : Int) ≤ 32 := by omega
            go_wp2_with fail
            refine HNa.out.mono ?_
            rintro e wg ⟨rfl, rfl⟩
            clear HNa
            go_wp2_with fail
            refine HNc.out.mono ?_
            rintro e wg ⟨rfl, rfl⟩
            clear HNc
            go_wp2_with fail
            refine HSp.out.mono ?_
            rintro e wh ⟨rfl, hoh⟩
            have HEnd := hid (HSc.out.step (E := fun b => wc.heap.size ≤ b) ((HOg.out.mono fun b _ h => absurd h id).trans hoh fun x _ h => h) fun x h => h)
            clear hoh HSp
            go_wp2_with fail
            go_roundg (xs.length - (i + 1))
            case measure => omega
            case rel => exact ⟨i + 1, n', m', A', B', C', by omega, rfl, by go_num, hn', hm', HEnd⟩
          · have d2 : decide (i < xs.length) = true := by simpa using hi2
            have d3 : decide ((i : Int) < 200) = false := by simp; omega
            clear hi hi2 hi3
            go_wp2_with fail
            go_ret
            exact ⟨rfl, HR.out.only⟩
        · have d2 : decide (i < xs.length) = false := by simpa using hi2
          clear hi hi2
          go_wp2_with fail
          go_ret
          exact ⟨rfl, HR.out.only⟩
end Go.Proofs.YtlmnojbghgnniaaDoor.On
