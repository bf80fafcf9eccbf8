/- The law's spoilt, to the block: a list that was told is written full; only its own block turns. -/
import Derived.Test.YtlmnojbghgnniaaGreatDoorSpoiltI
import Derived.Maps.AppendAt
namespace Go.Proofs.YtlmnojbghgnniaaGreatDoor.On
open Go.RowKit Bulk Ch

set_option maxHeartbeats 1000000 in
set_option maxRecDepth 100000 in
theorem spoilt_at (B n : Nat) (v : Value) (xs : List Value) (w : World) (h : w.ownsRow B 3 1 v n xs) (hn : n ≤ 1000000) (hB : B ≤ w.heap.size) :
    Calls Tryz.prog 24 #[v] w fun e w' => e = .returned (.int .i64 ((n + 64 : Nat) : Int)) ∧ Only (fun b => v.ownBlock = some b) w w' := by
  obtain ⟨pv, cv, rfl⟩ : ∃ pv cv, v = .slice pv n cv := by
    rcases h.2 with ⟨h1, h2⟩ | ⟨g, c, cu, h1, _⟩
    · exact ⟨none, 0, by rw [h1, h2]⟩
    · exact ⟨_, c, h1⟩
  have H0 := hid h
  have HB := hid hB
  clear h hB
  go_enter Tryz.func24, Tryz.ntmps24
  go_wp2_with fail
  go_loopg [3] n (fun g v3 wr => ∃ (i : Nat) (ys : List Value), i ≤ n ∧ g = n - i ∧ v3 = .int .i64 i ∧ Hid (wr.ownsRow B 3 1 (.slice pv n cv) n ys ∧ Only (fun b => Value.ownBlock (.slice pv n cv) = some b) w wr))
  case atStart => exact ⟨0, xs, by omega, rfl, rfl, hid ⟨H0.out, Only.refl _ _⟩⟩
  case round =>
    obtain ⟨i, ys, hi, rfl, rfl, HR⟩ := hrel
    clear H0
    by_cases hi2 : i < n
    · have hform : ∃ g cur, pv = some ⟨g, 0, none⟩ ∧ wr.heap[g]? = some (.cells cur 3 (0, 0)) ∧ B ≤ g ∧ i < cur.size := by
        rcases HR.out.1.2 with ⟨h1, h2⟩ | ⟨g, c, cur, h1, h2, h3, h4, _, h5, _⟩
        · omega
        · injection h1 with e1 _ _
          exact ⟨g, cur, e1, h3, h2, by omega⟩
      obtain ⟨g, cur, rfl, hh, hgB, hic⟩ := hform
      have d1 : decide (i < n) = true := by simpa using hi2
      have hin : (i : Int) < (n : Int) := by omega
      have hcell : wr.cell? ⟨g, i, none⟩ = some cur[i] := by simp [World.cell?, hh, hic]
      have hfz : wr.frozen? ⟨g, i, none⟩ = false := by simp [World.frozen?, hh]
      have HN := hid (And.intro (own_set HR.out.1 (i := i) (g := g) rfl (.int .i64 (-7))) (HR.out.2.setCell (p := ⟨g, i, none⟩) (.inl rfl) (.int .i64 (-7))))
      generalize cur[i] = ci at *
      clear hh
      go_wp2_with fail
      go_roundg (n - (i + 1))
      case measure => omega
      case rel => exact ⟨i + 1, _, by omega, rfl, by go_num, HN⟩
    · obtain rfl : i = n := by omega
      have d1 : decide (i < i) = false := by simp
      clear hi hi2
      obtain ⟨i0, hii, hz0, hz1, hz2⟩ := info_parts Ch.info3
      go_wp2_with fail
      go_loopg [0, 4] 64 (fun g v0 v4 wx => ∃ (j c : Nat) (p : Option Addr) (zs : List Value), j ≤ 64 ∧ g = 64 - j ∧ v4 = .int .i64 j ∧ v0 = .slice p (i + j) c ∧ Hid (wx.ownsRow B 3 1 v0 (i + j) zs ∧ Only (fun b => Value.ownBlock (.slice pv i cv) = some b) w wx ∧ ∀ b, v0.ownBlock = some b → Value.ownBlock (.slice pv i cv) = some b ∨ w.heap.size ≤ b))
      case atStart => exact ⟨0, cv, pv, ys, by omega, rfl, rfl, rfl, hid ⟨HR.out.1, HR.out.2, fun b hb => .inl hb⟩⟩
      case round =>
        obtain ⟨j, c, p, zs, hj, rfl, rfl, rfl, HS⟩ := hrel
        clear HR
        by_cases hj2 : j < 64
        · have d2 : decide ((j : Int) < 64) = true := by simp; omega
          have hown := HS.out.1
          have hsz := HS.out.2.1.size
          have hBx := HB.out
          go_wp2_with (at_builtin; refine wpList_append_own_at _ rfl (.tmp 18) (.tmp 19) 23 rfl B 3 i0 (.int .i64 0) 1 8 Tryz.underlying23 hii hz0 hz1 hz2 rfl (by decide) _ (i + j) _ rfl (hown.alloc _) ⟨wr.heap.size, 0, none⟩ 1 1 [.int .i64 (-8)] rfl rfl ?c1 ?c2 ?c3 ?c4 ?c5 ?_)
          case c1 =>
            intro k u hk
            match k, hk with
            | 0, hk => simp at hk; subst hk; simp [Addr.add]
          case c2 => intro u hu; simp at hu; subst hu; rfl
          case c3 => unfold maxLen; omega
          case c4 => omega
          case c5 => simp; omega
          intro v1 w2 ho1 hg1 _ hat
          obtain ⟨gv, cv1, rfl⟩ : ∃ gv cv1, v1 = .slice (some ⟨gv, 0, none⟩) (i + j + 1) cv1 := by
            rcases ho1.2 with ⟨_, h2⟩ | ⟨g, c, cu, h1, _⟩
            · omega
            · exact ⟨g, c, h1⟩
          have HN := hid (And.intro ho1 (And.intro ((HS.out.2.1.alloc _).grown hg1 fun k e => HS.out.2.2 k e) (show ∀ b, Value.ownBlock (.slice (some ⟨gv, 0, none⟩) (i + j + 1) cv1) = some b → Value.ownBlock (.slice pv i cv) = some b ∨ w.heap.size ≤ b from fun b hb => by
            rcases hat with e | e
            · exact HS.out.2.2 b (e.symm.trans hb)
            · have hb2 := Option.some.inj (e.symm.trans hb); right; have h3 := HS.out.2.1.size; rw [← hb2]; exact Nat.le_trans h3 (Nat.le_succ _))))
          clear ho1 hg1 hown hsz hBx hat
          go_wp2_with fail
          go_roundg (64 - (j + 1))
          case measure => omega
          case rel => exact ⟨j + 1, _, _, _, by omega, rfl, by go_num, by rw [Nat.add_assoc], HN⟩
        · obtain rfl : j = 64 := by omega
          have d2 : decide (((64 : Nat) : Int) < 64) = false := by decide
          clear hj hj2
          go_wp2_with fail
          go_ret
          exact ⟨rfl, HS.out.2.1⟩
end Go.Proofs.YtlmnojbghgnniaaGreatDoor.On
