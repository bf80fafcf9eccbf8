/- OnlineFollows: the plain part. -/
import Derived.Test.YtlmnojbghgnniaaGreatDoorExF
namespace Bulk
open Go Go.RowKit

theorem DocSt.step2 {S : List Srv} {H : Nat} {w wr w2 w3 w4 : World} {bx n k' : Nat} {G : Nat → Prop} {pv pl' : Option Addr} {cv cl' : Nat} (h : DocSt S H w wr bx n G) (h4 : OffG wr bx G pv) (ho : Only noB wr w2)
    (hd : DocAt w2 (.agg #[.slice pv S.length cv, .int .i64 H, .int .i64 k', .slice pl' S.length cl']) S H k') (h5 : OffG w2 bx G pl') (h3 : Only G w2 w3)
    (h6 : w4 = ((((w3.setCell ⟨bx, 0, none⟩ (.slice pv S.length cv)).setCell ⟨bx, 1, none⟩ (.int .i64 H)).setCell ⟨bx, 2, none⟩ (.int .i64 k')).setCell ⟨bx, 3, none⟩ (.slice pl' S.length cl'))) :
    DocSt S H w w4 bx k' G ∧ DocAt w4 (.agg #[.slice pv S.length cv, .int .i64 H, .int .i64 k', .slice pl' S.length cl']) S H k' := by
  obtain ⟨vs, vl, e, h1, h2⟩ := hd
  simp only [Value.agg.injEq, Array.mk.injEq, List.cons.injEq, and_true, true_and] at e
  obtain ⟨rfl, rfl⟩ := e
  have hE : Only (fun b => b = bx) w3 w4 := by rw [h6]; exact four_only (b := bx)
  have hs := ho.size
  have hs3 := h3.size
  have hs4 := hE.size
  have hhi := h.hi
  obtain ⟨pv0, cv0, pl0, cl0, ⟨z0, z1, z2, z3⟩, _, _, _, _⟩ := h.ex
  have y0 := h3.cell (ho.cell z0 id) h.ng
  have y1 := h3.cell (ho.cell z1 id) h.ng
  have y2 := h3.cell (ho.cell z2 id) h.ng
  have y3 := h3.cell (ho.cell z3 id) h.ng
  have g1 := (h1.keptE h3 fun a e => (h4 a e).2.1).keptE hE fun a e => (h4 a e).2.2
  have g2 := (h2.keptE h3 fun a e => (h5 a e).2.1).keptE hE fun a e => (h5 a e).2.2
  refine ⟨⟨h.lo, by omega, h.ng, fun o => ?_, pv, cv, pl', cl', ⟨?_, ?_, ?_, ?_⟩, g1, g2, fun a e => ?_, fun a e => ?_⟩, _, _, rfl, g1, g2⟩
  · rw [h6]
    have := (World.frozen?_of_block (a := ⟨bx, o, none⟩) ((h3.block bx (by omega) h.ng).trans (ho.block bx h.hi id))).trans (h.fz o)
    simpa using this
  · rw [h6]; exact cell_set_off (cell_set_off (cell_set_off (cell_set_same y0) (by decide)) (by decide)) (by decide)
  · rw [h6]; exact cell_set_off (cell_set_off (cell_set_same (cell_set_off y1 (by decide))) (by decide)) (by decide)
  · rw [h6]; exact cell_set_off (cell_set_same (cell_set_off (cell_set_off y2 (by decide)) (by decide))) (by decide)
  · rw [h6]; exact cell_set_same (cell_set_off (cell_set_off (cell_set_off y3 (by decide)) (by decide)) (by decide))
  · obtain ⟨e1, e2, e3⟩ := h4 a e; exact ⟨by omega, e2, e3⟩
  · obtain ⟨e1, e2, e3⟩ := h5 a e; exact ⟨by omega, e2, e3⟩

/-- G, and one block more. -/
def Plus (G : Nat → Prop) (y : Nat) : Nat → Prop := fun b => G b ∨ b = y

theorem DocSt.avoid {S : List Srv} {H : Nat} {w wr : World} {bx n y : Nat} {G : Nat → Prop} (h : DocSt S H w wr bx n G) (hy : wr.heap.size ≤ y) : DocSt S H w wr bx n (Plus G y) := by
  obtain ⟨pv, cv, pl, cl, h1, h2, h3, h4, h5⟩ := h.ex
  have hhi := h.hi
  refine ⟨h.lo, h.hi, fun e => ?_, h.fz, pv, cv, pl, cl, h1, h2, h3, fun a e => ?_, fun a e => ?_⟩
  · rcases e with e | e
    · exact h.ng e
    · omega
  · obtain ⟨e1, e2, e3⟩ := h4 a e
    exact ⟨e1, fun e => by rcases e with e | e; exact e2 e; omega, e3⟩
  · obtain ⟨e1, e2, e3⟩ := h5 a e
    exact ⟨e1, fun e => by rcases e with e | e; exact e2 e; omega, e3⟩

theorem DocSt.monoG {S : List Srv} {H : Nat} {w wr : World} {bx n : Nat} {G G' : Nat → Prop} (h : DocSt S H w wr bx n G) (hG : ∀ b, G' b → G b) : DocSt S H w wr bx n G' := by
  obtain ⟨pv, cv, pl, cl, h1, h2, h3, h4, h5⟩ := h.ex
  exact ⟨h.lo, h.hi, fun e => h.ng (hG _ e), h.fz, pv, cv, pl, cl, h1, h2, h3, fun a e => ⟨(h4 a e).1, fun e2 => (h4 a e).2.1 (hG _ e2), (h4 a e).2.2⟩, fun a e => ⟨(h5 a e).1, fun e2 => (h5 a e).2.1 (hG _ e2), (h5 a e).2.2⟩⟩

/-- The program's dispatcher and the document's, with a second box y. -/
structure FolSt (S : List Srv) (H : Nat) (w wr : World) (db bx y n : Nat) (G : Nat → Prop) : Prop where
  only : Only noB w wr
  dis : Dis S H wr db n G
  gb : ∀ b, G b → w.heap.size ≤ b ∧ b < wr.heap.size
  doc : DocSt S H w wr bx n (Plus G y)
  yl : w.heap.size ≤ y ∧ y < wr.heap.size ∧ ¬ G y
  yb : ∃ v0 v1 v2 v3, Box4 wr y v0 v1 v2 v3
  yf : ∀ o, wr.frozen? ⟨y, o, none⟩ = false

theorem FolSt.kept {S : List Srv} {H : Nat} {w wr w' : World} {db bx y n : Nat} {G : Nat → Prop} (h : FolSt S H w wr db bx y n G) (ho : Only noB wr w') : FolSt S H w w' db bx y n G := by
  have hs := ho.size
  have hy := h.yl
  obtain ⟨v0, v1, v2, v3, hb⟩ := h.yb
  exact ⟨h.only.trans ho fun _ _ h => h, h.dis.kept ho fun _ _ _ e => e, fun b hb => by have := h.gb b hb; omega, h.doc.kept ho, ⟨by omega, by omega, h.yl.2.2⟩, ⟨v0, v1, v2, v3, hb.kept ho id⟩, fun o => (World.frozen?_of_block (a := ⟨y, o, none⟩) (ho.block y h.yl.2.1 id)).trans (h.yf o)⟩

/-- Behind the program's Advance: the document's side. -/
theorem FolSt.adv {S : List Srv} {H : Nat} {w wr w' : World} {db bx y n : Nat} {G : Nat → Prop} (h : FolSt S H w wr db bx y n G) (ho : Only G wr w') :
    DocSt S H w w' bx n (Plus (Fr G wr w') y) ∧ (∃ v0 v1 v2 v3, Box4 w' y v0 v1 v2 v3) ∧ (∀ o, w'.frozen? ⟨y, o, none⟩ = false) ∧ ¬ Fr G wr w' y := by
  obtain ⟨v0, v1, v2, v3, hb⟩ := h.yb
  have hy := h.yl
  refine ⟨(h.doc.adv (ho.mono fun b _ e => .inl e)).monoG fun b e => ?_, ⟨v0, v1, v2, v3, hb.kept ho h.yl.2.2⟩, fun o => (World.frozen?_of_block (a := ⟨y, o, none⟩) (ho.block y h.yl.2.1 h.yl.2.2)).trans (h.yf o), fun e => ?_⟩
  · rcases e with (e | e) | e
    · exact .inl (.inl e)
    · exact .inr e
    · exact .inl (.inr e)
  · rcases e with e | e
    · exact h.yl.2.2 e
    · omega

theorem FolSt.step {S : List Srv} {H : Nat} {w w5 w6 w7 w8 w9 : World} {db bx y n' : Nat} {G : Nat → Prop} {v0 v1 v2 v3 : Value} (ho1 : Only noB w w5) (hg : ∀ b, G b → w.heap.size ≤ b ∧ b < w5.heap.size) (ho : Only G w5 w6) (hd : Dis S H w6 db n' (Fr G w5 w6)) (h67 : Only noB w6 w7) (h78 : Only (fun b => b = y) w7 w8)
    (h89 : Only (fun b => b = bx) w8 w9) (h9 : DocSt S H w w9 bx n' (Plus (Fr G w5 w6) y)) (hy : w.heap.size ≤ y ∧ y < w9.heap.size ∧ ¬ Fr G w5 w6 y) (hb : Box4 w9 y v0 v1 v2 v3) (hf : ∀ o, w9.frozen? ⟨y, o, none⟩ = false) : FolSt S H w w9 db bx y n' (Fr G w5 w6) := by
  have s1 := ho.size
  have s2 := h67.size
  have s3 := h78.size
  have s4 := h89.size
  have s5 := ho1.size
  have hlo := h9.lo
  refine ⟨(((ho1.trans ho fun b hb2 e => by have := (hg b e).1; omega).trans h67 fun _ _ e => e).trans h78 fun b hb2 e => (by have e' : b = y := e; omega)).trans h89 fun b hb2 e => (by have e' : b = bx := e; omega), ((hd.kept h67 fun _ _ _ e => e).kept h78 fun b _ e1 e2 => (by obtain rfl : b = y := e2; exact hy.2.2 e1)).kept h89 fun b _ e1 e2 => (by obtain rfl : b = bx := e2; exact h9.ng (.inl e1)), fun b e => ?_, h9, hy, ⟨v0, v1, v2, v3, hb⟩, hf⟩
  rcases e with e | e
  · have := hg b e; omega
  · omega
end Bulk
