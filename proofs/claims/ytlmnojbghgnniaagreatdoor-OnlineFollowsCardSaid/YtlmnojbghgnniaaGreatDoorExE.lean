/- OnlineExact, OnlineFollows: the document's dispatcher in a box beside the program's; the plain part. -/
import Derived.Test.YtlmnojbghgnniaaGreatDoorExD
namespace Bulk
open Go Go.RowKit

theorem add_block (a : Addr) (k : Nat) : (a.add k).block = a.block := by unfold Addr.add; split <;> rfl

theorem SrvF.keptE {w w' : World} {p : Option Addr} {n c : Nat} {S : List Srv} {E : Nat → Prop} (h : SrvF w (.slice p n c) S) (ho : Only E w w') (hE : ∀ a, p = some a → ¬ E a.block) : SrvF w' (.slice p n c) S := by
  rcases h with h | ⟨a, c', h1, h2⟩
  · exact .inl h
  · injection h1 with e1 e2 e3
    exact .inr ⟨a, c, by rw [e1, e2], fun j hj => (h2 j hj).kept ho (by rw [add_block]; exact hE a e1)⟩

theorem IntsF.keptE {w w' : World} {p : Option Addr} {n c : Nat} {xs : List Int} {E : Nat → Prop} (h : IntsF w (.slice p n c) xs) (ho : Only E w w') (hE : ∀ a, p = some a → ¬ E a.block) : IntsF w' (.slice p n c) xs := by
  rcases h with h | ⟨a, c', h1, h2⟩
  · exact .inl h
  · injection h1 with e1 e2 e3
    exact .inr ⟨a, c, by rw [e1, e2], fun j hj => ho.cell (h2 j hj) (by rw [add_block]; exact hE a e1)⟩

/-- A list's block: old, none of the dispatcher's, not the box. -/
def OffG (wr : World) (bx : Nat) (G : Nat → Prop) (p : Option Addr) : Prop := ∀ a, p = some a → a.block < wr.heap.size ∧ ¬ G a.block ∧ a.block ≠ bx

/-- The document's dispatcher at tick n in the box bx. -/
structure DocSt (S : List Srv) (H : Nat) (w wr : World) (bx n : Nat) (G : Nat → Prop) : Prop where
  lo : w.heap.size ≤ bx
  hi : bx < wr.heap.size
  ng : ¬ G bx
  fz : ∀ o, wr.frozen? ⟨bx, o, none⟩ = false
  ex : ∃ pv cv pl cl, Box4 wr bx (.slice pv S.length cv) (.int .i64 H) (.int .i64 n) (.slice pl S.length cl) ∧ SrvF wr (.slice pv S.length cv) S ∧ IntsF wr (.slice pl S.length cl) (rList S ((sysOf S).st n)) ∧ OffG wr bx G pv ∧ OffG wr bx G pl

theorem DocSt.kept {S : List Srv} {H : Nat} {w wr w' : World} {bx n : Nat} {G : Nat → Prop} (h : DocSt S H w wr bx n G) (ho : Only noB wr w') : DocSt S H w w' bx n G := by
  obtain ⟨pv, cv, pl, cl, h1, h2, h3, h4, h5⟩ := h.ex
  have hs := ho.size
  have hhi := h.hi
  refine ⟨h.lo, by omega, h.ng, fun o => (World.frozen?_of_block (a := ⟨bx, o, none⟩) (ho.block bx h.hi id)).trans (h.fz o), pv, cv, pl, cl, h1.kept ho id, h2.kept ho, h3.kept ho, fun a e => ?_, fun a e => ?_⟩
  · obtain ⟨e1, e2, e3⟩ := h4 a e; exact ⟨by omega, e2, e3⟩
  · obtain ⟨e1, e2, e3⟩ := h5 a e; exact ⟨by omega, e2, e3⟩

theorem DocSt.adv {S : List Srv} {H : Nat} {w wr w' : World} {bx n : Nat} {G : Nat → Prop} (h : DocSt S H w wr bx n G) (ho : Only G wr w') : DocSt S H w w' bx n (Fr G wr w') := by
  obtain ⟨pv, cv, pl, cl, h1, h2, h3, h4, h5⟩ := h.ex
  have hs := ho.size
  have hhi := h.hi
  refine ⟨h.lo, by omega, fun e => ?_, fun o => (World.frozen?_of_block (a := ⟨bx, o, none⟩) (ho.block bx h.hi h.ng)).trans (h.fz o), pv, cv, pl, cl, h1.kept ho h.ng, h2.keptE ho (fun a e => (h4 a e).2.1), h3.keptE ho (fun a e => (h5 a e).2.1), fun a e => ?_, fun a e => ?_⟩
  · rcases e with e | e
    · exact h.ng e
    · omega
  · obtain ⟨e1, e2, e3⟩ := h4 a e
    exact ⟨by omega, fun e => by rcases e with e | e; exact e2 e; omega, e3⟩
  · obtain ⟨e1, e2, e3⟩ := h5 a e
    exact ⟨by omega, fun e => by rcases e with e | e; exact e2 e; omega, e3⟩

theorem DocSt.doc {S : List Srv} {H : Nat} {w wr : World} {bx n : Nat} {G : Nat → Prop} (h : DocSt S H w wr bx n G) : ∃ pv cv pl cl, Box4 wr bx (.slice pv S.length cv) (.int .i64 H) (.int .i64 n) (.slice pl S.length cl) ∧ DocAt wr (.agg #[.slice pv S.length cv, .int .i64 H, .int .i64 n, .slice pl S.length cl]) S H n ∧ OffG wr bx G pv ∧ OffG wr bx G pl := by
  obtain ⟨pv, cv, pl, cl, h1, h2, h3, h4, h5⟩ := h.ex
  exact ⟨pv, cv, pl, cl, h1, ⟨_, _, rfl, h2, h3⟩, h4, h5⟩

/-- The first box, of what New has told. -/
theorem DocSt.first {S : List Srv} {H : Nat} {w w1 w2 w3 : World} {G : Nat → Prop} {p q : Option Addr} {n c r d : Nat} {k m : Int} {t : TypeId} (hd : DocAt w2 (.agg #[.slice p n c, .int .i64 k, .int .i64 m, .slice q r d]) S H 0)
    (h0 : w.heap.size ≤ w1.heap.size) (ho : Only noB w1 w2) (hp : ∀ a, p = some a → w1.heap.size ≤ a.block ∧ a.block < w2.heap.size) (hq : ∀ a, q = some a → w1.heap.size ≤ a.block ∧ a.block < w2.heap.size)
    (hG : ∀ b, G b → b < w1.heap.size) (h3 : w3 = w2.alloc (.cells #[.slice p n c, .int .i64 k, .int .i64 m, .slice q r d] t)) : DocSt S H w w3 w2.heap.size 0 G := by
  obtain ⟨vs, vl, e, h1, h2⟩ := hd
  have hs := ho.size
  simp only [Value.agg.injEq, Array.mk.injEq, List.cons.injEq, and_true] at e
  obtain ⟨rfl, e1, e2, rfl⟩ := e
  have hb : w3.heap[w2.heap.size]? = some (.cells #[.slice p n c, .int .i64 k, .int .i64 m, .slice q r d] t (0, 0)) := by rw [h3]; exact Go.Proofs.YtlmnojbghgnniaaGreatDoor.Ch.heap_alloc_at0 _ _
  have hsz : w3.heap.size = w2.heap.size + 1 := by rw [h3]; simp
  have hk : Only noB w2 w3 := by rw [h3]; exact (Only.refl _ _).alloc _
  obtain ⟨pv, cv, ev, _⟩ := h1.sat
  obtain ⟨pl, cl, el, _⟩ := h2.iat
  rw [rList_len] at el
  injection ev with ev1 ev2 ev3
  injection el with el1 el2 el3
  subst ev2; subst el2
  refine ⟨by omega, by omega, fun e => by have := hG _ e; omega, fun o => by simp [World.frozen?, hb], p, c, q, d, ⟨?_, ?_, ?_, ?_⟩, h1.kept hk, h2.kept hk, fun a e => ?_, fun a e => ?_⟩
  · simp [World.cell?, hb]
  · simp only [World.cell?, hb]; simp only [e1]; rfl
  · simp only [World.cell?, hb]; simp only [e2]; rfl
  · simp [World.cell?, hb]
  · obtain ⟨l1, l2⟩ := hp a e; exact ⟨by omega, fun e => by have := hG _ e; omega, by omega⟩
  · obtain ⟨l1, l2⟩ := hq a e; exact ⟨by omega, fun e => by have := hG _ e; omega, by omega⟩

theorem cell_set_same {w : World} {b i : Nat} {u v : Value} (h : w.cell? ⟨b, i, none⟩ = some v) : (w.setCell ⟨b, i, none⟩ u).cell? ⟨b, i, none⟩ = some u := by
  unfold World.cell? at h ⊢
  simp only [World.setCell, Array.getElem?_modify, if_true]
  cases hb : w.heap[b]? with
  | none => rw [hb] at h; cases h
  | some o =>
    rw [hb] at h
    cases o with
    | cells cs t fz =>
      simp at h
      obtain ⟨hi, _⟩ := Array.getElem?_eq_some_iff.1 h
      simp [hi]
    | _ => cases h

/-- A step of the document's dispatcher, told back into the box. -/
theorem DocSt.step {S : List Srv} {H : Nat} {w wr w2 w3 w4 : World} {bx n k' : Nat} {G : Nat → Prop} {pv pl pl' : Option Addr} {cv cl' : Nat} (h : DocSt S H w wr bx n G) (h4 : OffG wr bx G pv) (h5 : OffG wr bx G pl)
    (hG : ∀ b, G b → b < wr.heap.size) (ho : Only noB wr w2) (hd : DocAt w2 (.agg #[.slice pv S.length cv, .int .i64 H, .int .i64 k', .slice pl' S.length cl']) S H k')
    (hst : pl' = pl ∨ ∀ a, pl' = some a → wr.heap.size ≤ a.block ∧ a.block < w2.heap.size) (h3 : Only noB w2 w3)
    (h6 : w4 = ((((w3.setCell ⟨bx, 0, none⟩ (.slice pv S.length cv)).setCell ⟨bx, 1, none⟩ (.int .i64 H)).setCell ⟨bx, 2, none⟩ (.int .i64 k')).setCell ⟨bx, 3, none⟩ (.slice pl' S.length cl'))) :
    DocSt S H w w4 bx k' G ∧ Only (fun b => b = bx) wr w4 ∧ DocAt w4 (.agg #[.slice pv S.length cv, .int .i64 H, .int .i64 k', .slice pl' S.length cl']) S H k' := by
  obtain ⟨vs, vl, e, h1, h2⟩ := hd
  simp only [Value.agg.injEq, Array.mk.injEq, List.cons.injEq, and_true, true_and] at e
  obtain ⟨rfl, rfl⟩ := e
  have ho3 := ho.trans h3 (fun _ _ h => h)
  have hE : Only (fun b => b = bx) w3 w4 := by rw [h6]; exact four_only (b := bx)
  have hs := ho.size
  have hs3 := h3.size
  have hs4 := hE.size
  have hhi := h.hi
  have hall : Only (fun b => b = bx) wr w4 := (ho3.mono fun b _ h => absurd h id).trans hE fun _ _ h => h
  obtain ⟨pv0, cv0, pl0, cl0, ⟨z0, z1, z2, z3⟩, _, _, _, _⟩ := h.ex
  have y0 := ho3.cell z0 id
  have y1 := ho3.cell z1 id
  have y2 := ho3.cell z2 id
  have y3 := ho3.cell z3 id
  have hoff : ∀ a, pl' = some a → a.block < w2.heap.size ∧ ¬ G a.block ∧ a.block ≠ bx := fun a e => by
    rcases hst with hst | hst
    · obtain ⟨e1, e2, e3⟩ := h5 a (hst ▸ e); exact ⟨by omega, e2, e3⟩
    · obtain ⟨e1, e2⟩ := hst a e; exact ⟨e2, fun e => by have := hG _ e; omega, by omega⟩
  refine ⟨⟨h.lo, by omega, h.ng, fun o => ?_, pv, cv, pl', cl', ⟨?_, ?_, ?_, ?_⟩, (h1.kept h3).keptE hE fun a e => (h4 a e).2.2, (h2.kept h3).keptE hE fun a e => (hoff a e).2.2, fun a e => ?_, fun a e => ?_⟩, hall, _, _, rfl, (h1.kept h3).keptE hE fun a e => (h4 a e).2.2, (h2.kept h3).keptE hE fun a e => (hoff a e).2.2⟩
  · rw [h6]
    have := (World.frozen?_of_block (a := ⟨bx, o, none⟩) (ho3.block bx h.hi id)).trans (h.fz o)
    simpa using this
  · rw [h6]; exact cell_set_off (cell_set_off (cell_set_off (cell_set_same y0) (by decide)) (by decide)) (by decide)
  · rw [h6]; exact cell_set_off (cell_set_off (cell_set_same (cell_set_off y1 (by decide))) (by decide)) (by decide)
  · rw [h6]; exact cell_set_off (cell_set_same (cell_set_off (cell_set_off y2 (by decide)) (by decide))) (by decide)
  · rw [h6]; exact cell_set_same (cell_set_off (cell_set_off (cell_set_off y3 (by decide)) (by decide)) (by decide))
  · obtain ⟨e1, e2, e3⟩ := h4 a e; exact ⟨by omega, e2, e3⟩
  · obtain ⟨e1, e2, e3⟩ := hoff a e; exact ⟨by omega, e2, e3⟩
end Bulk
