/- Lists as they are read: nil, or with an address. -/
import Derived.Test.YtlmnojbghgnniaaGreatDoorClone
import Derived.Test.YtlmnojbghgnniaaGreatDoorApp
namespace Bulk
open Go Go.RowKit

/-- Servers as they are read: nil, or with an address. -/
def SrvF (w : World) (v : Value) (S : List Srv) : Prop := (v = .slice none 0 0 ∧ S = []) ∨ ∃ a c, v = .slice (some a) S.length c ∧ ∀ j (hj : j < S.length), S[j].At w (a.add (j * 4))
/-- Ints as they are read. -/
def IntsF (w : World) (v : Value) (xs : List Int) : Prop := (v = .slice none 0 0 ∧ xs = []) ∨ ∃ a c, v = .slice (some a) xs.length c ∧ ∀ j (hj : j < xs.length), w.cell? (a.add j) = some (.int .i64 xs[j])

theorem SrvF.sat {w : World} {v : Value} {S : List Srv} (h : SrvF w v S) : SrvAt w v S := by
  rcases h with ⟨rfl, rfl⟩ | ⟨a, c, h1, h2⟩
  · exact ⟨none, 0, rfl, fun j hj => absurd hj (Nat.not_lt_zero j)⟩
  · exact ⟨some a, c, h1, fun j hj => ⟨a, rfl, h2 j hj⟩⟩
theorem IntsF.iat {w : World} {v : Value} {xs : List Int} (h : IntsF w v xs) : Go.Proofs.YtlmnojbghgnniaaGreatDoor.Ch.IntsAt w v xs := by
  rcases h with ⟨rfl, rfl⟩ | ⟨a, c, h1, h2⟩
  · exact ⟨none, 0, rfl, fun j hj => absurd hj (Nat.not_lt_zero j)⟩
  · exact ⟨some a, c, h1, fun j hj => ⟨a, rfl, h2 j hj⟩⟩
theorem SrvF.kept {w w' : World} {v : Value} {S : List Srv} (h : SrvF w v S) (ho : Only noB w w') : SrvF w' v S := by
  rcases h with h | ⟨a, c, h1, h2⟩
  · exact .inl h
  · exact .inr ⟨a, c, h1, fun j hj => (h2 j hj).kept ho id⟩
theorem IntsF.kept {w w' : World} {v : Value} {xs : List Int} (h : IntsF w v xs) (ho : Only noB w w') : IntsF w' v xs := by
  rcases h with h | ⟨a, c, h1, h2⟩
  · exact .inl h
  · exact .inr ⟨a, c, h1, fun j hj => ho.cell (h2 j hj) id⟩
theorem IntsF.src {w : World} {v : Value} {xs : List Int} (h : IntsF w v xs) : SrcAt w v xs.length 1 (xs.map (Value.int .i64)) := by
  rcases h with ⟨rfl, rfl⟩ | ⟨a, c, h1, h2⟩
  · exact .inl ⟨rfl, rfl, rfl⟩
  · refine .inr ⟨a, c, h1, by simp, fun j u hu => ?_⟩
    rw [List.getElem?_map] at hu
    obtain ⟨x, hx, rfl⟩ := Option.map_eq_some_iff.1 hu
    obtain ⟨hj, rfl⟩ := List.getElem?_eq_some_iff.1 hx
    exact h2 j hj
theorem SrvF.src {w : World} {v : Value} {S : List Srv} (h : SrvF w v S) : SrcAt w v S.length 4 (flatS S) := by
  rcases h with ⟨rfl, rfl⟩ | ⟨a, c, h1, h2⟩
  · exact .inl ⟨rfl, rfl, rfl⟩
  · exact .inr ⟨a, c, h1, flatS_len S, fun j u hu => Srv.flat h2 j u hu⟩
theorem flatS_one (S : List Srv) : ∀ u ∈ flatS S, u.oneCell' = true := by
  intro u hu
  obtain ⟨s, _, hs⟩ := List.mem_flatMap.1 hu
  simp at hs
  rcases hs with rfl | rfl | rfl | rfl <;> rfl
theorem ints_one (xs : List Int) : ∀ u ∈ xs.map (Value.int .i64), u.oneCell' = true := by
  intro u hu
  obtain ⟨s, _, rfl⟩ := List.mem_map.1 hu
  rfl
theorem SrvF.own {w : World} {base : Nat} {v : Value} {S : List Srv} {e : TypeId} (h : w.ownsRow base e 4 v S.length (flatS S)) : SrvF w v S := by
  have hc := fun {g} => h.cells (g := g)
  rcases h.2 with ⟨h1, h2⟩ | ⟨g, cap, cur, h1, h2, h3, _⟩
  · exact .inl ⟨h1, List.eq_nil_of_length_eq_zero h2⟩
  · subst h1
    refine .inr ⟨⟨g, 0, none⟩, cap, rfl, fun j hj => ?_⟩
    obtain ⟨f0, f1, f2, f3⟩ := flatS_at S j hj
    refine ⟨hc rfl _ _ f0, ?_, ?_, ?_⟩
    · rw [← add_next _ _ 0]; exact hc rfl _ _ f1
    · rw [← add_next _ _ 1]; exact hc rfl _ _ f2
    · rw [← add_next _ _ 2]; exact hc rfl _ _ f3
theorem IntsF.own {w : World} {base n : Nat} {v : Value} {xs : List Int} {e : TypeId} (hn : xs.length = n) (h : w.ownsRow base e 1 v n (xs.map (Value.int .i64))) : IntsF w v xs := by
  have hc := fun {g} => h.cells (g := g)
  rcases h.2 with ⟨h1, h2⟩ | ⟨g, cap, cur, h1, h2, h3, _⟩
  · exact .inl ⟨h1, List.eq_nil_of_length_eq_zero (by omega)⟩
  · subst h1
    exact .inr ⟨⟨g, 0, none⟩, cap, by rw [hn], fun j hj => hc rfl j _ (by simp [hj])⟩
end Bulk
