/- The servers that come in, with the length of their datum. -/
import Derived.Test.YtlmnojbghgnniaaGreatDoorFrameI
import Derived.Test.YtlmnojbghgnniaaGreatDoorFit
import Derived.SizedLaws
namespace Go.Proofs.YtlmnojbghgnniaaGreatDoor
open Go.ChangeShapes Go.WideShapes Go.ChangeAt Go.RowKit Go.Deep Bulk

set_option maxRecDepth 100000 in
theorem open_servers_f {H : Type} {enc : TypeId × Value → H} {W : World} {base : Nat} {v : Value} {d : DataW H} {p : List MemPlace} (hv : Value.okWide Tryz.prog W .any base 22 v)
    (h : DataW.Trod enc Tryz.prog W 0 (fun _ => true) true 22 v d p) : ∃ S : List Srv, SrvF W v S ∧ S.length ≤ 9223372036854775807 ∧ (S = [] ∨ ∃ el sp, d = .slice el sp ∧ el.length = S.length) := by
  obtain ⟨fuel, hf⟩ := h
  obtain ⟨pa, n, c, rfl⟩ := okWide_slice Tryz.underlying22 hv
  rcases open_slice_fields Tryz.underlying22 Tryz.underlying44 (by kernel_rfl) (by kernel_rfl) hf with ⟨hcs, _⟩ | ⟨a, len, cap, m, D, Pl, hcs, _, hlen, hmax, hm, hxd, hfl⟩
  · have hvn : Value.slice pa n c = .slice none 0 0 := by simpa [Value.cells] using hcs
    exact ⟨[], .inl ⟨hvn, rfl⟩, Nat.zero_le _, .inl rfl⟩
  · have hvn : Value.slice pa n c = .slice (some a) len cap := by simpa [Value.cells] using hcs
    have hml : len ≤ m := by rw [hm]; split <;> omega
    have hex : ∀ i, i < len → ∃ s : Srv, s.At W (a.add (i * 4)) := fun i hi => by
      obtain ⟨ys, k, _, _, _, hfield⟩ := hfl i (by omega)
      obtain ⟨v0, y0, c0, _, t0⟩ := hfield 0 _ rfl
      obtain ⟨v1, y1, c1, _, t1⟩ := hfield 1 _ rfl
      obtain ⟨v2, y2, c2, _, t2⟩ := hfield 2 _ rfl
      obtain ⟨v3, y3, c3, _, t3⟩ := hfield 3 _ rfl
      obtain ⟨n0, e0, _, _⟩ := DataW.trod_int Tryz.underlying3 t0
      obtain ⟨n1, e1, _, _⟩ := DataW.trod_int Tryz.underlying3 t1
      obtain ⟨n2, e2, _, _⟩ := DataW.trod_int Tryz.underlying3 t2
      obtain ⟨n3, e3, _, _⟩ := DataW.trod_int Tryz.underlying3 t3
      obtain rfl := List.singleton_inj.1 e0
      obtain rfl := List.singleton_inj.1 e1
      obtain rfl := List.singleton_inj.1 e2
      obtain rfl := List.singleton_inj.1 e3
      refine ⟨⟨n0, n1, n2, n3⟩, c0, ?_, ?_, ?_⟩
      · rw [← add_next a _ 0]; exact c1
      · rw [← add_next a _ 1]; exact c2
      · rw [← add_next a _ 2]; exact c3
    refine ⟨(List.range len).map fun i => if h : i < len then Classical.choose (hex i h) else ⟨0, 0, 0, 0⟩, .inr ⟨a, cap, by rw [hvn]; simp, fun j hj => ?_⟩, by simp; unfold maxLen at hmax; omega, .inr ⟨_, _, congrArg Prod.fst hxd, by simp⟩⟩
    have hj' : j < len := by simpa using hj
    simp only [List.getElem_map, List.getElem_range, dif_pos hj']
    exact Classical.choose_spec (hex j hj')


theorem Tryz.bytesSrv : Tryz.prog.bytesOf 44 = 32 := by kernel_rfl

/-- What the form's own reach says of the servers that came in. -/
theorem reach_servers {H : Type} {ts : List TypeId} {ds : List (DataW H)} {S : List Srv} {d : DataW H} (hsz : (DataW.weightsEach Tryz.prog ts ds).all (· ≤ reachBytes) = true) {j : Nat} (ht : ts[j]? = some 22) (hd : ds[j]? = some d)
    (h : S = [] ∨ ∃ el sp, d = .slice el sp ∧ el.length = S.length) : S.length * 32 ≤ 140737488351232 := by
  rcases h with rfl | ⟨el, sp, rfl, he⟩
  · simp
  · have := sized_slice hsz ht hd Tryz.underlying22
    rw [Tryz.bytesSrv] at this
    unfold reachBytes at this
    omega
end Go.Proofs.YtlmnojbghgnniaaGreatDoor
