/- OnlineExact: the row. -/
import Derived.Test.YtlmnojbghgnniaaGreatDoorFrameG
import Derived.Test.YtlmnojbghgnniaaGreatDoorExF
namespace Go.Proofs.YtlmnojbghgnniaaGreatDoor
open Go.ChangeShapes Go.WideShapes Go.ChangeAt Go.RowKit Go.Deep Bulk

set_option maxRecDepth 100000 in
theorem open_ints_at {H : Type} {enc : TypeId × Value → H} {W : World} {base : Nat} {v : Value} {d : DataW H} {p : List MemPlace} (hv : Value.okWide Tryz.prog W .any base 23 v)
    (h : DataW.Trod enc Tryz.prog W 0 (fun _ => true) true 23 v d p) : ∃ xs : List Int, Ch.IntsAt W v xs ∧ xs.length ≤ 9223372036854775807 := by
  obtain ⟨fuel, hf⟩ := h
  obtain ⟨pa, n, c, rfl⟩ := okWide_slice Tryz.underlying23 hv
  rcases open_ints Tryz.underlying23 Tryz.underlying3 (by kernel_rfl) hf with ⟨hcs, _⟩ | ⟨a, len, cap, zs, hcs, _, hlen, hmax, hzs, _, hcell, _⟩
  · have hvn : Value.slice pa n c = .slice none 0 0 := by simpa [Value.cells] using hcs
    refine ⟨[], ⟨none, 0, hvn, fun j hj => ?_⟩, Nat.zero_le _⟩
    exact absurd hj (Nat.not_lt_zero j)
  · have hvn : Value.slice pa n c = .slice (some a) len cap := by simpa [Value.cells] using hcs
    have hl : len ≤ zs.length := by rw [hzs]; split <;> omega
    have htl : (zs.take len).length = len := by simp; omega
    refine ⟨zs.take len, ⟨some a, cap, by rw [hvn, htl], fun j hj => ⟨a, rfl, ?_⟩⟩, by rw [htl]; unfold maxLen at hmax; omega⟩
    have hj' : j < len := by rw [htl] at hj; exact hj
    rw [hcell j (by omega)]
    simp [List.getD, List.getElem?_eq_getElem (show j < zs.length by omega)]

set_option maxRecDepth 100000 in
theorem exact_lifted (os : Os) (started : os.Started) (H : Type) (enc : TypeId × Value → H) :
    ReturnsInHanded {} Tryz.checked os 3 .any (fun w args => (Rows.onlineExactSpec.pre enc Tryz.prog Tryz.f3 [] false w args ∧ laidMetH Tryz.prog [("errors.errorType", Rows.laid_errors_errorType)] w) ∧ sizedMet enc Tryz.prog Tryz.f3 (OpenSpec.ofChange Rows.onlineExactSpec) false w args)
      (Rows.onlineExactSpec.post enc Tryz.prog Tryz.f3 false true false false) := by
  refine returnsInHanded_of_change_and (C := Tryz.checked) (X := fun w _ => laidMetH Tryz.prog [("errors.errorType", Rows.laid_errors_errorType)] w) (fun _ _ _ hh h => h.of_heap hh) Tryz.own started (by kernel_rfl) Tryz.func3
    (ChangeSpec.witness_at (enc := enc) (C := Tryz.checked) (os := os) (X := fun w _ => laidMetH Tryz.prog [("errors.errorType", Rows.laid_errors_errorType)] w) false (laidWorld os) #[.slice none 0 0, .slice none 0 0] 8 rfl (by kernel_rfl) (by kernel_rfl) (by kernel_rfl) (by kernel_rfl) (by kernel_rfl) (laidWorld_met os _)) ?_
  intro W base args ds gs before hval0 hW _ hsz0 hL _
  have hval : ∀ (j : Nat) t v, Tryz.f3.params[j]? = some t → args[j]? = some v → Value.okWide Tryz.prog W .any base t v := hval0
  have hW' := hW
  have hplace := hW.lt
  obtain ⟨p, q, hA0, hV0, rfl, hfz, hnd⟩ := hW
  have hA : DataW.TrodAll enc Tryz.prog W 0 (fun _ => true) true Tryz.f3.params.toList args.toList ds p := hA0
  have hV : DataW.TrodVars enc Tryz.prog W (fun _ => true) [] gs q := hV0
  rw [Tryz.params3] at hA hval
  obtain ⟨v0, v1, d0, d1, p0, p1, rfl, rfl, rfl, h0, h1⟩ := trodAll_two hA
  obtain ⟨rfl, rfl⟩ : gs = [] ∧ q = [] := by
    cases gs with
    | nil => exact ⟨rfl, hV⟩
    | cons g r => exact absurd hV (by intro h; cases h)
  have hsz : (DataW.weightsEach Tryz.prog [22, 23] [d0, d1]).all (· ≤ reachBytes) = true := by
    have h := hsz0
    rw [Tryz.params3] at h
    exact h
  obtain ⟨S, hS, hlS, hdS⟩ := open_servers_f (hval 0 22 v0 rfl rfl) h0
  have hrS := reach_servers hsz (j := 0) rfl rfl hdS
  obtain ⟨xs, hX, hlX⟩ := open_ints_at (hval 1 23 v1 rfl rfl) h1
  have hg := handle_of_laid hL
  refine (Ref.exact_any S v0 v1 xs W hS hrS hX hlX hg).mono fun e W' ⟨he, ho⟩ => ?_
  subst he
  have hB : Below W.heap.size W W' := ho.below
  have k0 := Below.trod Tryz.laidOut (by kernel_rfl) (of_decide_eq_true (by kernel_rfl)) h0 hB (fun x hx => hplace x (by simp [hx]))
  have k1 := Below.trod Tryz.laidOut (by kernel_rfl) (of_decide_eq_true (by kernel_rfl)) h1 hB (fun x hx => hplace x (by simp [hx]))
  refine ⟨_, rfl, _, _, _, [], p0 ++ p1, [], hW', ?_, ?_, ?_, keptBut_only ho _, fun h => by cases h⟩
  · exact trodAll_mk1 (shut_bool Tryz.underlying4 true)
  · exact trodAll_mk2 k0 k1
  · rfl

theorem exact_holds : Rows.OnlineExactSaid :=
  OpenClaim.holds_of_wide 3 Tryz.f3 rfl rfl rfl rfl rfl rfl rfl ⟨rfl, rfl, rfl, rfl, rfl⟩ rfl rfl rfl rfl rfl (by kernel_rfl) Tryz.func3 (by kernel_rfl)
    (of_decide_eq_true (by kernel_rfl)) (by unfold Func.isWrapper; rw [if_neg (of_decide_eq_false (by kernel_rfl))]; exact ⟨rfl, rfl⟩)
    (fun os started H enc _ => exact_lifted os started H enc)
#print axioms exact_holds
end Go.Proofs.YtlmnojbghgnniaaGreatDoor
