/- OnlineApart: the row. -/
import Derived.Test.YtlmnojbghgnniaaDoorFrameF
import Derived.Test.YtlmnojbghgnniaaDoorApart
namespace Go.Proofs.YtlmnojbghgnniaaDoor
open Go.ChangeShapes Go.WideShapes Go.ChangeAt Go.RowKit Go.Deep Bulk

set_option maxRecDepth 100000 in
theorem open_ints_at {H : Type} {enc : TypeId × Value → H} {W : World} {base : Nat} {v : Value} {d : DataW H} {p : List MemPlace} (hv : Value.okWide Tryd.prog W .any base 29 v)
    (h : DataW.Trod enc Tryd.prog W 0 (fun _ => true) true 29 v d p) : ∃ xs : List Int, Ch.IntsAt W v xs ∧ xs.length ≤ 9223372036854775807 := by
  obtain ⟨fuel, hf⟩ := h
  obtain ⟨pa, n, c, rfl⟩ := okWide_slice Tryd.underlying29 hv
  rcases open_ints Tryd.underlying29 Tryd.underlying3 (by kernel_rfl) hf with ⟨hcs, _⟩ | ⟨a, len, cap, zs, hcs, _, hlen, hmax, hzs, _, hcell, _⟩
  · have hvn : Value.slice pa n c = .slice none 0 0 := by simpa [Value.cells] using hcs
    refine ⟨[], ⟨none, 0, hvn, fun j hj => ?_⟩, Nat.zero_le _⟩
    exact absurd hj (Nat.not_lt_zero j)
  · have hvn : Value.slice pa n c = .slice (some a) len cap := by simpa [Value.cells] using hcs
    have hl : len ≤ zs.length := by rw [hzs]; split <;> omega
    have htl : (zs.take len).length = len := by simp; omega
    refine ⟨zs.take len, ⟨some a, cap, by rw [hvn, htl], fun j hj => ⟨a, rfl, ?_⟩⟩, by rw [htl]; unfold maxLen at hmax; omega⟩
    have hj' : j < len := by rw [htl] at hj; exact hj
    rw [hcell j (by omega)]
    simp [List.getD, List.getElem?_eq_getElem (show j < zs.length by omega)]

set_option maxRecDepth 100000 in
theorem apart_lifted (os : Os) (started : os.Started) (H : Type) (enc : TypeId × Value → H) :
    ReturnsInHanded {} Tryd.checked os 6 .any (fun w args => (Rows.onlineApartSpec.pre enc Tryd.prog Tryd.f6 [] false w args ∧ laidMetH Tryd.prog [("errors.errorType", Rows.laid_errors_errorType)] w) ∧ sizedMet enc Tryd.prog Tryd.f6 (OpenSpec.ofChange Rows.onlineApartSpec) false w args)
      (Rows.onlineApartSpec.post enc Tryd.prog Tryd.f6 false true false false) := by
  refine returnsInHanded_of_change_and (C := Tryd.checked) (X := fun w _ => laidMetH Tryd.prog [("errors.errorType", Rows.laid_errors_errorType)] w) (fun _ _ _ hh h => h.of_heap hh) Tryd.own started (by kernel_rfl) Tryd.func6
    (ChangeSpec.witness_at (enc := enc) (C := Tryd.checked) (os := os) (X := fun w _ => laidMetH Tryd.prog [("errors.errorType", Rows.laid_errors_errorType)] w) false (laidWorld os) #[.slice none 0 0, .slice none 0 0, .slice none 0 0] 8 rfl (by kernel_rfl) (by kernel_rfl) (by kernel_rfl) (by kernel_rfl) (by kernel_rfl) (laidWorld_met os _)) ?_
  intro W base args ds gs before hval0 hW _ hsz0 hL _
  have hval : ∀ (j : Nat) t v, Tryd.f6.params[j]? = some t → args[j]? = some v → Value.okWide Tryd.prog W .any base t v := hval0
  have hW' := hW
  have hplace := hW.lt
  obtain ⟨p, q, hA0, hV0, rfl, hfz, hnd⟩ := hW
  have hA : DataW.TrodAll enc Tryd.prog W 0 (fun _ => true) true Tryd.f6.params.toList args.toList ds p := hA0
  have hV : DataW.TrodVars enc Tryd.prog W (fun _ => true) [] gs q := hV0
  rw [Tryd.params6] at hA hval
  obtain ⟨v0, v1, v2, d0, d1, d2, p0, p1, p2, rfl, rfl, rfl, h0, h1, h2⟩ := trodAll_three hA
  obtain ⟨rfl, rfl⟩ : gs = [] ∧ q = [] := by
    cases gs with
    | nil => exact ⟨rfl, hV⟩
    | cons g r => exact absurd hV (by intro h; cases h)
  have hsz : (DataW.weightsEach Tryd.prog [22, 22, 29] [d0, d1, d2]).all (· ≤ reachBytes) = true := by
    have h := hsz0
    rw [Tryd.params6] at h
    exact h
  obtain ⟨S1, hS1, hl1, hd1⟩ := open_servers_f (hval 0 22 v0 rfl rfl) h0
  obtain ⟨S2, hS2, hl2, hd2⟩ := open_servers_f (hval 1 22 v1 rfl rfl) h1
  obtain ⟨xs, hX, hlX⟩ := open_ints_at (hval 2 29 v2 rfl rfl) h2
  have hr1 := reach_servers hsz (j := 0) rfl rfl hd1
  have hg := handle_of_laid hL
  refine (On.apart_any S1 S2 v0 v1 v2 xs W hS1 hr1 hS2.sat hl2 hX hlX hg).mono fun e W' ⟨he, ho⟩ => ?_
  subst he
  have hB : Below W.heap.size W W' := ho.below
  have k0 := Below.trod Tryd.laidOut (by kernel_rfl) (of_decide_eq_true (by kernel_rfl)) h0 hB (fun x hx => hplace x (by simp [hx]))
  have k1 := Below.trod Tryd.laidOut (by kernel_rfl) (of_decide_eq_true (by kernel_rfl)) h1 hB (fun x hx => hplace x (by simp [hx]))
  have k2 := Below.trod Tryd.laidOut (by kernel_rfl) (of_decide_eq_true (by kernel_rfl)) h2 hB (fun x hx => hplace x (by simp [hx]))
  refine ⟨_, rfl, _, _, _, [], p0 ++ (p1 ++ p2), [], hW', ?_, ?_, ?_, keptBut_only ho _, fun h => by cases h⟩
  · exact trodAll_mk1 (shut_bool Tryd.underlying4 true)
  · exact trodAll_mk3 k0 k1 k2
  · rfl

theorem apart_holds : Rows.OnlineApartSaid :=
  OpenClaim.holds_of_wide 6 Tryd.f6 rfl rfl rfl rfl rfl rfl rfl ⟨rfl, rfl, rfl, rfl, rfl⟩ rfl rfl rfl rfl rfl (by kernel_rfl) Tryd.func6 (by kernel_rfl)
    (of_decide_eq_true (by kernel_rfl)) (by unfold Func.isWrapper; rw [if_neg (of_decide_eq_false (by kernel_rfl))]; exact ⟨rfl, rfl⟩)
    (fun os started H enc _ => apart_lifted os started H enc)
#print axioms apart_holds
end Go.Proofs.YtlmnojbghgnniaaDoor
