/- DiskStays: the law. -/
import Derived.Test.YtmhmfcphjfgppaaDiskStaysA
import Derived.Test.YtmhmfcphjfgppaaDiskStaysB
import Derived.Test.YtmhmfcphjfgppaaDiskStaysC
import Derived.Test.YtmhmfcphjfgppaaDiskStaysD
namespace Go.Proofs.Ytmhmfcphjfgppaa
open Go.ChangeShapes Go.WideShapes Go.ChangeAt Go.RowKit Go.ChangeMaps


theorem diskStays_walk (v0 v1 v2 : Value) (ahead behind : List Int) (fs : List (Int × Int)) (W : World) (h0 : IntsAt W v0 ahead) (h1 : IntsAt W v1 behind) (h2 : FatesAt W v2 fs) :
    Calls Try.prog 6 #[v0, v1, v2] W fun e w' => e = .returned (.bool true) ∧ Below W.heap.size W w' := by
  rcases Nat.lt_or_ge 12 ahead.length with l0 | l0
  · rcases Nat.lt_or_ge 12 behind.length with l1 | l1
    · exact diskStays_walkD v0 v1 v2 ahead behind fs W h0 h1 h2 l0 l1
    · exact diskStays_walkC v0 v1 v2 ahead behind fs W h0 h1 h2 l0 l1
  · rcases Nat.lt_or_ge 12 behind.length with l1 | l1
    · exact diskStays_walkB v0 v1 v2 ahead behind fs W h0 h1 h2 l0 l1
    · exact diskStays_walkA v0 v1 v2 ahead behind fs W h0 h1 h2 l0 l1
namespace DiskStays
theorem params : ∀ t ∈ Try.f6.params.toList, Try.prog.readableRec t = true ∧ t < Try.prog.types.size := by
  have h : (Try.f6.params.toList.all fun t => Try.prog.readableRec t && decide (t < Try.prog.types.size)) = true := by kernel_rfl
  intro t ht
  have := List.all_eq_true.1 h t ht
  simpa using this
set_option maxRecDepth 100000 in
theorem lifted (os : Os) (started : os.Started) (H : Type) (enc : TypeId × Value → H) :
    ReturnsInHanded {} Try.checked os 6 .any (Rows.diskStaysSpec.pre6 enc Try.prog Try.f6 Rows.diskStaysRow.domain false) (Rows.diskStaysSpec.post enc Try.prog Try.f6 false true false false) := by
  refine returnsInHanded_of_change (C := Try.checked) Try.own started (by kernel_rfl) Try.func6
    (ChangeSpec.witness6 (enc := enc) (C := Try.checked) false ⟨#[], #[.slice none 0 0, .slice none 0 0, .slice none 0 0], []⟩ 8 (by kernel_rfl) (by kernel_rfl) (by kernel_rfl) (by kernel_rfl)) ?_
  intro W base args ds gs before hval0 hW hcnd _
  have hval : ∀ (j : Nat) t v, Try.f6.params[j]? = some t → args[j]? = some v → Value.okWide Try.prog W .any base t v := hval0
  have hW' := hW
  obtain ⟨p, q, hA0, hV, rfl, hfz, hnd⟩ := hW
  have hA : DataW.TrodAll enc Try.prog W 0 (fun _ => true) true Try.f6.params.toList args.toList ds p := hA0
  rw [Try.params6] at hA hval
  obtain ⟨v0, v1, v2, d0, d1, d2, p0, p1, p2, rfl, rfl, rfl, h0, h1, h2⟩ := trodAll_three hA
  obtain ⟨rfl, rfl⟩ := trodVars_none hV
  obtain ⟨_, _, _, rfl⟩ := okWide_slice Try.underlying22 (hval 0 22 v0 rfl rfl)
  obtain ⟨_, _, _, rfl⟩ := okWide_slice Try.underlying22 (hval 1 22 v1 rfl rfl)
  obtain ⟨_, _, _, rfl⟩ := okWide_slice Try.underlying41 (hval 2 41 v2 rfl rfl)
  obtain ⟨xs, hxs, _⟩ := open_intsAt Try.underlying22 Try.underlying3 (by kernel_rfl) h0 rfl
  obtain ⟨ys, hys, _⟩ := open_intsAt Try.underlying22 Try.underlying3 (by kernel_rfl) h1 rfl
  obtain ⟨fs, hfs⟩ := open_fatesAt Try.underlying41 Try.underlying56 (by kernel_rfl) rfl rfl (by kernel_rfl) (by kernel_rfl) Try.underlying3 Try.underlying3 h2 rfl
  refine (diskStays_walk _ _ _ xs ys fs W hxs hys hfs).mono fun e W' ⟨he, hb⟩ => ?_
  subst he
  exact ⟨_, rfl, law_end Try.laidOut params rfl Try.underlying4 rfl hW' rfl rfl rfl hb⟩
theorem holds : Rows.DiskStaysSaid :=
  OpenClaim.holds_of_wide 6 Try.f6 rfl rfl rfl rfl rfl rfl rfl ⟨rfl, rfl, rfl, rfl, rfl⟩ rfl rfl rfl rfl rfl (by kernel_rfl) Try.func6 (by kernel_rfl)
    (of_decide_eq_true (by kernel_rfl)) (by unfold Func.isWrapper; first | (rw [if_pos (by decide +kernel)]; kernel_rfl) | (rw [if_neg (by decide +kernel)]; exact ⟨rfl, rfl⟩))
    (fun os started H enc _ => lifted os started H enc)
end DiskStays
end Go.Proofs.Ytmhmfcphjfgppaa
