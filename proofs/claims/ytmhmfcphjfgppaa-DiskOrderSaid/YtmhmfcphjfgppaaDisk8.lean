/- Dirty: slices.Sorted(maps.Keys(d.dirty)): by the shelf's contracts. -/
import Derived.Test.YtmhmfcphjfgppaaDisk7
import Derived.Test.YtmhmfcphjfgppaaStep
import Derived.Test.YtmhmfcphjfgppaaShelf
namespace Go.Proofs.Ytmhmfcphjfgppaa
open Go.RowKit Go.Maps Go.Sort Go.Shelf Go.WideElems

theorem MapFn.owns {P : Program} {k : TypeId} {w : World} {b : Nat} {f : Value → Option Value} (h : MapFn P k w b f) (hk : P.underlying k = some (.int .i64)) (m : List Int) (hm : m.Nodup)
    (hf : ∀ x, (f x).isSome = true → ∃ n ∈ m, x = .int .i64 n) (hf' : ∀ n ∈ m, (f (.int .i64 n)).isSome = true) (hmax : m.length ≤ maxLen) :
    ∃ D0 : DataW Unit, w.ownsMap P k (fun _ => some (.nil, [])) b m.length D0 ∧ (intKeys D0).Perm m ∧ Maps.size D0 = m.length := by
  obtain ⟨es, clock, hb, hkey, hp, hfe, hst1, hst2⟩ := h
  have hint : ∀ e ∈ es.toList, ∃ x : Int, e.key = .int .i64 x ∧ WideElems.rd (H := Unit) P k (fun _ => some (.nil, [])) e = some (.int .i64 x, .nil) ∧ rg (H := Unit) P k (fun _ => some (.nil, [])) e = (.int .i64 x, .nil) := by
    intro e he
    obtain ⟨l, hl⟩ := hkey e he
    obtain ⟨x, h1, rfl, _⟩ := Maps.keyOf_i64 hk hl
    have hr : WideElems.rd (H := Unit) P k (fun _ => some (.nil, [])) e = some (.int .i64 x, .nil) := by simp [WideElems.rd, hl]
    exact ⟨x, h1, hr, by unfold rg; rw [hr]; rfl⟩
  have hL : ((es.toList.map (rg (H := Unit) P k (fun _ => some (.nil, [])))).map fun p => Go.intOf p.1).Perm m := by
    refine (List.perm_ext_iff_of_nodup ?_ hm).2 fun x => ?_
    · rw [List.map_map]
      refine List.pairwise_map.2 (hp.imp_of_mem fun {a c} ha hc hne e => hne ?_)
      obtain ⟨x, h1, _, h2⟩ := hint a ha
      obtain ⟨y, h3, _, h4⟩ := hint c hc
      simp only [Function.comp, h2, h4, Go.intOf] at e
      rw [h1, h3, e]
    · rw [List.map_map, List.mem_map]
      constructor
      · rintro ⟨e, he, rfl⟩
        obtain ⟨x, h1, _, h2⟩ := hint e he
        simp only [Function.comp, h2, Go.intOf]
        have := (hfe e.key e.val).2 ⟨e, he, rfl, rfl⟩
        obtain ⟨n, hn, hx⟩ := hf e.key (by rw [this]; rfl)
        rw [h1] at hx
        injection hx with _ hx
        rw [hx]; exact hn
      · intro hx
        have := hf' x hx
        obtain ⟨v, hv⟩ := Option.isSome_iff_exists.1 this
        obtain ⟨e, he, h3, _⟩ := (hfe _ _).1 hv
        obtain ⟨y, h1, _, h2⟩ := hint e he
        refine ⟨e, he, ?_⟩
        simp only [Function.comp, h2, Go.intOf]
        rw [h1] at h3
        injection h3
  have hlen : es.size = m.length := by
    have := hL.length_eq
    simpa using this
  refine ⟨_, ⟨es, clock, hb, ⟨by omega, ⟨hst1, hst2, ?_⟩, fun e he => ?_⟩, by omega, rfl⟩, ?_, ?_⟩
  · exact List.pairwise_map.2 hp
  · obtain ⟨x, _, h2, _⟩ := hint e he
    exact ⟨_, h2⟩
  · exact ((WideShapes.sorted_perm _).map _).trans hL
  · show List.length _ = _
    rw [length_sorted]
    simpa using hlen

/-- Which sectors the cache has, in order. -/
def dirtyL (d : Dk) : List Nat := (List.range d.secs.length).filter fun k => d.cache.any fun x => x.1 == k
theorem dirtyL_nodup (d : Dk) : ((dirtyL d).map fun (n : Nat) => (n : Int)).Nodup := by
  refine List.pairwise_map.2 ((List.nodup_range.sublist List.filter_sublist).imp fun {a b} h e => h ?_)
  omega
theorem dirtyL_sorted (d : Dk) : ((dirtyL d).map fun (n : Nat) => (n : Int)).mergeSort leI = (dirtyL d).map fun (n : Nat) => (n : Int) := by
  refine List.mergeSort_of_pairwise (List.pairwise_map.2 ?_)
  refine (List.pairwise_lt_range.sublist List.filter_sublist).imp fun {a b} h => ?_
  simp only [leI, decide_eq_true_eq]
  omega
theorem dirtyL_len (d : Dk) : (dirtyL d).length ≤ d.secs.length := by
  have := (List.filter_sublist (p := fun k => d.cache.any fun x => x.1 == k) (l := List.range d.secs.length)).length_le
  simpa [dirtyL] using this

theorem dirty_sorts (m : Nat) : AnyZI.SortsIn Try.prog Try.sortedA_ren Fence.wide m :=
  ⟨fun blk off cap ss W hH hblk hsz => callsIn_wide.2 (AnyM.slices_Sort_int Try.laysSlM5_f38 blk off cap ss W hH hblk hsz),
   fun p cap W => callsIn_wide.2 (AnyM.slices_Sort_int_none Try.laysSlM5_f38 p cap W)⟩

set_option maxHeartbeats 1000000 in
set_option maxRecDepth 100000 in
theorem dirty_any {w : World} {b sb mb : Nat} {cv : Value} {d : Dk} (h : IsDisk w b sb mb cv d) : Calls Try.prog 25 #[.pointer (some ⟨b, 0, none⟩)] w fun e w' => ∃ v, e = .returned v ∧
      w'.ownsRow w.heap.size 3 1 v (dirtyL d).length ((dirtyL d).map fun (n : Nat) => Value.int .i64 n) ∧ Below w.heap.size w w' := by
  have hfew := h.ok.few
  have hln := dirtyL_len d
  obtain ⟨D0, hown, hperm, hsize⟩ := h.dirty.owns Try.underlying3 ((dirtyL d).map fun (n : Nat) => (n : Int)) (dirtyL_nodup d) (by
    intro x hx
    by_cases hp : ∃ p ∈ d.cache, x = .int .i64 (p.1 : Nat)
    · obtain ⟨p, hp, rfl⟩ := hp
      refine ⟨_, List.mem_map.2 ⟨p.1, ?_, rfl⟩, rfl⟩
      unfold dirtyL
      rw [List.mem_filter, List.mem_range, List.any_eq_true]
      exact ⟨(h.ok.at_ p hp).1, p, hp, by simp⟩
    · rw [dirtyFn_neg hp] at hx; cases hx) (by
    intro n hn
    obtain ⟨k, hk, rfl⟩ := List.mem_map.1 hn
    unfold dirtyL at hk
    rw [List.mem_filter, List.any_eq_true] at hk
    obtain ⟨_, p, hp, hpk⟩ := hk
    rw [dirtyFn_pos ⟨p, hp, by rw [beq_iff_eq.1 hpk]⟩]; rfl) (by unfold maxLen; simp; omega)
  have hsl : Maps.size D0 ≤ 512 := by rw [hsize]; simp; omega
  have hd2 := dCell2 h.str
  have hsort : ∀ ss : List Int, ss.Perm (intKeys D0) → (ss.mergeSort fun x y => decide (x ≤ y)) = (dirtyL d).map fun (n : Nat) => (n : Int) := fun ss hs => (mergeSort_of_perm_i (hs.trans hperm)).trans (dirtyL_sorted d)
  have hlen : ∀ ss : List Int, ss.Perm (intKeys D0) → ss.length = (dirtyL d).length := fun ss hs => by rw [(hs.trans hperm).length_eq]; simp
  have HS := Lib.hid hsort
  have HL := Lib.hid hlen
  refine (callsIn_wide (n := 6)).1 ?_
  have hbl := hown.lt
  have hseq : SeqGives Fence.wide 2 Try.prog 39 #[.pointer (some ⟨w.heap.size, 0, none⟩)] encZ (fun ss => ss.Perm (intKeys D0)) (Maps.size D0) (w.alloc (.cells #[.map (some mb)] 59)) :=
    AnyZI.keys_gives (ρ := Try.keysA_ren) { Try.keysA with } Fence.wide _ trivial rfl (by omega) w.heap.size mb _ D0 _ (by simp) (by simp) (by
      obtain ⟨es, clock, hb, Ft, hs, hD⟩ := hown
      exact ⟨es, clock, (Below.heap_alloc _ _ mb hbl).trans hb, Ft, hs, hD⟩)
  have cK : ∀ m W, CallsIn Fence.wide 5 Try.prog 34 #[.map m] W fun e w' => e = .returned (.func (.func 39) #[] #[.pointer (some ⟨W.heap.size, 0, none⟩)]) ∧ w' = W.alloc (.cells #[.map m] 59) := fun m W => AnyZI.keys_in Try.keysA Fence.wide 5 trivial rfl m W
  have cS := AnyZI.sorted_in Try.sortedA Fence.wide 5 trivial trivial trivial trivial rfl (by omega) (dirty_sorts _) (enters_of Try.func38 (by kernel_rfl) rfl) 39 #[.pointer (some ⟨w.heap.size, 0, none⟩)] trivial (enters_of Try.func39 (by kernel_rfl) rfl) _ _ (by unfold maxLen; omega) (by omega) _ hseq
  change CallsIn _ _ Try.prog 33 _ _ _ at cS
  have hfK : Fence.wide.fn 34 := trivial
  have hfS : Fence.wide.fn 33 := trivial
  clear hseq hown hperm hsize hsl hsort hlen hbl hln hfew h
  refine callsIn_of_wp Try.func25 rfl trivial ?_ rfl
  simp only [Try.ntmps25, List.size_toArray, List.length_cons, List.length_nil, Nat.reduceAdd, Nat.reduceSub, Array.replicate_succ, Array.replicate_zero, List.push_toArray, List.append_toArray, List.nil_append, List.cons_append]
  gi_wp2_with (first
    | (gi_at_call 34; refine (cK _ _).mono ?_; rintro e w' ⟨rfl, rfl⟩)
    | (gi_at_call 33; refine cS.mono ?_; rintro e w' ⟨v, ss, rfl, hS, hrow, hnil, hb⟩))
  go_ret
  refine ⟨v, rfl, ?_, ((Below.refl _ w).alloc (Nat.le_refl _) _).trans (hb.mono (by simp))⟩
  have hr : w'.ownsRow w.heap.size 3 1 v ss.length ((ss.mergeSort fun x y => decide (x ≤ y)).map encZ) := ownsRow_base_a hrow (by simp)
  rw [HS.out ss hS, HL.out ss hS, List.map_map] at hr
  exact hr
end Go.Proofs.Ytmhmfcphjfgppaa
