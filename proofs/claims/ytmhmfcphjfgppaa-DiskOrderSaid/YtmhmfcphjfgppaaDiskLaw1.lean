/- The plain laws of a disk, and the way it goes on; fill. -/
import Derived.Test.YtmhmfcphjfgppaaDisk6
import Derived.Test.YtmhmfcphjfgppaaLaw
namespace Go.Proofs.Ytmhmfcphjfgppaa
open Go.RowKit Go.ChangeShapes Go.WideShapes

/-! ### plain -/
theorem lastOf_nil (k : Nat) : lastOf [] k = none := rfl
theorem lastOf_snoc (c : List Wr) (x : Wr) (k : Nat) : lastOf (c ++ [x]) k = if x.1 = k then some x.2 else lastOf c k := by
  unfold lastOf
  rw [List.reverse_append, List.reverse_singleton, List.singleton_append, List.find?_cons]
  by_cases h : x.1 = k
  · simp [h]
  · have : (x.1 == k) = false := by simp [h]
    rw [this, if_neg h]
theorem lastOf_cons (c : List Wr) (x : Wr) (k : Nat) : lastOf (x :: c) k = (lastOf c k).or (if x.1 = k then some x.2 else none) := by
  unfold lastOf
  rw [List.reverse_cons, List.find?_append]
  cases h : c.reverse.find? (fun x => x.1 == k) with
  | some y => simp
  | none =>
    by_cases e : x.1 = k
    · simp [e]
    · have : (x.1 == k) = false := by simp [e]
      simp [this, e]
theorem syncSecs_get (c : List Wr) : ∀ (secs : List (List UInt8)), (∀ x ∈ c, x.1 < secs.length) → ∀ k, (syncSecs secs c).getD k [] = (lastOf c k).getD (secs.getD k []) := by
  induction c with
  | nil => intro _ _ k; rfl
  | cons x c ih =>
    intro secs h k
    have hx := h x (by simp)
    have ih' := ih (secs.set x.1 x.2) (fun y hy => by rw [List.length_set]; exact h y (by simp [hy])) k
    simp only [syncSecs, List.foldl_cons] at ih' ⊢
    rw [ih', lastOf_cons]
    cases hl : lastOf c k with
    | some s => simp
    | none =>
      by_cases e : x.1 = k
      · subst e
        simp [List.getD, hx]
      · simp [List.getD, List.getElem?_set, e]
theorem read_write {d : Dk} {n : Nat} {s : List UInt8} (k : Nat) : (d.write n s).read k = if n = k then s else d.read k := by
  simp only [Dk.read, Dk.write, Dk.works, lastOf_snoc]
  split <;> rfl
theorem read_works {d : Dk} (k : Nat) : d.works.read k = d.read k := rfl
theorem read_sync {d : Dk} (h : d.Ok) (k : Nat) : d.sync.read k = d.read k := by
  simp only [Dk.read, Dk.sync, lastOf_nil, Option.getD_none]
  exact syncSecs_get _ _ (fun x hx => (h.at_ x hx).1) k

/-! ### how a disk goes on -/
/-- The disk d lies at b, sb, mb, all of it from block B on; below B nothing has turned since w0. -/
def DkAt (B : Nat) (w0 w : World) (b sb mb : Nat) (d : Dk) : Prop := ∃ cv, IsDisk w b sb mb cv d ∧ (∀ k, dkOwn b sb mb cv k → B ≤ k) ∧ Below B w0 w

section
variable {B b sb mb : Nat} {w0 w w' : World} {d d' : Dk} {cv : Value}
theorem DkTo.at (h : DkTo w w' b sb mb cv d') (hB : ∀ k, dkOwn b sb mb cv k → B ≤ k) (hb : Below B w0 w) (h0 : B ≤ w0.heap.size) : DkAt B w0 w' b sb mb d' := by
  obtain ⟨cv', h1, h2, h3⟩ := h
  refine ⟨cv', h1, ?_, hb.trans (h2.below (fun k _ hk => hB k hk) (Nat.le_trans h0 hb.size))⟩
  intro k hk
  rcases hk with rfl | rfl | rfl | hk
  · exact hB _ (.inl rfl)
  · exact hB _ (.inr (.inl rfl))
  · exact hB _ (.inr (.inr (.inl rfl)))
  · rcases h3 k hk with h | h
    · exact hB _ (.inr (.inr (.inr h)))
    · exact Nat.le_trans (Nat.le_trans h0 hb.size) h
theorem DkAt.more (h : DkAt B w0 w b sb mb d) (hb : Below w.heap.size w w') (h0 : B ≤ w0.heap.size) : DkAt B w0 w' b sb mb d := by
  obtain ⟨cv, h1, h2, h3⟩ := h
  exact ⟨cv, h1.keep (fun k hk => hb.block k (dkOwn_lt h1 hk)), h2, h3.trans (hb.mono (Nat.le_trans h0 h3.size))⟩
/-- A block of cells that is none of a disk's lies on. -/
theorem DkTo.blk {g : Nat} {t : TypeId} {cs : Array Value} (h : DkTo w w' b sb mb cv d') (hd : IsDisk w b sb mb cv d) (hg : Blk w g t cs) (h1 : t ≠ tDisk) (h2 : t ≠ tSector) (h3 : t ≠ tWrite) : Blk w' g t cs := by
  obtain ⟨cv', _, hf, _⟩ := h
  refine hg.frm hf ?_
  rintro (rfl | rfl | rfl | hk)
  · exact Blk.ne hg hd.str h1 rfl
  · exact Blk.ne hg hd.secs h2 rfl
  · exact (hd.dirty.ne_blk hg) rfl
  · exact own_ne hd.cache hg (fun e => h3 e.symm) hk
end

/-! ### fill -/
def fillB (c : UInt8) : List UInt8 := List.replicate 128 c
theorem fillB_length (c : UInt8) : (fillB c).length = 128 := by simp [fillB]
def fillCells (c : UInt8) (k : Nat) : List Value := List.replicate k (Value.int .u8 c.toNat) ++ List.replicate (128 - k) (Value.int .u8 0)
theorem fillCells_set (c : UInt8) (k : Nat) (h : k < 128) : (fillCells c k).toArray.setIfInBounds k (.int .u8 c.toNat) = (fillCells c (k + 1)).toArray := by
  unfold fillCells
  rw [List.setIfInBounds_toArray]
  congr 1
  rw [List.set_append_right _ _ (by simp)]
  simp only [List.length_replicate, Nat.sub_self]
  obtain ⟨m, hm⟩ : ∃ m, 128 - k = m + 1 := ⟨127 - k, by omega⟩
  rw [hm, show 128 - (k+1) = m by omega, List.replicate_succ, List.set_cons_zero, List.replicate_succ', List.append_assoc]
  rfl
theorem fillCells_get (c : UInt8) (k : Nat) (h : k < 128) : ∃ v, (fillCells c k)[k]? = some v := by
  have hs : k < (fillCells c k).length := by simp [fillCells]; omega
  exact ⟨_, List.getElem?_eq_getElem hs⟩
theorem fillCells_all (c : UInt8) : fillCells c 128 = byteCells (fillB c) := by simp [fillCells, fillB, byteCells]
set_option maxRecDepth 100000 in
theorem make128 (w : World) : (Instr.makeSlice 67 (.int .i64 128) (.int .i64 128)).run Try.prog w = .ok (.slice (some ⟨w.heap.size, 0, none⟩) 128 128) (w.alloc (.cells (fillCells 0 0).toArray 5)) := by
  kernel_rfl
theorem fill0 (c : UInt8) : fillCells 0 0 = fillCells c 0 := by simp [fillCells]

set_option maxHeartbeats 400000 in
set_option maxRecDepth 100000 in
theorem fill_any (n : Int) (c : UInt8) (hn : n = (c.toNat : Int)) (w : World) :
    Calls Try.prog 12 #[.int .u8 n] w fun e w' => e = .returned (.string (strOf (fillB c))) ∧ Below w.heap.size w w' := by
  subst hn
  have hmk := make128
  rw [fill0 c] at hmk
  go_enter Try.func12, Try.ntmps12
  go_wp2
  go_loopw [4] (fun i wr => ∃ k : Nat, k ≤ 128 ∧ i = .int .i64 k ∧ wr = w.alloc (.cells (fillCells c k).toArray 5)) (fun i _ => 128 - (intOf i).toNat)
  case atStart => exact ⟨0, by omega, rfl, rfl⟩
  case round =>
    obtain ⟨k, hk, rfl, rfl⟩ := hrel
    by_cases hlt : k < 128
    · obtain ⟨v, hv⟩ := fillCells_get c k hlt
      have hs := fillCells_set c k hlt
      clear hmk
      go_wp2
      go_roundw
      case rel => exact ⟨k + 1, by omega, by go_num, rfl⟩
      case measure => simp [intOf]; omega
    · obtain rfl : k = 128 := by omega
      have hcv := run_bytes_str (P := Try.prog) (w := w.alloc (.cells (fillCells c 128).toArray 5)) (cap := 128) (Blk.new _ _ _) (s := fillB c) (off := 0) (by rw [fillCells_all]; exact bytes_whole _) Try.underlying67 Try.underlying5 Try.underlying9
      rw [fillB_length] at hcv
      clear hmk
      go_wp2
      go_ret
      exact ⟨rfl, (Below.refl _ _).alloc (Nat.le_refl _) _⟩
end Go.Proofs.Ytmhmfcphjfgppaa
