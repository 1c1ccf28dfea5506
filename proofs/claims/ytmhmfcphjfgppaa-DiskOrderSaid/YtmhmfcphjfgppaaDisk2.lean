/- What a disk is in memory; New makes one. -/
import Derived.Test.YtmhmfcphjfgppaaDisk1
namespace Go.Proofs.Ytmhmfcphjfgppaa
open Go.RowKit

def zsec : List UInt8 := List.replicate 128 0

/-- A disk as data. -/
structure Dk where
  secs : List (List UInt8)
  cache : List (Nat × List UInt8)
  left : Int
  broken : Bool

def secCells (l : List (List UInt8)) : List Value := l.flatMap byteCells
def writeCells (x : Nat × List UInt8) : List Value := .int .i64 x.1 :: byteCells x.2
def cacheCells (c : List (Nat × List UInt8)) : List Value := c.flatMap writeCells
noncomputable def dirtyFn (c : List (Nat × List UInt8)) : Value → Option Value := fun x => by
  classical exact if ∃ p ∈ c, x = .int .i64 (p.1 : Nat) then some (.bool true) else none

structure Dk.Ok (d : Dk) : Prop where
  few : d.secs.length ≤ 512
  some_ : 1 ≤ d.secs.length
  whole : ∀ s ∈ d.secs, s.length = 128
  at_ : ∀ x ∈ d.cache, x.1 < d.secs.length ∧ x.2.length = 128
  left0 : 0 ≤ d.left
  left1 : d.left ≤ 9223372036854775807
  small : d.cache.length ≤ 1048576

/-- The disk d lies at the blocks b (its struct), sb (its sectors), mb (its map), and its cache is the slice cv. -/
structure IsDisk (w : World) (b sb mb : Nat) (cv : Value) (d : Dk) : Prop where
  ok : d.Ok
  str : Blk w b tDisk (dCells (.slice (some ⟨sb, 0, none⟩) d.secs.length d.secs.length) cv (.map (some mb)) d.left d.broken)
  secs : Blk w sb tSector (secCells d.secs).toArray
  cache : w.ownsRow 0 tWrite 129 cv d.cache.length (cacheCells d.cache)
  dirty : MapFn Try.prog 3 w mb (dirtyFn d.cache)

/-- The blocks of a disk. -/
def dkOwn (b sb mb : Nat) (cv : Value) : Nat → Prop := fun k => k = b ∨ k = sb ∨ k = mb ∨ cv.ownBlock = some k

theorem dirtyFn_pos {c : List (Nat × List UInt8)} {x : Value} (h : ∃ p ∈ c, x = .int .i64 (p.1 : Nat)) : dirtyFn c x = some (.bool true) := by unfold dirtyFn; exact if_pos h
theorem dirtyFn_neg {c : List (Nat × List UInt8)} {x : Value} (h : ¬ ∃ p ∈ c, x = .int .i64 (p.1 : Nat)) : dirtyFn c x = none := by unfold dirtyFn; exact if_neg h
theorem dirtyFn_nil : dirtyFn [] = fun _ => none := by funext x; simp [dirtyFn]
theorem secCells_length (l : List (List UInt8)) (h : ∀ s ∈ l, s.length = 128) : (secCells l).length = l.length * 128 := by
  induction l with
  | nil => rfl
  | cons a l ih =>
    have ha := h a (by simp)
    have ih' := ih (fun s hs => h s (by simp [hs]))
    simp only [secCells, List.flatMap_cons, List.length_append, byteCells_length] at ih' ⊢
    rw [ha, ih', List.length_cons]; omega
theorem secCells_zero (n : Nat) : secCells (List.replicate n zsec) = List.replicate (n * 128) (Value.int .u8 0) := by
  induction n with
  | zero => rfl
  | succ n ih =>
    simp only [secCells] at ih ⊢
    rw [List.replicate_succ, List.flatMap_cons, ih]
    simp only [zsec, byteCells, List.map_replicate]
    rw [show ((0 : UInt8).toNat : Int) = 0 from rfl, List.replicate_append_replicate]
    congr 1; omega

theorem dkOwn_lt {w : World} {b sb mb : Nat} {cv : Value} {d : Dk} (h : IsDisk w b sb mb cv d) {k : Nat} (hk : dkOwn b sb mb cv k) : k < w.heap.size := by
  rcases hk with rfl | rfl | rfl | hk
  · exact h.str.lt
  · exact h.secs.lt
  · exact h.dirty.lt
  · exact own_lt h.cache hk
theorem IsDisk.keep {w w' : World} {b sb mb : Nat} {cv : Value} {d : Dk} (h : IsDisk w b sb mb cv d) (hk : ∀ k, dkOwn b sb mb cv k → w'.heap[k]? = w.heap[k]?) : IsDisk w' b sb mb cv d where
  ok := h.ok
  str := (hk b (.inl rfl)).trans h.str
  secs := (hk sb (.inr (.inl rfl))).trans h.secs
  cache := own_keep h.cache fun g hg => hk g (.inr (.inr (.inr hg)))
  dirty := h.dirty.keep (hk mb (.inr (.inr (.inl rfl))))
theorem IsDisk.frm {S : Nat → Prop} {w w' : World} {b sb mb : Nat} {cv : Value} {d : Dk} (h : IsDisk w b sb mb cv d) (hf : Frm S w w') (hn : ∀ k, dkOwn b sb mb cv k → ¬ S k) : IsDisk w' b sb mb cv d :=
  h.keep fun k hk => hf.block k (dkOwn_lt h hk) (hn k hk)
theorem IsDisk.alloc {w : World} {b sb mb : Nat} {cv : Value} {d : Dk} (h : IsDisk w b sb mb cv d) (o : Obj) : IsDisk (w.alloc o) b sb mb cv d :=
  h.keep fun k hk => heap_alloc_old w o (dkOwn_lt h hk)

/-- From w to w' the disk at b goes on to d'; nothing else that was there turns. -/
def DkTo (w w' : World) (b sb mb : Nat) (cv : Value) (d' : Dk) : Prop :=
  ∃ cv', IsDisk w' b sb mb cv' d' ∧ Frm (dkOwn b sb mb cv) w w' ∧ ∀ g, cv'.ownBlock = some g → cv.ownBlock = some g ∨ w.heap.size ≤ g

def Dk.works (d : Dk) : Dk := { d with left := leftN d.left, broken := brokeN d.left d.broken }
def Dk.write (d : Dk) (at' : Nat) (s : List UInt8) : Dk := { d.works with cache := d.cache ++ [(at', s)] }
theorem Dk.works_ok {d : Dk} (h : d.Ok) : d.works.Ok :=
  ⟨h.few, h.some_, h.whole, h.at_, by have := h.left0; simp only [works, leftN]; split <;> omega, by have := h.left1; simp only [works, leftN]; split <;> omega, h.small⟩
theorem Dk.write_ok {d : Dk} (h : d.Ok) {at' : Nat} {s : List UInt8} (hat : at' < d.secs.length) (hs : s.length = 128) (hr : d.cache.length < 1048576) : (d.write at' s).Ok := by
  have hw := Dk.works_ok h
  refine ⟨h.few, h.some_, h.whole, ?_, hw.left0, hw.left1, by simp [write]; omega⟩
  intro x hx
  simp only [write, List.mem_append, List.mem_singleton] at hx
  rcases hx with hx | rfl
  · exact h.at_ x hx
  · exact ⟨hat, hs⟩
theorem DkTo.worked {w w1 : World} {b sb mb : Nat} {cv : Value} {d : Dk} (h : IsDisk w b sb mb cv d)
    (hb : Blk w1 b tDisk (dCells (.slice (some ⟨sb, 0, none⟩) d.secs.length d.secs.length) cv (.map (some mb)) (leftN d.left) (brokeN d.left d.broken))) (hf : Frm (· = b) w w1) : DkTo w w1 b sb mb cv d.works :=
  ⟨cv, ⟨Dk.works_ok h.ok, hb, h.secs.frm hf (Blk.ne h.secs h.str (by decide)), own_frm h.cache hf (fun g hg e => own_ne h.cache h.str (by decide) (by rw [hg, e])), h.dirty.frm hf (h.dirty.ne_blk h.str)⟩,
   hf.mono (fun _ _ hk => .inl hk), fun _ hg => .inl hg⟩
theorem cacheCells_snoc (c : List (Nat × List UInt8)) (x : Nat × List UInt8) : cacheCells (c ++ [x]) = cacheCells c ++ writeCells x := by simp [cacheCells]
theorem dirtyFn_snoc (c : List (Nat × List UInt8)) (n : Nat) (s : List UInt8) : putFn (dirtyFn c) (.int .i64 (n : Int)) (.bool true) = dirtyFn (c ++ [(n, s)]) := by
  funext x
  by_cases hx : x = .int .i64 (n : Int)
  · subst hx
    rw [putFn_same, dirtyFn_pos ⟨(n, s), by simp, rfl⟩]
  · rw [putFn_other _ _ hx]
    by_cases h : ∃ p ∈ c, x = .int .i64 (p.1 : Nat)
    · obtain ⟨p, hp, h'⟩ := h
      rw [dirtyFn_pos ⟨p, hp, h'⟩, dirtyFn_pos ⟨p, by simp [hp], h'⟩]
    · rw [dirtyFn_neg h, dirtyFn_neg]
      rintro ⟨p, hp, h'⟩
      simp only [List.mem_append, List.mem_singleton] at hp
      rcases hp with hp | rfl
      · exact h ⟨p, hp, h'⟩
      · exact hx h'

theorem infoSector : (Try.prog.info? tSector).map (fun i => (i.zero, i.size, i.bytes)) = some (some (.agg (Array.replicate 128 (.int .u8 0))), 128, 128) := by kernel_rfl
theorem infoWrite : (Try.prog.info? tWrite).map (fun i => (i.zero, i.size, i.bytes)) = some (some (.agg (#[Value.int .i64 0] ++ Array.replicate 128 (.int .u8 0))), 129, 136) := by kernel_rfl

theorem madeCells_const (v : Value) (m n : Nat) (hm : 0 < m) : madeCells (Array.replicate m v) n = (List.replicate n v).toArray := by
  apply Array.ext
  · simp [madeCells]
  · intro i h1 h2
    have : i % m < m := Nat.mod_lt _ hm
    simp [madeCells, this]

theorem make_sectors (n : Nat) (hn : n ≤ 512) (w : World) : (Instr.makeSlice 58 (.int .i64 (n : Int)) (.int .i64 (n : Int))).run Try.prog w =
    .ok (.slice (some ⟨w.heap.size, 0, none⟩) n n) (w.alloc (.cells (secCells (List.replicate n zsec)).toArray tSector)) := by
  obtain ⟨i0, hi, hz0, hz1, hz2⟩ := info_parts infoSector
  have h := run_make (P := Try.prog) w 58 tSector i0 _ Try.underlying58 hi hz0 .i64 .i64 n n (by omega) (by omega) (by rw [hz2]; omega) (by omega)
  rw [h, hz1]
  simp only [Int.toNat_natCast, Value.cells]
  rw [madeCells_const _ _ _ (by decide), secCells_zero]

set_option maxHeartbeats 400000 in
theorem new_bad (n : Int) (w : World) (h : n < 1 ∨ 512 < n) : Calls Try.prog 10 #[.int .i64 n] w fun e w' => e = .returned (.pointer none) ∧ w = w' := by
  rcases h with h | h
  · go_enter Try.func10, Try.ntmps10
    go_wp2
    go_ret
    exact ⟨rfl, rfl⟩
  · have h' : ¬ n < 1 := by omega
    go_enter Try.func10, Try.ntmps10
    go_wp2
    go_ret
    exact ⟨rfl, rfl⟩

def newDk (n : Nat) : Dk := ⟨List.replicate n zsec, [], 0, false⟩
set_option maxHeartbeats 400000 in
theorem new_any (n : Int) (w : World) (h1 : 1 ≤ n) (h2 : n ≤ 512) : Calls Try.prog 10 #[.int .i64 n] w fun e w' =>
    e = .returned (.pointer (some ⟨w.heap.size + 2, 0, none⟩)) ∧ IsDisk w' (w.heap.size + 2) w.heap.size (w.heap.size + 1) (.slice none 0 0) (newDk n.toNat) ∧ Below w.heap.size w w' := by
  obtain ⟨m, rfl⟩ := Int.eq_ofNat_of_zero_le (show 0 ≤ n by omega)
  have hmk := make_sectors m (by omega)
  have hmm := @run_makeMap Try.prog
  go_enter Try.func10, Try.ntmps10
  go_wp2
  go_ret
  refine ⟨rfl, ⟨⟨by simp [newDk]; omega, by simp [newDk]; omega, ?_, by simp [newDk], by simp [newDk], by simp [newDk], by simp [newDk]⟩, ?_, ?_, ?_, ?_⟩, ?_⟩
  · intro s hs; rw [(List.mem_replicate.1 hs).2]; rfl
  · have := Blk.new ((w.alloc (.cells (secCells (List.replicate m zsec)).toArray tSector)).alloc (.map #[] 0)) tDisk (dCells (.slice (some ⟨w.heap.size, 0, none⟩) m m) (.slice none 0 0) (.map (some (w.heap.size + 1))) 0 false)
    rw [World.size_alloc, World.size_alloc] at this
    simp only [newDk, List.length_replicate, Int.toNat_natCast]
    exact this
  · exact ((Blk.new w _ _).alloc _).alloc _
  · exact World.ownsRow_nil _ _ _ _
  · have := (MapFn.new Try.prog 3 (w.alloc (.cells (secCells (List.replicate m zsec)).toArray tSector))).alloc (.cells (dCells (.slice (some ⟨w.heap.size, 0, none⟩) m m) (.slice none 0 0) (.map (some (w.heap.size + 1))) 0 false) tDisk)
    rw [World.size_alloc] at this
    show MapFn _ _ _ _ (dirtyFn [])
    rw [dirtyFn_nil]
    exact this
  · exact (((Below.refl _ _).alloc (Nat.le_refl _) _).alloc (by simp) _).alloc (by simp; omega) _
end Go.Proofs.Ytmhmfcphjfgppaa
