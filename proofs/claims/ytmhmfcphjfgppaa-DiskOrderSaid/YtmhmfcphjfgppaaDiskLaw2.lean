/- Contracts of a disk in one shape, for the laws: a disk that lies above a block number B; the chapter's example. -/
import Derived.Test.YtmhmfcphjfgppaaDiskLaw1
namespace Go.Proofs.Ytmhmfcphjfgppaa
open Go.RowKit Go.ChangeShapes Go.WideShapes

/-- Blocks of cells that are none of a disk's lie on. -/
def KeepsT (w w' : World) : Prop := ∀ g t cs, Blk w g t cs → t ≠ tDisk → t ≠ tSector → t ≠ tWrite → Blk w' g t cs
theorem KeepsT.of_below {w w' : World} (h : Below w.heap.size w w') : KeepsT w w' := fun _ _ _ hg _ _ _ => hg.below h hg.lt

section
variable {B b sb mb : Nat} {w0 w : World} {d : Dk}

def WGo (B : Nat) (w0 w : World) (b sb mb : Nat) (d : Dk) (at' : Nat) (s : List UInt8) (e : Ending) (w' : World) : Prop :=
  (brokeN d.left d.broken = true ∧ e = .returned (.int .i64 18) ∧ DkAt B w0 w' b sb mb d.works ∧ KeepsT w w') ∨
  (brokeN d.left d.broken = false ∧ e = .returned (.int .i64 0) ∧ DkAt B w0 w' b sb mb (d.write at' s) ∧ KeepsT w w')
theorem write_go (hD : DkAt B w0 w b sb mb d) (h0 : B ≤ w0.heap.size) (n : Int) (at' : Nat) (hn : n = (at' : Int)) (s : List UInt8) (hs : s.length = 128) (hat : at' < d.secs.length) (hr : d.cache.length < 1048576) :
    Calls Try.prog 11 #[.pointer (some ⟨b, 0, none⟩), .int .i64 n, .string (strOf s)] w (WGo B w0 w b sb mb d at' s) := by
  subst hn
  obtain ⟨cv, h1, h2, h3⟩ := hD
  have hsz : (strOf s).size = 128 := by simpa [strOf, ByteArray.size] using hs
  refine (write_ok at' (strOf s) h1 hat hsz hr).mono ?_
  rintro e w' (⟨hb, rfl, ht⟩ | ⟨hb, rfl, ht⟩)
  · exact .inl ⟨hb, rfl, ht.at h2 h3 h0, fun g t cs hg a1 a2 a3 => ht.blk h1 hg a1 a2 a3⟩
  · exact .inr ⟨hb, rfl, by simpa [strOf] using ht.at h2 h3 h0, fun g t cs hg a1 a2 a3 => ht.blk h1 hg a1 a2 a3⟩

def SGo (B : Nat) (w0 w : World) (b sb mb : Nat) (d : Dk) (e : Ending) (w' : World) : Prop :=
  (brokeN d.left d.broken = true ∧ e = .returned (.int .i64 18) ∧ DkAt B w0 w' b sb mb d.works ∧ KeepsT w w') ∨
  (brokeN d.left d.broken = false ∧ e = .returned (.int .i64 0) ∧ DkAt B w0 w' b sb mb d.sync ∧ KeepsT w w')
theorem sync_go (hD : DkAt B w0 w b sb mb d) (h0 : B ≤ w0.heap.size) : Calls Try.prog 13 #[.pointer (some ⟨b, 0, none⟩)] w (SGo B w0 w b sb mb d) := by
  obtain ⟨cv, h1, h2, h3⟩ := hD
  refine (sync_ok h1).mono ?_
  rintro e w' (⟨hb, rfl, ht⟩ | ⟨hb, rfl, ht⟩)
  · exact .inl ⟨hb, rfl, ht.at h2 h3 h0, fun g t cs hg a1 a2 a3 => ht.blk h1 hg a1 a2 a3⟩
  · exact .inr ⟨hb, rfl, ht.at h2 h3 h0, fun g t cs hg a1 a2 a3 => ht.blk h1 hg a1 a2 a3⟩

def RGo (B : Nat) (w0 w : World) (b sb mb : Nat) (d : Dk) (at' : Nat) (e : Ending) (w' : World) : Prop :=
  ((d.broken = true ∧ e = .returned (.tuple #[.string ⟨#[]⟩, .int .i64 18])) ∨ (d.broken = false ∧ e = .returned (.tuple #[.string (strOf (d.read at')), .int .i64 0]))) ∧ DkAt B w0 w' b sb mb d ∧ KeepsT w w'
theorem read_go (hD : DkAt B w0 w b sb mb d) (h0 : B ≤ w0.heap.size) (n : Int) (at' : Nat) (hn : n = (at' : Int)) (hat : at' < d.secs.length) :
    Calls Try.prog 14 #[.pointer (some ⟨b, 0, none⟩), .int .i64 n] w (RGo B w0 w b sb mb d at') := by
  subst hn
  have hD0 := hD
  obtain ⟨cv, h1, h2, h3⟩ := hD
  cases hb : d.broken with
  | true =>
    refine (read_broken at' h1 hat hb).mono ?_
    rintro e w' ⟨rfl, hbl⟩
    exact ⟨.inl ⟨hb, rfl⟩, hD0.more hbl h0, .of_below hbl⟩
  | false =>
    refine (read_ok at' h1 hat hb).mono ?_
    rintro e w' ⟨rfl, hbl⟩
    exact ⟨.inr ⟨hb, rfl⟩, hD0.more hbl h0, .of_below hbl⟩

def Dk.brk (d : Dk) (n : Int) : Dk := { d with left := max n 0 }
theorem break_go (hD : DkAt B w0 w b sb mb d) (h0 : B ≤ w0.heap.size) (n : Int) (hn : n ≤ 9223372036854775807) :
    Calls Try.prog 15 #[.pointer (some ⟨b, 0, none⟩), .int .i64 n] w fun e w' => e = .returned (.tuple #[]) ∧ DkAt B w0 w' b sb mb (d.brk n) ∧ KeepsT w w' := by
  obtain ⟨cv, h1, h2, h3⟩ := hD
  refine (break_any n w h1.str).mono ?_
  rintro e w' ⟨rfl, hb, hf⟩
  have hto : DkTo w w' b sb mb cv (d.brk n) :=
    ⟨cv, ⟨⟨h1.ok.few, h1.ok.some_, h1.ok.whole, h1.ok.at_, by simp only [Dk.brk]; omega, by simp only [Dk.brk]; omega, h1.ok.small⟩, hb, h1.secs.frm hf (Blk.ne h1.secs h1.str (by decide)),
      own_frm h1.cache hf (fun g hg e => own_ne h1.cache h1.str (by decide) (by rw [hg, e])), h1.dirty.frm hf (h1.dirty.ne_blk h1.str)⟩, hf.mono (fun _ _ hk => .inl hk), fun _ hg => .inl hg⟩
  exact ⟨rfl, hto.at h2 h3 h0, fun g t cs hg a1 a2 a3 => hto.blk h1 hg a1 a2 a3⟩
theorem broken_go (hD : DkAt B w0 w b sb mb d) : Calls Try.prog 16 #[.pointer (some ⟨b, 0, none⟩)] w fun e w' => e = .returned (.bool d.broken) ∧ w = w' := by
  obtain ⟨cv, h1, h2, h3⟩ := hD
  exact broken_any w h1.str

theorem new_go (n : Int) (w : World) (h1 : 1 ≤ n) (h2 : n ≤ 512) : Calls Try.prog 10 #[.int .i64 n] w fun e w' =>
    e = .returned (.pointer (some ⟨w.heap.size + 2, 0, none⟩)) ∧ DkAt w.heap.size w w' (w.heap.size + 2) w.heap.size (w.heap.size + 1) (newDk n.toNat) ∧ KeepsT w w' := by
  refine (new_any n w h1 h2).mono ?_
  rintro e w' ⟨rfl, hd, hb⟩
  refine ⟨rfl, ⟨_, hd, ?_, hb⟩, .of_below hb⟩
  rintro k (rfl | rfl | rfl | hk)
  · omega
  · omega
  · omega
  · cases hk
end

theorem DkAt.rebase {W w1 w : World} {b sb mb : Nat} {d : Dk} (h : DkAt w1.heap.size w1 w b sb mb d) (hb : Below W.heap.size W w1) : DkAt W.heap.size W w b sb mb d := by
  obtain ⟨cv, h1, h2, h3⟩ := h
  exact ⟨cv, h1, fun k hk => Nat.le_trans hb.size (h2 k hk), hb.trans (h3.mono hb.size)⟩
theorem DkAt.alloc {B : Nat} {w0 w : World} {b sb mb : Nat} {d : Dk} (h : DkAt B w0 w b sb mb d) (h0 : B ≤ w0.heap.size) (o : Obj) : DkAt B w0 (w.alloc o) b sb mb d := h.more ((Below.refl _ _).alloc (Nat.le_refl _) _) h0
/-- A store into a block of cells that is none of the disk's. -/
theorem DkAt.store {B : Nat} {w0 w : World} {b sb mb : Nat} {d : Dk} (h : DkAt B w0 w b sb mb d) {g : Nat} {t : TypeId} {cs : Array Value} (hg : Blk w g t cs) (hB : B ≤ g) (h1 : t ≠ tDisk) (h2 : t ≠ tSector) (h3 : t ≠ tWrite) (i : Nat) (u : Value) : DkAt B w0 (w.setCell ⟨g, i, none⟩ u) b sb mb d := by
  obtain ⟨cv, hd, hk, hb⟩ := h
  refine ⟨cv, hd.keep (fun k hk' => heap_setCell_other w ⟨g, i, none⟩ k u ?_), hk, hb.setCell (p := ⟨g, i, none⟩) hB u⟩
  rintro rfl
  rcases hk' with rfl | rfl | rfl | hk'
  · exact Blk.ne hg hd.str h1 rfl
  · exact Blk.ne hg hd.secs h2 rfl
  · exact (hd.dirty.ne_blk hg) rfl
  · exact own_ne hd.cache hg (fun e => h3 e.symm) hk'

set_option maxHeartbeats 400000 in
theorem awake_any (w : World) : Calls Try.prog 9 #[] w fun e w' => e = .returned (.bool true) ∧ Below w.heap.size w w' := by
  have hnew := new_go 1 w (by decide) (by decide)
  have HNEW := Lib.hid hnew
  clear hnew
  go_enter Try.func9, Try.ntmps9
  go_wp2_with fail
  refine (HNEW.out).mono ?_
  rintro e w1 ⟨rfl, hD1, _⟩
  have H1 := Lib.hid hD1
  clear hD1 HNEW
  go_wp2_with fail
  refine (fill_any 97 97 rfl w1).mono ?_
  rintro e w2 ⟨rfl, hb2⟩
  have H2 := Lib.hid (H1.out.more hb2 (Nat.le_refl _))
  clear hb2 H1
  go_wp2_with fail
  refine (write_go H2.out (Nat.le_refl _) 0 0 rfl (fillB 97) (fillB_length _) (by decide) (by decide)).mono ?_
  rintro e w3 (⟨hx, _⟩ | ⟨_, rfl, hD3, _⟩)
  · exact absurd hx (by decide)
  have H3 := Lib.hid hD3
  clear hD3 H2
  go_wp2_with fail
  refine (sync_go H3.out (Nat.le_refl _)).mono ?_
  rintro e w4 (⟨hx, _⟩ | ⟨_, rfl, hD4, _⟩)
  · exact absurd hx (by decide)
  have H4 := Lib.hid hD4
  clear hD4 H3
  go_wp2_with fail
  refine (break_go H4.out (Nat.le_refl _) 1 (by decide)).mono ?_
  rintro e w5 ⟨rfl, hD5, _⟩
  have H5 := Lib.hid hD5
  clear hD5 H4
  go_wp2_with fail
  refine (fill_any 98 98 rfl w5).mono ?_
  rintro e w6 ⟨rfl, hb6⟩
  have H6 := Lib.hid (H5.out.more hb6 (Nat.le_refl _))
  clear hb6 H5
  go_wp2_with fail
  refine (write_go H6.out (Nat.le_refl _) 0 0 rfl (fillB 98) (fillB_length _) (by decide) (by decide)).mono ?_
  rintro e w7 (⟨_, rfl, hD7, _⟩ | ⟨hx, _⟩)
  · have H7 := Lib.hid hD7
    clear hD7 H6
    go_wp2_with fail
    refine (broken_go H7.out).mono ?_
    rintro e w8 ⟨rfl, rfl⟩
    go_wp2_with fail
    go_ret
    obtain ⟨_, _, _, hb⟩ := H7.out
    exact ⟨rfl, hb⟩
  · exact absurd hx (by decide)
end Go.Proofs.Ytmhmfcphjfgppaa
