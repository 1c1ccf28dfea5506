/- Write. -/
import Derived.Test.YtmhmfcphjfgppaaDisk2
namespace Go.Proofs.Ytmhmfcphjfgppaa
open Go.RowKit

set_option maxHeartbeats 400000 in
theorem write_nil (at' : Int) (s : ByteArray) (w : World) : Calls Try.prog 11 #[.pointer none, .int .i64 at', .string s] w fun e w' => e = .returned (.int .i64 1) ∧ w = w' := by
  by_cases h : at' < 0
  · go_enter Try.func11, Try.ntmps11
    go_wp2
    go_ret
    exact ⟨rfl, rfl⟩
  · go_enter Try.func11, Try.ntmps11
    go_wp2_with (go_at_call 27; refine (len_nil _).mono ?_; rintro e w' ⟨rfl, rfl⟩)
    go_ret
    exact ⟨rfl, rfl⟩

section
variable {w : World} {b sb mb : Nat} {cv : Value} {d : Dk}
/-- A write that may not be. -/
def wBad (n : Nat) (at' : Int) (s : ByteArray) : Prop := at' < 0 ∨ (n : Int) ≤ at' ∨ s.size ≠ 128

set_option maxHeartbeats 400000 in
theorem write_bad (at' : Int) (s : ByteArray) (h : IsDisk w b sb mb cv d) (hb : wBad d.secs.length at' s) : Calls Try.prog 11 #[.pointer (some ⟨b, 0, none⟩), .int .i64 at', .string s] w
    fun e w' => e = .returned (.int .i64 1) ∧ w = w' := by
  have hn := h.ok.few
  have hl := len_any w h.str hn
  have HL := Lib.hid hl
  have H := Lib.hid h
  clear h hl
  by_cases h0 : at' < 0
  · go_enter Try.func11, Try.ntmps11
    go_wp2
    go_ret
    exact ⟨rfl, rfl⟩
  · by_cases h1 : (d.secs.length : Int) ≤ at'
    · go_enter Try.func11, Try.ntmps11
      go_wp2_with (go_at_call 27; refine (HL.out).mono ?_; rintro e w' ⟨rfl, rfl⟩)
      go_ret
      exact ⟨rfl, rfl⟩
    · have h2 : s.size ≠ 128 := by rcases hb with hb | hb | hb <;> first | omega | exact hb
      have h3 : ((s.size : Int) == 128) = false := by rw [beq_eq_false_iff_ne]; omega
      have h4 : ((s.size : Int) != 128) = true := by simp [h3, bne]
      go_enter Try.func11, Try.ntmps11
      go_wp2_with (go_at_call 27; refine (HL.out).mono ?_; rintro e w' ⟨rfl, rfl⟩)
      go_ret
      exact ⟨rfl, rfl⟩

/-- A write's struct before its bytes are copied in. -/
def wzero (n : Int) : List Value := .int .i64 n :: byteCells zsec
set_option maxRecDepth 100000 in
theorem run_build_w (n : Int) (w : World) : (Instr.build tWrite #[(0, .int .i64 n)]).run Try.prog w = .ok (.agg (wzero n).toArray) w := by kernel_rfl
theorem zeroWrite : (Try.prog.info? tWrite).map (·.zero) = some (some (.agg (wzero 0).toArray)) := by kernel_rfl
theorem sizeWrite : (Try.prog.info? tWrite).map (·.size) = some 129 := by kernel_rfl
theorem sizeByte : (Try.prog.info? 5).map (·.size) = some 1 := by kernel_rfl
theorem wzero_length (n : Int) : (wzero n).length = 129 := by simp [wzero, byteCells_length, zsec]
theorem wzero_fit (n m : Int) : 0 + (wzero n).length ≤ (wzero m).length := by rw [wzero_length, wzero_length]; omega
theorem wzero_one (n : Int) : ∀ v ∈ wzero n, v.oneCell' = true := by
  intro v hv
  rcases List.mem_cons.1 hv with rfl | hv
  · rfl
  · exact byteCells_one _ v hv
theorem wzero_splice (n : Int) : splice (wzero 0) 0 (wzero n) = wzero n := by
  unfold splice; simp [wzero_length]
theorem wzero_splice2 (at' : Nat) (l : List UInt8) (hl : l.length = 128) : splice (wzero at') 1 (byteCells l) = writeCells (at', l) := by
  unfold splice
  have : (wzero at').drop (1 + (byteCells l).length) = [] := by apply List.drop_eq_nil_of_le; rw [wzero_length, byteCells_length, hl]; omega
  rw [this]
  simp [wzero, writeCells]

/-- What a write that may be does. -/
def WritePost (w : World) (b sb mb : Nat) (cv : Value) (d : Dk) (at' : Nat) (s : List UInt8) (e : Ending) (w' : World) : Prop :=
  (brokeN d.left d.broken = true ∧ e = .returned (.int .i64 18) ∧ DkTo w w' b sb mb cv d.works) ∨
  (brokeN d.left d.broken = false ∧ e = .returned (.int .i64 0) ∧ DkTo w w' b sb mb cv (d.write at' s))
theorem own_ne_map {w : World} {base : Nat} {e : TypeId} {size n : Nat} {v : Value} {xs : List Value} {P : Program} {k : TypeId} {f : Value → Option Value} (h : w.ownsRow base e size v n xs) (hm : MapFn P k w mb f) : v.ownBlock ≠ some mb := by
  rcases h.2 with ⟨rfl, _⟩ | ⟨g', cap, cur, rfl, _, hh, _⟩
  · simp [Value.ownBlock]
  · intro he
    have : g' = mb := by simpa [Value.ownBlock] using he
    subst this
    exact hm.ne_blk hh rfl
theorem at_wf {n at' : Nat} (hn : n ≤ 512) (h : at' < n) : (Lit.int .i64 (at' : Int)).wf = true := WalkArith.wf_i64 (by omega)
theorem bytes_len {s : ByteArray} (h : s.size = 128) : s.data.toList.length = 128 := by rw [Array.length_toList]; exact h
theorem writeCells_length (n : Nat) (l : List UInt8) (h : l.length = 128) : (writeCells (n, l)).length = 129 := by simp [writeCells, byteCells_length, h]
theorem writeCells_one (x : Nat × List UInt8) : ∀ v ∈ writeCells x, v.oneCell' = true := by
  intro v hv
  rcases List.mem_cons.1 hv with rfl | hv
  · rfl
  · exact byteCells_one _ v hv
theorem copy_fit0 {s : ByteArray} (h : s.size = 128) (n : Int) : 1 + s.size ≤ (wzero n).length := by rw [wzero_length, h]; omega
theorem copy_fit {s : ByteArray} (h : s.size = 128) (n : Int) : 1 + (byteCells s.data.toList).length ≤ (wzero n).length := by rw [wzero_length, byteCells_length, bytes_len h]; omega

theorem wS0 {w1 : World} {t : TypeId} {cs : Array Value} {L : List Value} {te : TypeId} (h : Blk w1 b t cs) (hc : cs[1]? = some cv) :
    (w1.alloc (.cells L.toArray te)).drew.cell? ⟨b, 1, none⟩ = some cv ∧ (w1.alloc (.cells L.toArray te)).drew.rangeAt w1.heap.size 0 L := by
  constructor
  · show (w1.alloc (.cells L.toArray te)).cell? _ = _
    rw [(h.alloc _).cell, hc]
  · have := (Blk.new w1 te L.toArray).range 0 L.length
    simpa using this
theorem wS1 {w2 : World} {nb : Nat} {L : List Value} (h : w2.drew.cell? ⟨b, 1, none⟩ = some cv ∧ w2.drew.rangeAt nb 0 L) (o : Obj) :
    (w2.alloc o).drew.cell? ⟨b, 1, none⟩ = some cv ∧ (w2.alloc o).drew.rangeAt nb 0 L :=
  ⟨(World.cell?_alloc_lt w2 o _ (block_lt_of_cell h.1)).trans h.1, by
    have := World.rangeAt_alloc (show w2.rangeAt nb 0 L by simpa using h.2) o
    simpa using this⟩
theorem wS2 {w2 w3 : World} {nb : Nat} {L : List Value} {row : Option Nat} (h : w2.drew.cell? ⟨b, 1, none⟩ = some cv ∧ w2.drew.rangeAt nb 0 L) (hg : w2.drew.grownBy w3 row) (h1 : row ≠ some b) (h2 : row ≠ some nb) :
    w3.cell? ⟨b, 1, none⟩ = some cv ∧ w3.rangeAt nb 0 L :=
  ⟨hg.cell h.1 (fun e => h1 e.symm), fun j v hv => hg.cell (h.2 j v hv) (fun e => h2 e.symm)⟩

set_option maxHeartbeats 400000 in
set_option maxRecDepth 100000 in
theorem write_ok (at' : Nat) (s : ByteArray) (h : IsDisk w b sb mb cv d) (hat : at' < d.secs.length) (hs : s.size = 128) (hr : d.cache.length < 1048576) :
    Calls Try.prog 11 #[.pointer (some ⟨b, 0, none⟩), .int .i64 at', .string s] w (WritePost w b sb mb cv d at' s.data.toList) := by
  have HR := Lib.hid hr
  clear hr
  have hn := h.ok.few
  have hl := len_any w h.str hn
  have hw := works_any w h.str h.ok.left0 h.ok.left1
  have HL := Lib.hid hl
  have HW := Lib.hid hw
  have H := Lib.hid h
  clear h hl hw
  have hs' : (s.size : Int) = 128 := by omega
  have h3 : ((s.size : Int) == 128) = true := by rw [beq_iff_eq]; omega
  have h4 : ((s.size : Int) != 128) = false := by simp [h3, bne]
  have h0 : ¬ (at' : Int) < 0 := by omega
  have h1 : ¬ (d.secs.length : Int) ≤ at' := by omega
  have h1' : decide (d.secs.length ≤ at') = false := by simp; omega
  have HS := Lib.hid hs
  clear hs hs' h3
  go_enter Try.func11, Try.ntmps11
  go_wp2_with (first | (go_at_call 27; refine (HL.out).mono ?_; rintro e w' ⟨rfl, rfl⟩) | fail)
  refine (HW.out).mono ?_
  rintro e w1 ⟨rfl, hb1, hf1⟩
  cases hbr : brokeN d.left d.broken with
  | true =>
    have Hbr := Lib.hid hbr
    clear hbr
    simp only [Bool.not_true]
    go_wp2
    go_ret
    exact .inl ⟨Hbr.out, rfl, DkTo.worked H.out hb1 hf1⟩
  | false =>
    simp only [Bool.not_false]
    have HBR := Lib.hid hbr
    have HN := Lib.hid hn
    clear hbr
    have hsz := HS.out
    have hown := own_frm H.out.cache hf1 (fun g hg e => own_ne H.out.cache H.out.str (by decide) (by rw [hg, e]))
    have HOWN := Lib.hid hown
    clear hown
    have hsm := H.out.ok.small
    have HSM := Lib.hid hsm
    clear hsm
    have hwl := writeCells_length at' s.data.toList (bytes_len hsz)
    have HWL := Lib.hid hwl
    have hu66 := Try.underlying66
    have hi66 : (Try.prog.info? tWrite).map (·.size) = some (writeCells (at', s.data.toList)).length := by rw [hwl]; exact sizeWrite
    have hone := writeCells_one (at', s.data.toList)
    have hd0 := dCell1 hb1
    have hd1 := dCell2 hb1
    have hd2 := hb1.frozen 1
    have hlt := hb1.lt
    have HB1 := Lib.hid hb1
    have HF1 := Lib.hid hf1
    have HSZ := Lib.hid hsz
    clear hb1 hf1 hsz
    go_wp2_with (first
      | (refine L_build rfl tWrite [(0, .tmp 26)] rfl [(0, .int .i64 at')] rfl (run_build_w at' w1) ?_)
      | (refine L_alloc rfl tWrite rfl zeroWrite ?_)
      | (refine L_store rfl tWrite (.tmp 7) (.tmp 27) rfl w1.heap.size 0 tWrite (wzero 0) (wzero at') rfl rfl (Blk.new _ _ _) (by rw [wzero_length]; exact sizeWrite) (wzero_fit _ _) (wzero_one _) ?_; rw [setCells_alloc _ _ _ _ _ (wzero_fit _ _), wzero_splice])
      | (refine L_copy_str rfl (.tmp 29) (.tmp 30) 67 9 rfl Try.underlying67 sizeByte w1.heap.size 1 128 128 rfl s rfl tWrite (wzero at') (Blk.new _ _ _) (Nat.le_of_eq HSZ.out) (copy_fit0 HSZ.out _) ?_; rw [setCells_alloc _ _ _ _ _ (copy_fit HSZ.out _), wzero_splice2 _ _ (bytes_len HSZ.out)]))
    have hne3 : cv.ownBlock ≠ some mb := own_ne_map H.out.cache H.out.dirty
    have hm1 := H.out.dirty.frm HF1.out (H.out.dirty.ne_blk H.out.str)
    have HM1 := Lib.hid hm1
    clear hm1
    have hS0 := wS0 (te := tWrite) (L := writeCells (at', s.data.toList)) HB1.out rfl
    have hne1 : cv.ownBlock ≠ some b := own_ne H.out.cache H.out.str (by decide)
    have hne2 : cv.ownBlock ≠ some w1.heap.size := fun e => absurd (own_lt HOWN.out e) (by omega)
    go_simp
    refine wp_region_ord [(0, false, true), (1, false, true), (2, false, true), (3, false, true), (4, false, true), (5, false, true), (6, true, true), (7, true, true), (8, false, false), (9, false, false), (10, true, false)]
      (fun w' => w'.cell? ⟨b, 1, none⟩ = some cv ∧ w'.rangeAt w1.heap.size 0 (writeCells (at', s.data.toList))) (by kernel_rfl) (by kernel_rfl) (by decide) (by kernel_rfl) ?_
    refine O_val (.move (.tmp 0)) (some 32) (.pointer (some ⟨b, 0, none⟩)) rfl (fun _ _ _ h => h) (hS0) (fun w o hS ho => x_move ho) ?_
    simp only [Act.put, List.setIfInBounds_toArray, List.set_cons_zero, List.set_cons_succ]
    refine O_val (.move (.tmp 0)) (some 33) (.pointer (some ⟨b, 0, none⟩)) rfl (fun _ _ _ h => h) (hS0) (fun w o hS ho => x_move ho) ?_
    simp only [Act.put, List.setIfInBounds_toArray, List.set_cons_zero, List.set_cons_succ]
    refine O_val (.nilCheck (.tmp 33)) (some 34) (.pointer (some ⟨b, 0, none⟩)) rfl (fun _ _ _ h => h) (hS0) (fun w o hS ho => x_nilCheck ho rfl) ?_
    simp only [Act.put, List.setIfInBounds_toArray, List.set_cons_zero, List.set_cons_succ]
    refine O_val (.fieldAddr tDisk (.tmp 34) 1) (some 35) (.pointer (some ⟨b, 1, none⟩)) rfl (fun _ _ _ h => h) (hS0) (fun w o hS ho => x_fieldAddr ho rfl (by go_simp)) ?_
    simp only [Act.put, List.setIfInBounds_toArray, List.set_cons_zero, List.set_cons_succ]
    refine O_val (.load 60 (.tmp 35)) (some 36) (cv) rfl (fun _ _ _ h => h) (hS0) (fun w o hS ho => x_load1 ho rfl hS.1 Try.underlying60 rfl) ?_
    simp only [Act.put, List.setIfInBounds_toArray, List.set_cons_zero, List.set_cons_succ]
    refine O_val (.load tWrite (.tmp 7)) (some 37) (.agg (writeCells (at', s.data.toList)).toArray) rfl (fun _ _ _ h => h) (hS0) (fun w o hS ho => x_load_range ho rfl hS.2 hu66 rfl hi66) ?_
    simp only [Act.put, List.setIfInBounds_toArray, List.set_cons_zero, List.set_cons_succ]
    refine O_loud (.buildSlice 60 1 #[(0, .tmp 37)]) (some 38) rfl (fun K hK o ho hd => ?_)
    refine wp_val (x_buildSlice1 ho (cs := (writeCells (at', s.data.toList))) rfl Try.underlying60 infoWrite HWL.out (by rw [HWL.out]; decide) (by rw [HWL.out]; decide)) ?_
    rw [hd]
    refine hK _ _ (wS1 hS0 _) ?_
    clear hK K hd ho o
    simp only [Act.put, List.setIfInBounds_toArray, List.set_cons_zero, List.set_cons_succ]
    refine O_loud (.call { callee := .builtin .append, args := #[.tmp 36, .tmp 38], argTypes := #[60, 60] }) (some 39) rfl (fun K hK o ho hd => ?_)
    refine wp_append1 ho Try.underlying60 infoWrite rfl (by decide) (v := cv) (n := d.cache.length) (xs := cacheCells d.cache) rfl (by exact (HOWN.out.alloc _).alloc _) (c := 1) (news := (writeCells (at', s.data.toList))) rfl (by exact Blk.new _ _ _) HWL.out (writeCells_one _) (by have := HSM.out; simp only [maxLen]; omega) (by have := HSM.out; omega) ?_
    intro g cap w3 hown3 hg3 hat3 hlt3
    have hb3 := Blk.grown (by exact (HB1.out.alloc _).alloc _) hg3 (fun e => hne1 e.symm)
    have hm3 := MapFn.grown (by exact (HM1.out.alloc _).alloc _) hg3 (fun e => hne3 e.symm)
    rw [hd]
    refine hK _ _ (wS2 (wS1 hS0 _) hg3 hne1 hne2) ?_
    clear hK K hd ho o
    simp only [Act.put, List.setIfInBounds_toArray, List.set_cons_zero, List.set_cons_succ]
    refine O_free (.nilCheck (.tmp 32)) (some 40) (.pointer (some ⟨b, 0, none⟩)) rfl (fun _ _ _ h => h) (fun w o ho => x_nilCheck ho rfl) ?_
    simp only [Act.put, List.setIfInBounds_toArray, List.set_cons_zero, List.set_cons_succ]
    refine O_free (.fieldAddr tDisk (.tmp 40) 1) (some 41) (.pointer (some ⟨b, 1, none⟩)) rfl (fun _ _ _ h => h) (fun w o ho => x_fieldAddr ho rfl (by go_simp)) ?_
    simp only [Act.put, List.setIfInBounds_toArray, List.set_cons_zero, List.set_cons_succ]
    refine O_last (.store 60 (.tmp 41) (.tmp 39)) none rfl (fun K hK o ho hd => ?_)
    refine wp_skp (x_store1 (v := .slice (some ⟨g, 0, none⟩) (d.cache.length + 1) cap) ho rfl rfl (wS2 (wS1 hS0 _) hg3 hne1 hne2).1 (by exact hb3.frozen 1) rfl rfl (by kernel_rfl) rfl) ?_
    rw [hd]
    refine hK _ _ ?_
    clear hK K hd ho o
    simp only [Act.put, List.setIfInBounds_toArray, List.set_cons_zero, List.set_cons_succ]
    refine O_nil ?_
    have hb4 := dSet1 hb3 (.slice (some ⟨g, 0, none⟩) (d.cache.length + 1) cap)
    have hm4 := hm3.setCell ⟨b, 1, none⟩ (.slice (some ⟨g, 0, none⟩) (d.cache.length + 1) cap)
    have hc2 := dCell2 hb4
    have HB4 := Lib.hid hb4
    have HM4 := Lib.hid hm4
    have HG3 := Lib.hid hg3
    have HAT := Lib.hid hat3
    have HOWN3 := Lib.hid hown3
    have HB3 := Lib.hid hb3
    clear hb3 hm3 hb4 hm4 hg3 hat3 hown3 hS0
    go_wp2_with (first
      | (refine L_put rfl 59 (.tmp 45) (.tmp 46) (.const (.bool true)) rfl 3 4 mb _ (.int .i64 at') (.bool true) rfl rfl rfl HM4.out (Maps.int_keyed Try.underlying3) Try.underlying59 (Maps.keyOf_int_mk Try.underlying3 (at_wf HN.out hat)) ?_; intro w5 hm5 hg5))
    go_ret
    refine .inr ⟨HBR.out, rfl, .slice (some ⟨g, 0, none⟩) (d.cache.length + 1) cap, ⟨Dk.write_ok H.out.ok hat (bytes_len HS.out) HR.out, ?_, ?_, ?_, ?_⟩, ?_, ?_⟩
    · exact HB4.out.grown hg5 (fun e => by injection e with e; exact (H.out.dirty.ne_blk H.out.str) e.symm)
    · have h1 := H.out.secs.frm HF1.out (Blk.ne H.out.secs H.out.str (by decide))
      have h3 := Blk.grown (by exact (h1.alloc _).alloc _) HG3.out (fun e => own_ne H.out.cache H.out.secs (by decide) e.symm)
      have h4 := h3.far (p := ⟨b, 1, none⟩) (Blk.ne H.out.secs H.out.str (by decide)) (.slice (some ⟨g, 0, none⟩) (d.cache.length + 1) cap)
      exact h4.grown hg5 (fun e => by injection e with e; exact (H.out.dirty.ne_blk H.out.secs) e.symm)
    · have h4 := own_setCell HOWN3.out (p := ⟨b, 1, none⟩) (own_ne HOWN3.out HB3.out (by decide)) (.slice (some ⟨g, 0, none⟩) (d.cache.length + 1) cap)
      have h5 := own_grown h4 hg5 (fun k hk e => by injection e with e; subst e; exact own_ne_map h4 HM4.out hk)
      simpa [Dk.write, cacheCells_snoc] using h5
    · rw [dirtyFn_snoc _ _ s.data.toList] at hm5
      exact hm5
    · have f1 : Frm (dkOwn b sb mb cv) w w1 := HF1.out.mono (fun k _ hk => .inl hk)
      have f3 := Frm.grown ((f1.alloc _).drew.alloc _) HG3.out (fun k hk => .inl (.inr (.inr (.inr hk))))
      have f4 := f3.setCell (p := ⟨b, 1, none⟩) (.inl (.inl rfl)) (.slice (some ⟨g, 0, none⟩) (d.cache.length + 1) cap)
      exact f4.grown hg5 (fun k hk => by injection hk with hk; exact .inl (.inr (.inr (.inl hk.symm))))
    · intro g' hg'
      have : g = g' := by simpa [Value.ownBlock] using hg'
      subst this
      rcases HAT.out with h | h
      · exact .inl h
      · right
        have := HF1.out.size
        have h2 : ((w1.alloc (.cells (writeCells (at', s.data.toList)).toArray tWrite)).alloc (.cells (writeCells (at', s.data.toList)).toArray tWrite)).heap.size = g := h.symm
        rw [World.size_alloc, World.size_alloc] at h2
        omega
end
end Go.Proofs.Ytmhmfcphjfgppaa
