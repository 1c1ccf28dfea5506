/- Read. -/
import Derived.Test.YtmhmfcphjfgppaaDisk5
namespace Go.Proofs.Ytmhmfcphjfgppaa
open Go.RowKit Go.Shelf
attribute [local go_sem] Oper.semAt_some

def Dk.read (d : Dk) (at' : Nat) : List UInt8 := (lastOf d.cache at').getD (d.secs.getD at' [])

def ReadPost (s : ByteArray) (c : Int) (w : World) (e : Ending) (w' : World) : Prop := e = .returned (.tuple #[.string s, .int .i64 c]) ∧ Below w.heap.size w w'

/-- The world behind the boxes of Read's argument and results. -/
def rdW (w : World) (n : Int) : World := ((w.alloc (.cells #[.int .i64 n] 3)).alloc (.cells #[.string ⟨#[]⟩] 9)).alloc (.cells #[.int .i64 0] 28)
theorem rdW_size (w : World) (n : Int) : (rdW w n).heap.size = w.heap.size + 3 := by simp [rdW]
theorem rdW_below (w : World) (n : Int) : Below w.heap.size w (rdW w n) := (((Below.refl _ _).alloc (Nat.le_refl _) _).alloc (by simp) _).alloc (by simp; omega) _
theorem rdW_0 (w : World) (n : Int) : Blk (rdW w n) w.heap.size 3 #[.int .i64 n] := ((Blk.new w _ _).alloc _).alloc _
theorem rdW_1 (w : World) (n : Int) : Blk (rdW w n) (w.heap.size + 1) 9 #[.string ⟨#[]⟩] := by
  have := (Blk.new (w.alloc (.cells #[.int .i64 n] 3)) 9 #[.string ⟨#[]⟩]).alloc (.cells #[.int .i64 0] 28)
  rwa [World.size_alloc] at this
theorem rdW_2 (w : World) (n : Int) : Blk (rdW w n) (w.heap.size + 1 + 1) 28 #[.int .i64 0] := by
  have := Blk.new ((w.alloc (.cells #[.int .i64 n] 3)).alloc (.cells #[.string ⟨#[]⟩] 9)) 28 #[.int .i64 0]
  rwa [World.size_alloc, World.size_alloc] at this

/-- The end of Read, no range over a function behind it: two result cells are set. -/
theorem rd_end {w W : World} {s : ByteArray} {c : Int} {a : Act} (hd : a.defers = []) (h4 : a.tmps.getD 4 undef = .pointer (some ⟨w.heap.size + 1, 0, none⟩)) (h5 : a.tmps.getD 5 undef = .pointer (some ⟨w.heap.size + 1 + 1, 0, none⟩))
    (hb : Below w.heap.size w W) (h1 : W.cell? ⟨w.heap.size + 1, 0, none⟩ = some (.string s)) (h2 : W.cell? ⟨w.heap.size + 1 + 1, 0, none⟩ = some (.int .i64 c)) :
    bodyPostM Fence.wide 9 Try.prog Try.f14 (ReadPost s c w) .ret a W :=
  postM_ret hd (results_cells2 rfl h4 h5 h1 h2 Try.underlying9 rfl Try.underlying28 rfl) ⟨rfl, hb⟩

section
variable {w : World} {b sb mb : Nat} {cv : Value} {d : Dk}

theorem below_drewN {B : Nat} {a w : World} (h : Below B a w) (n : Nat) : Below B a (w.drewN n) := ⟨h.os, h.tape, h.output, h.size, h.block⟩
set_option maxHeartbeats 400000 in
theorem read_nil (at' : Int) (w : World) : Calls Try.prog 14 #[.pointer none, .int .i64 at'] w (ReadPost ⟨#[]⟩ 1 w) := by
  by_cases h : at' < 0
  · skip
    refine calls_marks Try.func14 rfl ?_
    simp only [Try.ntmps14, List.size_toArray, List.length_cons, List.length_nil, Nat.reduceAdd, Nat.reduceSub, Array.replicate_succ, Array.replicate_zero, List.push_toArray, List.append_toArray, List.nil_append, List.cons_append]
    go_wp2_with fail
    have hc0 := (rdW_0 w at').cell 0
    have hc1 := (rdW_1 w at').cell 0
    have hc2 := (rdW_2 w at').cell 0
    have hz1 := (rdW_1 w at').frozen 0
    have hz2 := (rdW_2 w at').frozen 0
    have hB0 := rdW_below w at'
    have hS0 := rdW_size w at'
    change (rdW w at').cell? _ = some (.int .i64 at') at hc0
    change (rdW w at').cell? _ = some (.string ⟨#[]⟩) at hc1
    change (rdW w at').cell? _ = some (.int .i64 0) at hc2
    change Code.wp _ _ _ _ (rdW w at')
    generalize rdW w at' = W0 at *
    have HS0 := Lib.hid hS0
    clear hS0
    go_quiet (fail)
    go_wp2_with fail
    refine rd_end rfl rfl rfl (((below_drewN hB0 _).setCell (p := ⟨w.heap.size + 1, 0, none⟩) (by simp) _).setCell (p := ⟨w.heap.size + 1 + 1, 0, none⟩) (by simp; omega) _) ?_ ?_
    · go_simp
    · go_simp
  · have h' : decide (at' < 0) = false := by simpa using h
    refine calls_marks Try.func14 rfl ?_
    simp only [Try.ntmps14, List.size_toArray, List.length_cons, List.length_nil, Nat.reduceAdd, Nat.reduceSub, Array.replicate_succ, Array.replicate_zero, List.push_toArray, List.append_toArray, List.nil_append, List.cons_append]
    go_wp2_with fail
    have hc0 := (rdW_0 w at').cell 0
    have hc1 := (rdW_1 w at').cell 0
    have hc2 := (rdW_2 w at').cell 0
    have hz1 := (rdW_1 w at').frozen 0
    have hz2 := (rdW_2 w at').frozen 0
    have hB0 := rdW_below w at'
    have hS0 := rdW_size w at'
    change (rdW w at').cell? _ = some (.int .i64 at') at hc0
    change (rdW w at').cell? _ = some (.string ⟨#[]⟩) at hc1
    change (rdW w at').cell? _ = some (.int .i64 0) at hc2
    change Code.wp _ _ _ _ (rdW w at')
    generalize rdW w at' = W0 at *
    have HS0 := Lib.hid hS0
    clear hS0
    go_quiet ((go_at_call 27; exact quiet_eq (len_nil _)))
    go_wp2_with fail
    refine rd_end rfl rfl rfl (((below_drewN hB0 _).setCell (p := ⟨w.heap.size + 1, 0, none⟩) (by simp) _).setCell (p := ⟨w.heap.size + 1 + 1, 0, none⟩) (by simp; omega) _) ?_ ?_
    · go_simp
    · go_simp

set_option maxHeartbeats 400000 in
theorem read_bad (at' : Int) (h : IsDisk w b sb mb cv d) (hb : at' < 0 ∨ (d.secs.length : Int) ≤ at') : Calls Try.prog 14 #[.pointer (some ⟨b, 0, none⟩), .int .i64 at'] w (ReadPost ⟨#[]⟩ 1 w) := by
  have hn := h.ok.few
  have hlt := h.str.lt
  have H := Lib.hid h
  clear h
  by_cases h : at' < 0
  · skip
    refine calls_marks Try.func14 rfl ?_
    simp only [Try.ntmps14, List.size_toArray, List.length_cons, List.length_nil, Nat.reduceAdd, Nat.reduceSub, Array.replicate_succ, Array.replicate_zero, List.push_toArray, List.append_toArray, List.nil_append, List.cons_append]
    go_wp2_with fail
    have hc0 := (rdW_0 w at').cell 0
    have hc1 := (rdW_1 w at').cell 0
    have hc2 := (rdW_2 w at').cell 0
    have hz1 := (rdW_1 w at').frozen 0
    have hz2 := (rdW_2 w at').frozen 0
    have hB0 := rdW_below w at'
    have hS0 := rdW_size w at'
    change (rdW w at').cell? _ = some (.int .i64 at') at hc0
    change (rdW w at').cell? _ = some (.string ⟨#[]⟩) at hc1
    change (rdW w at').cell? _ = some (.int .i64 0) at hc2
    change Code.wp _ _ _ _ (rdW w at')
    generalize rdW w at' = W0 at *
    have HS0 := Lib.hid hS0
    clear hS0
    go_quiet (fail)
    go_wp2_with fail
    refine rd_end rfl rfl rfl (((below_drewN hB0 _).setCell (p := ⟨w.heap.size + 1, 0, none⟩) (by simp) _).setCell (p := ⟨w.heap.size + 1 + 1, 0, none⟩) (by simp; omega) _) ?_ ?_
    · go_simp
    · go_simp
  · have h' : decide (at' < 0) = false := by simpa using h
    have h2 : (d.secs.length : Int) ≤ at' := by omega
    refine calls_marks Try.func14 rfl ?_
    simp only [Try.ntmps14, List.size_toArray, List.length_cons, List.length_nil, Nat.reduceAdd, Nat.reduceSub, Array.replicate_succ, Array.replicate_zero, List.push_toArray, List.append_toArray, List.nil_append, List.cons_append]
    go_wp2_with fail
    have hc0 := (rdW_0 w at').cell 0
    have hc1 := (rdW_1 w at').cell 0
    have hc2 := (rdW_2 w at').cell 0
    have hz1 := (rdW_1 w at').frozen 0
    have hz2 := (rdW_2 w at').frozen 0
    have hB0 := rdW_below w at'
    have hS0 := rdW_size w at'
    change (rdW w at').cell? _ = some (.int .i64 at') at hc0
    change (rdW w at').cell? _ = some (.string ⟨#[]⟩) at hc1
    change (rdW w at').cell? _ = some (.int .i64 0) at hc2
    change Code.wp _ _ _ _ (rdW w at')
    generalize rdW w at' = W0 at *
    have HS0 := Lib.hid hS0
    clear hS0
    have hbl := H.out.str.below hB0 hlt
    have HBL := Lib.hid hbl
    clear hbl
    go_quiet ((go_at_call 27; exact quiet_eq (len_any _ (HBL.out.drewN _) hn)))
    go_wp2_with fail
    refine rd_end rfl rfl rfl (((below_drewN hB0 _).setCell (p := ⟨w.heap.size + 1, 0, none⟩) (by simp) _).setCell (p := ⟨w.heap.size + 1 + 1, 0, none⟩) (by simp; omega) _) ?_ ?_
    · go_simp
    · go_simp

/-- What a Read that may be tells. -/
def RdOk (d : Dk) (at' : Nat) (w : World) (e : Ending) (w' : World) : Prop :=
  (d.broken = true ∧ ReadPost ⟨#[]⟩ 18 w e w') ∨ (d.broken = false ∧ ReadPost (strOf (d.read at')) 0 w e w')

set_option maxRecDepth 100000 in
set_option maxHeartbeats 400000 in
theorem read_broken (at' : Nat) (h : IsDisk w b sb mb cv d) (hat : at' < d.secs.length) (hbr : d.broken = true) : Calls Try.prog 14 #[.pointer (some ⟨b, 0, none⟩), .int .i64 at'] w (ReadPost ⟨#[]⟩ 18 w) := by
    have hn := h.ok.few
    have hlt := h.str.lt
    have hst := h.str
    rw [hbr] at hst
    have HST := Lib.hid hst
    have HBR := Lib.hid hbr
    have H := Lib.hid h
    clear h hst hbr
    have h' : decide ((at' : Int) < 0) = false := by simp
    have h1' : decide (d.secs.length ≤ at') = false := by simp; omega
    have h2 : (at' : Int) < d.secs.length := by omega
    refine calls_marks Try.func14 rfl ?_
    simp only [Try.ntmps14, List.size_toArray, List.length_cons, List.length_nil, Nat.reduceAdd, Nat.reduceSub, Array.replicate_succ, Array.replicate_zero, List.push_toArray, List.append_toArray, List.nil_append, List.cons_append]
    go_wp2_with fail
    have hc0 := (rdW_0 w at').cell 0
    have hc1 := (rdW_1 w at').cell 0
    have hc2 := (rdW_2 w at').cell 0
    have hz1 := (rdW_1 w at').frozen 0
    have hz2 := (rdW_2 w at').frozen 0
    have hB0 := rdW_below w at'
    have hS0 := rdW_size w at'
    change (rdW w at').cell? _ = some (.int .i64 at') at hc0
    change (rdW w at').cell? _ = some (.string ⟨#[]⟩) at hc1
    change (rdW w at').cell? _ = some (.int .i64 0) at hc2
    change Code.wp _ _ _ _ (rdW w at')
    generalize rdW w at' = W0 at *
    have HS0 := Lib.hid hS0
    clear hS0
    have hbl := HST.out.below hB0 hlt
    have hbr0 := dCell4 hbl
    have HBL := Lib.hid hbl
    clear hbl
    go_quiet ((go_at_call 27; exact quiet_eq (len_any _ (HBL.out.drewN _) hn)))
    go_wp2_with fail
    refine rd_end rfl rfl rfl (((below_drewN hB0 _).setCell (p := ⟨w.heap.size + 1, 0, none⟩) (by simp) _).setCell (p := ⟨w.heap.size + 1 + 1, 0, none⟩) (by simp; omega) _) ?_ ?_
    · go_simp
    · go_simp


theorem zeroSector : (Try.prog.info? tSector).map (·.zero) = some (some (.agg (byteCells zsec).toArray)) := by kernel_rfl
theorem splice_all {α : Type} (L cs : List α) (h : L.length = cs.length) : splice L 0 cs = cs := by unfold splice; simp [h]
theorem lastOf_none {c : List Wr} {n : Nat} (h : lastOf c n = none) : dirtyFn c (.int .i64 (n : Int)) = none := by
  apply dirtyFn_neg
  rintro ⟨p, hp, he⟩
  simp only [lastOf, Option.map_eq_none_iff, List.find?_eq_none, List.mem_reverse, beq_iff_eq] at h
  have e : n = p.1 := by injection he with _ he; omega
  exact h p hp e.symm
theorem lastOf_some {c : List Wr} {n : Nat} {s : List UInt8} (h : lastOf c n = some s) : dirtyFn c (.int .i64 (n : Int)) = some (.bool true) := by
  simp only [lastOf, Option.map_eq_some_iff] at h
  obtain ⟨p, hp, rfl⟩ := h
  have h1 := List.mem_of_find?_eq_some hp
  have h2 := List.find?_some hp
  simp only [beq_iff_eq] at h2
  exact dirtyFn_pos ⟨p, by simpa using h1, by rw [h2]⟩
theorem blk_own (B g : Nat) (t : TypeId) (cs : Array Value) : OwnFrom B (fun (_ : Unit) W => Blk W g t cs) := fun _ X Y row hs hg hrow => by
  refine (hg.block g (Blk.lt hs) (fun e => ?_)).trans hs
  obtain ⟨_, o, ho, hc⟩ := hrow g e.symm
  rw [show X.heap[g]? = _ from hs] at ho
  cases ho
  cases hc
theorem rS1 {W : World} {hs n : Nat} {L : List Value} {u v : Value} (h : W.cell? ⟨b, 0, none⟩ = some u ∧ W.cell? ⟨hs, 0, none⟩ = some v ∧ W.rangeAt sb n L) (o : Obj) :
    (W.alloc o).cell? ⟨b, 0, none⟩ = some u ∧ (W.alloc o).cell? ⟨hs, 0, none⟩ = some v ∧ (W.alloc o).rangeAt sb n L :=
  ⟨(World.cell?_alloc_lt W o _ (block_lt_of_cell h.1)).trans h.1, (World.cell?_alloc_lt W o _ (block_lt_of_cell h.2.1)).trans h.2.1, World.rangeAt_alloc h.2.2 o⟩
theorem index_sector (hat : Nat) (hlt : hat < d.secs.length) (hn : d.secs.length ≤ 512) (W : World) : (Instr.indexAt 58 (.slice (some ⟨sb, 0, none⟩) d.secs.length d.secs.length) (.int .i64 hat)).run Try.prog W = .ok (.pointer (some ⟨sb, hat * 128, none⟩)) W := by
  have h1 : (0 : Int) ≤ (hat : Int) := by omega
  have h2 : (hat : Int) < d.secs.length := by omega
  go_simp
set_option maxRecDepth 100000 in
set_option maxHeartbeats 400000 in
theorem read_ok (at' : Nat) (h : IsDisk w b sb mb cv d) (hat : at' < d.secs.length) (hbr : d.broken = false) : Calls Try.prog 14 #[.pointer (some ⟨b, 0, none⟩), .int .i64 at'] w (ReadPost (strOf (d.read at')) 0 w) := by
    have hn := h.ok.few
    have hlt := h.str.lt
    have hst := h.str
    rw [hbr] at hst
    have HST := Lib.hid hst
    have HBR := Lib.hid hbr
    have H := Lib.hid h
    clear h hst hbr
    have h' : decide ((at' : Int) < 0) = false := by simp
    have h1' : decide (d.secs.length ≤ at') = false := by simp; omega
    have h2 : (at' : Int) < d.secs.length := by omega
    refine calls_marks Try.func14 rfl ?_
    simp only [Try.ntmps14, List.size_toArray, List.length_cons, List.length_nil, Nat.reduceAdd, Nat.reduceSub, Array.replicate_succ, Array.replicate_zero, List.push_toArray, List.append_toArray, List.nil_append, List.cons_append]
    go_wp2_with fail
    have hc0 := (rdW_0 w at').cell 0
    have hc1 := (rdW_1 w at').cell 0
    have hc2 := (rdW_2 w at').cell 0
    have hz1 := (rdW_1 w at').frozen 0
    have hz2 := (rdW_2 w at').frozen 0
    have hB0 := rdW_below w at'
    have hS0 := rdW_size w at'
    change (rdW w at').cell? _ = some (.int .i64 at') at hc0
    change (rdW w at').cell? _ = some (.string ⟨#[]⟩) at hc1
    change (rdW w at').cell? _ = some (.int .i64 0) at hc2
    change Code.wp _ _ _ _ (rdW w at')
    generalize rdW w at' = W0 at *
    have HS0 := Lib.hid hS0
    clear hS0
    have hbl := HST.out.below hB0 hlt
    have hbr0 := dCell4 hbl
    have HBL := Lib.hid hbl
    clear hbl
    go_quiet ((go_at_call 27; exact quiet_eq (len_any _ (HBL.out.drewN _) hn)))
    go_wp2_with fail
    have hsl : (d.secs[at']).length = 128 := H.out.ok.whole _ (List.getElem_mem hat)
    have hsec := H.out.secs.below hB0 H.out.secs.lt
    have hseg : ((secCells d.secs).drop (at' * 128)).take 128 = byteCells d.secs[at'] := flat_seg byteCells 128 d.secs (fun s hs => by rw [byteCells_length]; exact H.out.ok.whole s hs) at' hat
    have hrng := hsec.range (at' * 128) 128
    rw [hseg] at hrng
    have HSL := Lib.hid hsl
    have HSEC := Lib.hid hsec
    clear hseg hsl hsec
    have hse : d.secs.getD at' [] = d.secs[at'] := by simp [List.getD, hat]
    have HSE := Lib.hid hse
    clear hse
    generalize d.secs[at'] = sec at *
    have hS : (W0.drewN nq).drew.cell? ⟨b, 0, none⟩ = some (.slice (some ⟨sb, 0, none⟩) d.secs.length d.secs.length) ∧ (W0.drewN nq).drew.cell? ⟨w.heap.size, 0, none⟩ = some (.int .i64 at') ∧ (W0.drewN nq).drew.rangeAt sb (at' * 128) (byteCells sec) := ⟨dCell0 HBL.out, hc0, hrng⟩
    have hi64 : (Try.prog.info? tSector).map (·.size) = some (byteCells sec).length := by rw [byteCells_length, HSL.out]; exact sizeSector
    have hHS : (W0.drewN nq).drew.heap.size = w.heap.size + 3 := HS0.out
    refine wp_region_ord [(0, false, true), (1, false, true), (2, false, true), (3, false, true), (4, false, true), (5, false, true), (6, false, true), (7, true, true), (8, true, false)]
      (fun w' => w'.cell? ⟨b, 0, none⟩ = some (.slice (some ⟨sb, 0, none⟩) d.secs.length d.secs.length) ∧ w'.cell? ⟨w.heap.size, 0, none⟩ = some (.int .i64 at') ∧ w'.rangeAt sb (at' * 128) (byteCells sec)) (by kernel_rfl) (by kernel_rfl) (by decide) (by kernel_rfl) ?_
    refine O_val (.move (.tmp 0)) (some 23) (.pointer (some ⟨b, 0, none⟩)) rfl (fun _ _ _ h => h) (hS) (fun w o hS ho => x_move ho) ?_
    simp only [Act.put, List.setIfInBounds_toArray, List.set_cons_zero, List.set_cons_succ]
    refine O_val (.nilCheck (.tmp 23)) (some 24) (.pointer (some ⟨b, 0, none⟩)) rfl (fun _ _ _ h => h) (hS) (fun w o hS ho => x_nilCheck ho rfl) ?_
    simp only [Act.put, List.setIfInBounds_toArray, List.set_cons_zero, List.set_cons_succ]
    refine O_val (.fieldAddr tDisk (.tmp 24) 0) (some 25) (.pointer (some ⟨b, 0, none⟩)) rfl (fun _ _ _ h => h) (hS) (fun w o hS ho => x_fieldAddr ho rfl (by go_simp)) ?_
    simp only [Act.put, List.setIfInBounds_toArray, List.set_cons_zero, List.set_cons_succ]
    refine O_val (.load 58 (.tmp 25)) (some 26) (.slice (some ⟨sb, 0, none⟩) d.secs.length d.secs.length) rfl (fun _ _ _ h => h) (hS) (fun w o hS ho => x_load1 ho rfl hS.1 Try.underlying58 rfl) ?_
    simp only [Act.put, List.setIfInBounds_toArray, List.set_cons_zero, List.set_cons_succ]
    refine O_val (.load 3 (.tmp 3)) (some 27) (.int .i64 at') rfl (fun _ _ _ h => h) (hS) (fun w o hS ho => x_load1 ho rfl hS.2.1 Try.underlying3 rfl) ?_
    simp only [Act.put, List.setIfInBounds_toArray, List.set_cons_zero, List.set_cons_succ]
    refine O_val (.indexAddr 58 (.tmp 26) (.tmp 27)) (some 28) (.pointer (some ⟨sb, at' * 128, none⟩)) rfl (fun _ _ _ h => h) (hS) (fun w o hS ho => x_indexAddr ho rfl rfl (index_sector at' hat hn w)) ?_
    simp only [Act.put, List.setIfInBounds_toArray, List.set_cons_zero, List.set_cons_succ]
    refine O_val (.load tSector (.tmp 28)) (some 29) (.agg (byteCells sec).toArray) rfl (fun _ _ _ h => h) (hS) (fun w o hS ho => x_load_range ho rfl hS.2.2 Try.underlying64 rfl hi64) ?_
    simp only [Act.put, List.setIfInBounds_toArray, List.set_cons_zero, List.set_cons_succ]
    refine O_loud (.alloc tSector) (some 6) rfl (fun K hK o ho hd => ?_)
    refine wp_val (x_alloc ho zeroSector) ?_
    rw [hd]
    refine hK _ _ (rS1 hS _) ?_
    clear hK K hd ho o
    simp only [Act.put, List.setIfInBounds_toArray, List.set_cons_zero, List.set_cons_succ]
    refine O_last (.store tSector (.tmp 6) (.tmp 29)) none rfl (fun K hK o ho hd => ?_)
    refine wp_skp (x_store (L := byteCells zsec) ho rfl rfl (Blk.new _ _ _) hi64 (by rw [byteCells_length, byteCells_length, HSL.out, zsec_length]; omega) (byteCells_one sec)) ?_
    rw [hd]
    refine hK _ undef ?_
    clear hK K hd ho o
    simp only [Act.put, List.setIfInBounds_toArray, List.set_cons_zero, List.set_cons_succ]
    refine O_nil ?_
    rw [show Value.cells (.agg (byteCells zsec).toArray) = (byteCells zsec).toArray from rfl, setCells_alloc _ _ _ _ _ (by rw [byteCells_length, byteCells_length, HSL.out, zsec_length]; omega), splice_all _ _ (by rw [byteCells_length, byteCells_length, HSL.out, zsec_length])]
    have hfr := Blk.new (W0.drewN nq).drew tSector (byteCells sec).toArray
    have hB1 : Below w.heap.size w ((W0.drewN nq).drew.alloc (.cells (byteCells sec).toArray tSector)) := (below_drewN hB0 nq).drew.alloc (by rw [hHS]; omega) _
    have hc0' : ((W0.drewN nq).drew.alloc (.cells (byteCells sec).toArray tSector)).cell? ⟨w.heap.size, 0, none⟩ = some (.int .i64 at') := (World.cell?_alloc_lt _ _ _ (by exact block_lt_of_cell hc0)).trans hc0
    have hc1' : ((W0.drewN nq).drew.alloc (.cells (byteCells sec).toArray tSector)).cell? ⟨w.heap.size + 1, 0, none⟩ = some (.string ⟨#[]⟩) := (World.cell?_alloc_lt _ _ _ (by exact block_lt_of_cell hc1)).trans hc1
    have hc2' : ((W0.drewN nq).drew.alloc (.cells (byteCells sec).toArray tSector)).cell? ⟨w.heap.size + 1 + 1, 0, none⟩ = some (.int .i64 0) := (World.cell?_alloc_lt _ _ _ (by exact block_lt_of_cell hc2)).trans hc2
    have hz1' : ((W0.drewN nq).drew.alloc (.cells (byteCells sec).toArray tSector)).frozen? ⟨w.heap.size + 1, 0, none⟩ = false := (Below.refl _ (W0.drewN nq).drew |>.alloc (Nat.le_refl _) _ |>.frozen (by exact block_lt_of_cell hc1)).trans hz1
    have hz2' : ((W0.drewN nq).drew.alloc (.cells (byteCells sec).toArray tSector)).frozen? ⟨w.heap.size + 1 + 1, 0, none⟩ = false := (Below.refl _ (W0.drewN nq).drew |>.alloc (Nat.le_refl _) _ |>.frozen (by exact block_lt_of_cell hc2)).trans hz2
    have hD1 := H.out.keep (fun k hk => hB1.block k (dkOwn_lt H.out hk))
    have hsz1 : ((W0.drewN nq).drew.alloc (.cells (byteCells sec).toArray tSector)).heap.size = w.heap.size + 4 := by rw [World.size_alloc, hHS]
    rw [hHS] at hfr
    rw [hHS]
    clear hc0 hc1 hc2 hz1 hz2 hS hrng hbr0 hi64 HBL HSEC hB0 hHS HS0
    generalize (W0.drewN nq).drew.alloc (.cells (byteCells sec).toArray tSector) = W1 at *
    have HFR := Lib.hid hfr
    have HD1 := Lib.hid hD1
    have HSZ := Lib.hid hsz1
    clear hfr hD1 hsz1
    have hd2 := dCell2 HD1.out.str
    have hlk : ∀ n, (Instr.lookup 59 (.map (some mb)) (.int .i64 at') false).run Try.prog (W1.drewN n) = .ok ((dirtyFn d.cache (.int .i64 at')).getD (.bool false)) (W1.drewN n) := fun n =>
      (MapFn.look (HD1.out.dirty.drewN n) (Maps.int_keyed Try.underlying3) Try.underlying59 (by kernel_rfl) (Maps.keyOf_int_mk Try.underlying3 (at_wf hn hat))).1
    have hcv : ∀ n, (convert 67 9 (.slice (some ⟨w.heap.size + 3, 0, none⟩) 128 128)).run Try.prog (W1.drewN n) = .ok (.string (strOf sec)) (W1.drewN n) := fun n => by
      have := run_bytes_str (P := Try.prog) (w := W1.drewN n) (cap := 128) (HFR.out.drewN n) (s := sec) (off := 0) (bytes_whole sec) Try.underlying67 Try.underlying5 Try.underlying9
      rwa [HSL.out] at this
    cases hlast : lastOf d.cache at' with
    | none =>
      have hrd : d.read at' = sec := by unfold Dk.read; rw [hlast]; exact HSE.out
      rw [lastOf_none hlast] at hlk
      simp only [Option.getD_none] at hlk
      have HRD := Lib.hid hrd
      clear hlast hrd
      go_wp2_with fail
      go_quiet (fail)
      go_wp2_with fail
      rw [HRD.out]
      refine rd_end rfl rfl rfl (((below_drewN hB1 _).setCell (p := ⟨w.heap.size + 1, 0, none⟩) (by simp) _).setCell (p := ⟨w.heap.size + 1 + 1, 0, none⟩) (by simp; omega) _) ?_ ?_
      · go_simp
      · go_simp
    | some s =>
      rw [lastOf_some hlast] at hlk
      simp only [Option.getD_some] at hlk
      obtain ⟨cs, hcs⟩ := exists_cOf d.cache (fun x hx => (H.out.ok.at_ x hx).2)
      have hrd : d.read at' = s := by unfold Dk.read; rw [hlast]; rfl
      obtain ⟨A, cap, hcv', _, _⟩ := own_slice HD1.out.cache
      have hd1 := dCell1 HD1.out.str
      rw [hcv'] at hd1
      have HCV := Lib.hid hcv'
      have HRD := Lib.hid hrd
      have HLAST := Lib.hid hlast
      have HCS := Lib.hid hcs
      clear hlast hrd hcs hcv'
      go_wp2_with fail
      go_quiet (fail)
      go_wp2_with (go_at_call 30; refine (back_any _ _ _ _).mono ?_; rintro e w' ⟨rfl, rfl⟩)
      have hBW : Below w.heap.size w ((W1.drewN nq).alloc (.cells #[.slice A d.cache.length cap] 60)) := (below_drewN hB1 nq).alloc (by show _ ≤ W1.heap.size; rw [HSZ.out]; omega) _
      have hBx := Blk.new (W1.drewN nq) 60 #[.slice A d.cache.length cap]
      have hD2 := (HD1.out.keep (w' := W1.drewN nq) (fun _ _ => rfl)).alloc (.cells #[.slice A d.cache.length cap] 60)
      have hq0 : ((W1.drewN nq).alloc (.cells #[.slice A d.cache.length cap] 60)).cell? ⟨w.heap.size, 0, none⟩ = some (.int .i64 at') := (World.cell?_alloc_lt _ _ _ (by exact block_lt_of_cell hc0')).trans hc0'
      have hq1 : ((W1.drewN nq).alloc (.cells #[.slice A d.cache.length cap] 60)).cell? ⟨w.heap.size + 1, 0, none⟩ = some (.string ⟨#[]⟩) := (World.cell?_alloc_lt _ _ _ (by exact block_lt_of_cell hc1')).trans hc1'
      have hq2 : ((W1.drewN nq).alloc (.cells #[.slice A d.cache.length cap] 60)).cell? ⟨w.heap.size + 1 + 1, 0, none⟩ = some (.int .i64 0) := (World.cell?_alloc_lt _ _ _ (by exact block_lt_of_cell hc2')).trans hc2'
      have hr1 : ((W1.drewN nq).alloc (.cells #[.slice A d.cache.length cap] 60)).frozen? ⟨w.heap.size + 1, 0, none⟩ = false := (Below.refl _ (W1.drewN nq) |>.alloc (Nat.le_refl _) _ |>.frozen (by exact block_lt_of_cell hc1')).trans hz1'
      have hr2 : ((W1.drewN nq).alloc (.cells #[.slice A d.cache.length cap] 60)).frozen? ⟨w.heap.size + 1 + 1, 0, none⟩ = false := (Below.refl _ (W1.drewN nq) |>.alloc (Nat.le_refl _) _ |>.frozen (by exact block_lt_of_cell hc2')).trans hz2'
      have hsz2 : ((W1.drewN nq).alloc (.cells #[.slice A d.cache.length cap] 60)).heap.size = w.heap.size + 5 := by rw [World.size_alloc]; show W1.heap.size + 1 = _; rw [HSZ.out]
      have hszd : (W1.drewN nq).heap.size = w.heap.size + 4 := HSZ.out
      rw [hszd] at hBx
      have hszw : W1.heap.size = w.heap.size + 4 := HSZ.out
      rw [hszw]
      clear hlk hcv hB1 hc0' hc1' hc2' hz1' hz2' hd1 hd2 hszd hszw
      generalize (W1.drewN nq).alloc (.cells #[.slice A d.cache.length cap] 60) = W2 at *
      have HSZ2 := Lib.hid hsz2
      have HD2 := Lib.hid hD2
      have HBX := Lib.hid hBx
      have HBW := Lib.hid hBW
      clear hsz2 hD2 hBx hBW
      go_wp2_with fail
      have hrow : W2.ownsRow 0 tWrite 129 (.slice A d.cache.length cap) cs.length (cacheCells (cOf cs)) := by
        have := HD2.out.cache
        rw [HCV.out, ← HCS.out, cOf_length] at this
        rw [← HCS.out, cOf_length]
        exact this
      have hcl : cs.length = d.cache.length := by rw [← HCS.out, cOf_length]
      have hpos : 0 < cs.length := by
        rcases Nat.eq_zero_or_pos cs.length with h0 | h0
        · have h1 := HLAST.out
          rw [← HCS.out, List.eq_nil_of_length_eq_zero h0] at h1
          cases h1
        · exact h0
      have hsm : cs.length ≤ 1048576 := by rw [hcl]; exact H.out.ok.small
      have hown : ∀ g, (Value.slice A d.cache.length cap).ownBlock = some g → g < w.heap.size + 5 := fun g hg => by have := own_lt hrow hg; rw [HSZ2.out] at this; exact this
      refine wpIn_wide.1 (wpIn_rangeFunc_ownH (n := 9) rfl (by omega) (gf := fBack1) (lb := #[.pointer (some ⟨w.heap.size + 4, 0, none⟩)]) rfl trivial (enters_of Try.func35 (by kernel_rfl) rfl)
        (back_stops (c := cs) (n₀ := w.heap.size + 5) hrow hsm (by omega) (HBX.out.cell 0) (by rw [HSZ2.out]; omega) hown hpos) belowK_t (belowK_b (by rw [HSZ2.out]; omega)) (Below.refl _ _) (fun _ => rfl)
        (fun pre W => (∀ y ∈ pre, y.2.1.1 ≠ at') ∧ Below (w.heap.size + 5) W2 W)
        (fun c pre W => (c = .ret ∧ ∃ q x, pre = q ++ [x] ∧ (∀ y ∈ q, y.2.1.1 ≠ at') ∧ x.2.1.1 = at' ∧ W.cell? ⟨w.heap.size + 1, 0, none⟩ = some (.string (strOf x.2.1.2)) ∧ W.cell? ⟨w.heap.size + 1 + 1, 0, none⟩ = some (.int .i64 0)) ∧ Below w.heap.size w W)
        (OwnFrom.and (ownFrom_pure _ _) (ownFrom_below (by rw [HSZ2.out]; omega) (by rw [HSZ2.out]; omega)))
        (fun c => OwnFrom.and (Own.from (fun s X Y row hs hg hr => by obtain ⟨h1, q, x, h2, h3, h4, h5, h6⟩ := hs; exact ⟨h1, q, x, h2, h3, h4, cell_kept h5 hg hr, cell_kept h6 hg hr⟩) _) (ownFrom_below (Nat.le_refl _) (by rw [HSZ2.out]; omega)))
        ⟨by simp, Below.refl _ _⟩
        (fun x a' W => ∃ Bx, w.heap.size + 5 ≤ Bx ∧ Blk W Bx tWrite (writeCells x.2.1).toArray ∧ a' = { tmps := #[.pointer (some ⟨b, 0, none⟩), .int .i64 at', undef, .pointer (some ⟨w.heap.size, 0, none⟩), .pointer (some ⟨w.heap.size + 1, 0, none⟩), .pointer (some ⟨w.heap.size + 1 + 1, 0, none⟩),
          .pointer (some ⟨w.heap.size + 3, 0, none⟩), undef, .pointer (some ⟨Bx, 0, none⟩), .bool false, .int .i64 at', .bool false, .bool false, .int .i64 at', .pointer (some ⟨b, 0, none⟩), .int .i64 d.secs.length, .bool false,
          .bool false, .bool false, .pointer (some ⟨b, 0, none⟩), .pointer (some ⟨b, 0, none⟩), .pointer (some ⟨b, 4, none⟩), .bool false, .pointer (some ⟨b, 0, none⟩), .pointer (some ⟨b, 0, none⟩), .pointer (some ⟨b, 0, none⟩),
          .slice (some ⟨sb, 0, none⟩) d.secs.length d.secs.length, .int .i64 at', .pointer (some ⟨sb, at' * 128, none⟩), .agg (byteCells sec).toArray, .pointer (some ⟨b, 0, none⟩), .pointer (some ⟨b, 0, none⟩),
          .pointer (some ⟨b, 2, none⟩), .map (some mb), .int .i64 at', .bool true, .pointer (some ⟨b, 0, none⟩), .pointer (some ⟨b, 0, none⟩), .pointer (some ⟨b, 1, none⟩), .slice A d.cache.length cap,
          .func (.func fBack1) #[] #[.pointer (some ⟨w.heap.size + 4, 0, none⟩)], .int .i64 (x.1 : Int), .agg (writeCells x.2.1).toArray, undef, undef, undef, undef, undef, undef, undef, undef, undef], defers := [] })
        (fun x a' s X Y row hs hg hr => by obtain ⟨Bx, h1, h2, h3⟩ := hs; exact ⟨Bx, h1, blk_own W2.heap.size Bx _ _ () X Y row h2 hg hr, h3⟩)
        ?assign ?body ?done ?stop)
      case assign =>
        rintro l pre x W K ⟨hp, hB⟩ hK
        simp only [wEncs]
        go_simp
        gi_wp2_with (first
          | (refine G_alloc rfl tWrite rfl zeroWrite ?_)
          | (refine G_store rfl tWrite (.tmp 8) (.tmp 42) rfl W.heap.size 0 tWrite (wzero 0) (writeCells x.2.1) rfl rfl (Blk.new _ _ _) (by rw [writeCells_length x.2.1.1 x.2.1.2 x.2.2]; exact sizeWrite) (by rw [wzero_length, writeCells_length x.2.1.1 x.2.1.2 x.2.2]; omega) (writeCells_one _) ?_; rw [setCells_alloc _ _ _ _ _ (by rw [wzero_length, writeCells_length x.2.1.1 x.2.1.2 x.2.2]; omega), wzero_splice3 _ x.2.2]))
        exact hK _ _ ((KeepsOthers.alloc _ _).from _) ((Below.refl _ W).alloc (by have := hB.size; rw [HSZ2.out] at this; omega) _) ⟨hp, hB.alloc (by have := hB.size; rw [HSZ2.out] at this; omega) _⟩ ⟨W.heap.size, by have := hB.size; rw [HSZ2.out] at this; omega, Blk.new _ _ _, rfl⟩
      case body =>
        rintro l pre x a' W hl ⟨r, hr⟩ ⟨hp, hB⟩ ⟨Bx, hBx, bX, rfl⟩ hlt2
        have hx0 : W.cell? ⟨Bx, 0, none⟩ = some (.int .i64 (x.2.1.1 : Int)) := bX.cell 0
        have hw0 : W.cell? ⟨w.heap.size, 0, none⟩ = some (.int .i64 at') := (hB.cell (p := ⟨w.heap.size, 0, none⟩) (by simp)).trans hq0
        have hw1 : W.cell? ⟨w.heap.size + 1, 0, none⟩ = some (.string ⟨#[]⟩) := (hB.cell (p := ⟨w.heap.size + 1, 0, none⟩) (by simp)).trans hq1
        have hw2 : W.cell? ⟨w.heap.size + 1 + 1, 0, none⟩ = some (.int .i64 0) := (hB.cell (p := ⟨w.heap.size + 1 + 1, 0, none⟩) (by simp)).trans hq2
        have hv1 : W.frozen? ⟨w.heap.size + 1, 0, none⟩ = false := (hB.frozen (p := ⟨w.heap.size + 1, 0, none⟩) (by simp)).trans hr1
        have hv2 : W.frozen? ⟨w.heap.size + 1 + 1, 0, none⟩ = false := (hB.frozen (p := ⟨w.heap.size + 1 + 1, 0, none⟩) (by simp)).trans hr2
        have hcv : (convert 67 9 (.slice (some ⟨Bx, 1, none⟩) 128 128)).run Try.prog W = .ok (.string (strOf x.2.1.2)) W := by
          have e : ((writeCells x.2.1).drop 1).take x.2.1.2.length = byteCells x.2.1.2 := by simp only [writeCells, List.drop_succ_cons]; exact bytes_whole _
          have := run_bytes_str (P := Try.prog) (cap := 128) bX (s := x.2.1.2) (off := 1) e Try.underlying67 Try.underlying5 Try.underlying9
          rwa [x.2.2] at this
        have hBw : Below w.heap.size w W := HBW.out.trans (hB.mono (by omega))
        have HBw := Lib.hid hBw
        have HP := Lib.hid hp
        have HB := Lib.hid hB
        clear hBw hp hB hr bX hBx hq0 hq1 hq2 hr1 hr2
        by_cases hx : x.2.1.1 = at'
        · have hxb : (((x.2.1.1 : Nat) : Int) == (at' : Int)) = true := by rw [beq_iff_eq, hx]
          have HX := Lib.hid hx
          clear hx
          gi_wp2
          refine ⟨((KeepsOthers.setCell _ _ _).trans (KeepsOthers.setCell _ _ _)).from _, ⟨rfl, pre, x, rfl, HP.out, HX.out, ?_, ?_⟩, (HBw.out.setCell (p := ⟨w.heap.size + 1, 0, none⟩) (by simp) _).setCell (p := ⟨w.heap.size + 1 + 1, 0, none⟩) (by simp; omega) _⟩
          · go_simp
          · go_simp
        · have hxb : (((x.2.1.1 : Nat) : Int) == (at' : Int)) = false := by rw [beq_eq_false_iff_ne]; omega
          have HX := Lib.hid hx
          clear hx
          gi_wp2
          refine ⟨KeepsFrom.refl _ _, Below.refl _ _, ?_, HB.out⟩
          intro y hy
          rw [List.mem_append, List.mem_singleton] at hy
          rcases hy with hy | rfl
          · exact HP.out y hy
          · exact HX.out
      case done =>
        rintro D ys W hD rfl ⟨hp, hB⟩ hK
        exfalso
        have h1 := last_miss hp
        rw [HCS.out, HLAST.out] at h1
        cases h1
      case stop =>
        rintro D c pre W hD ⟨k, hk, hpre⟩ ⟨⟨rfl, q, x, hpre', hq, hx, hc5, hc6⟩, hB⟩ hK
        have hs : s = x.2.1.2 := by
          have h1 := last_hit hk (hpre.symm.trans hpre') hq hx
          rw [HCS.out, HLAST.out] at h1
          injection h1
        refine wpIn_wide.2 ?_
        go_wp2
        rw [HRD.out, hs]
        have k5 := cell_kept hc5 (grownBy_putObj' _ D (.deferred none)) (fun r e => by cases e; exact ⟨_, hK, rfl⟩)
        have k6 := cell_kept hc6 (grownBy_putObj' _ D (.deferred none)) (fun r e => by cases e; exact ⟨_, hK, rfl⟩)
        exact postM_mark rfl hK (results_cells2 rfl rfl rfl k5 k6 Try.underlying9 rfl Try.underlying28 rfl)
          ⟨rfl, hB.trans (belowK_b (w := W2) (by rw [HSZ2.out]; omega) W D _ _ hD hK rfl rfl)⟩
end
end Go.Proofs.Ytmhmfcphjfgppaa
